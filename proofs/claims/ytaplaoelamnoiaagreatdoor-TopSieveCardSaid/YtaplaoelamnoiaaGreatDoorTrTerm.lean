/- The parser's method term: an atom and its picks. Condition: the parser and its words lie; what the method expression does is known. -/
import Derived.Test.YtaplaoelamnoiaaGreatDoorBd09
namespace Go.Proofs.YtaplaoelamnoiaaGreatDoor
open Go.RowKit

theorem pPicks_on {rc : Nat → Option (Ex × Nat)} {ts : List Tok} {n i : Nat} {e e' : Ex} {j : Nat} (hk : M.kindAt ts i = 7) (h : M.pPicks rc ts (n + 1) e i = some (e', j)) : ∃ b q, rc (i + 1) = some (b, q) ∧ M.kindAt ts q = 8 ∧ M.pPicks rc ts n (.pick e b) (q + 1) = some (e', j) := by
  have h : (if M.kindAt ts i = 7 then (match rc (i + 1) with | some (b, j) => if M.kindAt ts j = 8 then M.pPicks rc ts n (.pick e b) (j + 1) else none | none => none) else some (e, i)) = some (e', j) := h
  rw [if_pos hk] at h
  split at h
  case h_2 => cases h
  rename_i b q hr
  split at h
  case isFalse => cases h
  rename_i h8
  exact ⟨b, q, hr, h8, h⟩
theorem pPicks_off {rc : Nat → Option (Ex × Nat)} {ts : List Tok} {n i : Nat} {e e' : Ex} {j : Nat} (hk : M.kindAt ts i ≠ 7) (h : M.pPicks rc ts (n + 1) e i = some (e', j)) : e = e' ∧ i = j := by
  have h : (if M.kindAt ts i = 7 then (match rc (i + 1) with | some (b, j) => if M.kindAt ts j = 8 then M.pPicks rc ts n (.pick e b) (j + 1) else none | none => none) else some (e, i)) = some (e', j) := h
  rw [if_neg hk] at h
  cases h
  exact ⟨rfl, rfl⟩
theorem pPicks_pos {rc : Nat → Option (Ex × Nat)} {ts : List Tok} {n i : Nat} {e e' : Ex} {j : Nat} (h : M.pPicks rc ts n e i = some (e', j)) : ∃ m, n = m + 1 := by
  cases n with
  | zero => cases h
  | succ m => exact ⟨m, rfl⟩

set_option maxRecDepth 20000 in
set_option maxHeartbeats 8000000 in
theorem term_any (rc : Nat → Option (Ex × Nat)) (g tb tc : Nat) (ts : List Tok) (hrc : RcOk ts rc) (i : Nat) (w : World) (h : Par g tb tc ts i w w) (e : Ex) (j : Nat) (he : M.pTerm rc ts i = some (e, j)) :
    Calls Tryz.prog 63 #[.pointer (some ⟨g, 0, none⟩)] w fun en w' => ∃ v, en = .returned v ∧ ExV (g + 1) w' e v ∧ Par g tb tc ts j w w' := by
  unfold M.pTerm at he
  split at he
  case h_2 => cases he
  rename_i e0 j0 ha
  have k0 := atom_any rc g tb tc ts hrc i w h e0 j0 ha
  have hgl := h.1.lt
  have h200 := h.2.2.2.2.2.2
  replace k0 := Lib.hid k0
  replace he := Lib.hid he
  replace h := Lib.hid h
  replace hrc := Lib.hid hrc
  clear ha
  go_enter Tryz.func63, Tryz.ntmps63
  go_wp2_with fail
  refine k0.out.mono ?_
  rintro en w2 ⟨v0, rfl, hv, P2⟩
  obtain ⟨T0, x0, rfl⟩ := hv.face
  replace hv := Lib.hid hv
  replace P2 := Lib.hid P2
  go_wp2
  go_loopg [3] 3 (fun k v wr => ∃ (p : Nat) (e' : Ex) (T : TypeId) (x : Value), v = .iface T x ∧ Par g tb tc ts p w wr ∧ ExV (g + 1) wr e' v ∧ M.pPicks rc ts k e' p = some (e, j))
  case atStart => exact ⟨j0, e0, T0, x0, rfl, P2.out, hv.out, he.out⟩
  case round =>
    obtain ⟨p, e', T, x, rfl, hP, hE, hp⟩ := hrel
    obtain ⟨m, hm⟩ := pPicks_pos hp
    subst hm
    have kk := kind_any g tb tc ts p wr hP.self
    have hgr := hP.1.lt
    by_cases hk7 : M.kindAt ts p = 7
    · obtain ⟨b, q, hr, h8, hp⟩ := pPicks_on hk7 hp
      have hpl := kind_lt (ts := ts) (i := p) (by rw [hk7]; decide)
      rw [hk7] at kk
      have ke := fun W (hW : Par g tb tc ts (p + 1) W W) => hrc.out g tb tc (p + 1) W hW b q hr
      have kq := fun W (hW : Par g tb tc ts q W W) => kind_any g tb tc ts q W hW
      rw [h8] at kq
      have kn := fun W (hW : Par g tb tc ts q W W) => need_k g tb tc ts q W hW 8 h8 (by decide)
      replace kk := Lib.hid kk
      replace ke := Lib.hid ke
      replace kq := Lib.hid kq
      replace kn := Lib.hid kn
      replace hp := Lib.hid hp
      replace hE := Lib.hid hE
      replace hP := Lib.hid hP
      replace hk7 := Lib.hid hk7
      replace hr := Lib.hid hr
      replace h8 := Lib.hid h8
      go_wp2_with fail
      refine kk.out.mono ?_
      rintro en w3 ⟨rfl, n3, hw3⟩
      have P3 : Par g tb tc ts p w w3 := by rw [hw3]; exact hP.out.drewN n3
      have E3 : ExV (g + 1) w3 e' (.iface T x) := hE.out.same fun b h1 h2 => by rw [hw3]; rfl
      replace hw3 := Lib.hid hw3
      obtain ⟨⟨⟨a, b', c⟩, d⟩, -⟩ := id P3
      have P4 := Lib.hid (P3.setAt (p + 1) (.int .i64 ((p : Nat) + 1 : Int)) (by simp))
      have E4 : ExV (g + 1) (w3.setCell ⟨g, 1, none⟩ (.int .i64 ((p : Nat) + 1 : Int))) e' (.iface T x) := E3.same fun b h1 h2 => Below.heap_setCell _ _ _ _ (by show b ≠ g; omega)
      replace E4 := Lib.hid E4
      replace P3 := Lib.hid P3
      replace E3 := Lib.hid E3
      go_wp2_with fail
      refine (ke.out _ P4.out.self).mono ?_
      rintro en w5 ⟨vb, rfl, hvb, hP5⟩
      have P5 := Lib.hid (P4.out.trans hP5)
      have E5 := Lib.hid (hP5.keep E4.out)
      obtain ⟨Tb, xb, rfl⟩ := hvb.face
      replace hvb := Lib.hid hvb
      have hg5 := P5.out.1.lt
      clear hP5 a b' c d
      have hb6 := (Below.refl w5.heap.size w5).alloc (Nat.le_refl _) (.cells #[.iface Tb xb] 67)
      have hB6 := boxC_alloc w5 #[.iface Tb xb] 67
      have P6 := Lib.hid (P5.out.step hb6)
      have E6 := Lib.hid (E5.out.same fun b _ h => hb6.block b h)
      have V6 := Lib.hid (hvb.out.same fun b _ h => hb6.block b h)
      have C6 := Lib.hid (hB6 0 _ rfl).1
      have hl6 : w5.heap.size < (w5.alloc (.cells #[.iface Tb xb] 67)).heap.size := by simp
      obtain ⟨w6, hw6⟩ : ∃ w6 : World, w6 = w5.alloc (.cells #[.iface Tb xb] 67) := ⟨_, rfl⟩
      rw [← hw6] at P6 E6 V6 C6 hl6
      have hw6' := Lib.hid hw6.symm
      replace hw6 := Lib.hid hw6
      clear hb6 hB6
      go_wp2_with fail
      rw [hw6'.out]
      go_loopg [4] 0 (fun k v wr => v = .slice (some ⟨w5.heap.size, 0, none⟩) 1 1 ∧ wr = w6)
      case atStart => exact ⟨rfl, rfl⟩
      case round =>
        obtain ⟨rfl, rfl⟩ := hrel
        have kk := Lib.hid (kq.out _ P6.out.self)
        go_wp2_with fail
        refine kk.out.mono ?_
        rintro en w7 ⟨rfl, n7, hw7⟩
        have P7 : Par g tb tc ts q w w7 := by rw [hw7]; exact P6.out.drewN n7
        have E7 : ExV (g + 1) w7 e' (.iface T x) := E6.out.same fun b h1 h2 => by rw [hw7]; rfl
        have V7 : ExV (g + 1) w7 b (.iface Tb xb) := V6.out.same fun b h1 h2 => by rw [hw7]; rfl
        have C7 : w7.cell? ⟨w5.heap.size, 0, none⟩ = some (.iface Tb xb) := by rw [hw7]; exact C6.out
        have hl7 : w5.heap.size < w7.heap.size := by rw [hw7]; exact hl6
        replace hw7 := Lib.hid hw7
        replace P7 := Lib.hid P7
        replace E7 := Lib.hid E7
        replace V7 := Lib.hid V7
        replace C7 := Lib.hid C7
        go_wp2_with fail
        refine (kn.out _ P7.out.self).mono ?_
        rintro en w8 ⟨⟨pl, rfl⟩, hP8⟩
        have P8 := Lib.hid (P7.out.trans hP8)
        have E8 := Lib.hid (hP8.keep E7.out)
        have V8 := Lib.hid (hP8.keep V7.out)
        have C8 := Lib.hid ((cell_of_eq (hP8.2.2.1 w5.heap.size hl7 (by omega)) 0).trans C7.out)
        clear hP8
        go_wp2
        go_roundg m
        case rel => exact ⟨q + 1, .pick e' b, _, _, rfl, P8.out, ⟨_, _, _, _, rfl, by omega, C8.out, E8.out, V8.out⟩, hp.out⟩
        case measure => omega
    · obtain ⟨rfl, rfl⟩ := pPicks_off hk7 hp
      have ek : (M.kindAt ts p == 7) = false := by rw [beq_eq_false_iff_ne]; exact hk7
      replace kk := Lib.hid kk
      replace hk7 := Lib.hid hk7
      replace hP := Lib.hid hP
      replace hE := Lib.hid hE
      go_wp2_with fail
      refine kk.out.mono ?_
      rintro en w3 ⟨rfl, n3, hw3⟩
      have P3 : Par g tb tc ts p w w3 := by rw [hw3]; exact hP.out.drewN n3
      have E3 : ExV (g + 1) w3 e' (.iface T x) := hE.out.same fun b h1 h2 => by rw [hw3]; rfl
      replace hw3 := Lib.hid hw3
      replace P3 := Lib.hid P3
      replace E3 := Lib.hid E3
      go_wp2
      go_ret
      exact ⟨_, rfl, E3.out, P3.out⟩
end Go.Proofs.YtaplaoelamnoiaaGreatDoor
