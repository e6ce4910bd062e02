/- The walk of the law TopSieve: it returns true at any number. Condition: the library's tables are laid. -/
import Derived.Test.YtaplaoelamnoiaaGreatDoorBdT12
import Derived.Test.YtaplaoelamnoiaaGreatDoorBdT06
import Derived.Test.YtaplaoelamnoiaaGreatDoorBdT00
import Derived.Test.YtaplaoelamnoiaaGreatDoorBdT16
import Derived.Test.YtaplaoelamnoiaaGreatDoorBdU1
import Derived.Deep.RegionHeld3
import Derived.Deep.Cut
namespace Go.Proofs.YtaplaoelamnoiaaGreatDoor
open Go.RowKit

/-- The two rows of the law, as far as i. -/
def SvRel (w0 : World) (i : Nat) (vp vq : Value) (wr : World) : Prop :=
  2 ≤ i ∧ Own wr w0.heap.size vp (fromTwo i) ∧ Own wr w0.heap.size vq (primesL (i - 2)) ∧ Apart vp vq ∧ Below w0.heap.size w0 wr
theorem rem_nat (i d : Nat) : ((i : Int).tmod (d : Int)) = ((i % d : Nat) : Int) := by
  rw [Int.tmod_eq_emod_of_nonneg (by omega)]; rfl

theorem primesL_next {i : Nat} (h : 2 ≤ i) : primesL (i + 1 - 2) = primesL (i - 2) ++ (if divB i i = true then [] else [(i : Int)]) := by
  obtain ⟨j, rfl⟩ : ∃ j, i = j + 2 := ⟨i - 2, by omega⟩
  rw [show j + 2 + 1 - 2 = j + 1 by omega, show j + 2 - 2 = j by omega]
  exact primesL_succ j
theorem divB_two (i : Nat) : divB i 2 = false := by simp [divB]
theorem divB_next {i d : Nat} (h : 2 ≤ d) : divB i (d + 1) = (divB i d || (i % d == 0)) := by
  show (divB i d || (decide (2 ≤ d) && (i % d == 0))) = _
  rw [decide_eq_true h, Bool.true_and]

set_option maxRecDepth 20000 in
set_option maxHeartbeats 8000000 in
theorem topSieve_main (n : Int) (w : World) (hT : Tz w) (h8 : 8 ≤ w.heap.size) :
    Calls Tryz.prog 4 #[.int .i64 n] w fun e w' => e = .returned (.bool true) ∧ Below w.heap.size w w' := by
  have E := (Env.start w).alloc (.cells #[.int .i64 2, .int .i64 3, .int .i64 4] 3)
  have k1 : ∀ (m : Nat) (_ : m ≤ 64) W A (_ : WsAt (some A) (svWs m) W) (_ : Tz W) (_ : 8 ≤ W.heap.size) (a : Option Addr) (b : Option Addr) (k : Nat) (_ : Row W a [((primesL (m - 2)).length : Int)]) (_ : Row W b (primesL (m - 2))), Calls Tryz.prog 7 #[.slice (some A) 1 1, .string ⟨#[40, 126, 112, 226, 136, 138, 112, 226, 136, 152, 46, 195, 151, 112, 41, 47, 112]⟩, arrV false a 1 1 b (primesL (m - 2)).length k] W fun e w' => e = .returned (.bool true) ∧ Below W.heap.size W w' :=
    fun m hm W A hW hT h8 a b k r1 r2 => (tells_any (some A) (svWs m) 1 M.v1S M.v1T M.v1E _ ⟨false, [((primesL (m - 2)).length : Int)], primesL (m - 2)⟩ a 1 b k W hW (svWs_ok hm) hT h8 line_v1 (v1_val hm) (by simp) (by have := primesL_length (m - 2); simp only; omega) r1 r2 (by simp) (by have := primesL_length (m - 2); simp only; omega)).mono fun e w' h => ⟨h.1.trans (by rw [decide_eq_true rfl]), h.2⟩
  have k2 : ∀ (m : Nat) (_ : 2 ≤ m) (_ : m ≤ 64) W A (_ : WsAt (some A) (snWs m) W) (_ : Tz W) (_ : 8 ≤ W.heap.size) (a : Option Addr) (b : Option Addr) (k : Nat) (_ : Row W a [((fromTwo m).length : Int)]) (_ : Row W b (fromTwo m)), Calls Tryz.prog 7 #[.slice (some A) 1 1, .string ⟨#[50, 226, 134, 147, 226, 141, 179, 110]⟩, arrV false a 1 1 b (fromTwo m).length k] W fun e w' => e = .returned (.bool true) ∧ Below W.heap.size W w' :=
    fun m h2 hm W A hW hT h8 a b k r1 r2 => (tells_any (some A) (snWs m) 1 M.v2S M.v2T M.v2E _ ⟨false, [((fromTwo m).length : Int)], fromTwo m⟩ a 1 b k W hW (snWs_ok m) hT h8 line_v2 (v2_val h2 hm) (by simp) (by have := fromTwo_length m; simp only; omega) r1 r2 (by simp) (by have := fromTwo_length m; simp only; omega)).mono fun e w' h => ⟨h.1.trans (by rw [decide_eq_true rfl]), h.2⟩
  have kf : ∀ W A (_ : WsAt (some A) [⟨⟨#[112]⟩, ⟨false, [3], [2, 3, 4]⟩⟩] W) (_ : Tz W) (_ : 8 ≤ W.heap.size) (a : Option Addr) (b : Option Addr) (k : Nat) (_ : Row W a [2]) (_ : Row W b [2, 3]), Calls Tryz.prog 7 #[.slice (some A) 1 1, .string ⟨#[40, 126, 112, 226, 136, 138, 112, 226, 136, 152, 46, 195, 151, 112, 41, 47, 112]⟩, arrV false a 1 1 b 2 k] W fun e w' => e = .returned (.bool true) ∧ Below W.heap.size W w' := by
    have h := k1 5 (by decide)
    rw [show primesL (5 - 2) = [2, 3] from primesL_three] at h
    unfold svWs svX at h
    rw [fromTwo_five] at h
    exact h
  have kv := fun W p (hp : Row W p [2, 3, 4]) => vector_room false p [2, 3, 4] 3 3 W hp (by decide) rfl
  have kv2 := fun W p (hp : Row W p [2, 3]) => vector_one false p [2, 3] 2 2 W hp (by decide) rfl
  have kw := fun W => withinS_any n 2 64 W
  have r01 : Row (w.alloc (.cells #[.int .i64 2, .int .i64 3, .int .i64 4] 3)) (some ⟨w.heap.size, 0, none⟩) [2, 3, 4] := row_three (by simp [go_sem]) (by simp [go_sem]) (by simp [go_sem])
  obtain ⟨W, hW⟩ : ∃ W : World, W = w.alloc (.cells #[.int .i64 2, .int .i64 3, .int .i64 4] 3) := ⟨_, rfl⟩
  rw [← hW] at E r01
  have hW' := Lib.hid hW.symm
  replace hW := Lib.hid hW
  replace kf := Lib.hid kf
  replace k1 := Lib.hid k1
  replace k2 := Lib.hid k2
  replace kv := Lib.hid kv
  replace kv2 := Lib.hid kv2
  replace kw := Lib.hid kw
  replace r01 := Lib.hid r01
  replace hT := Lib.hid hT
  replace E := Lib.hid E
  go_enter Tryz.func4, Tryz.ntmps4
  go_wp2_with fail
  rw [hW'.out]
  replace E := E.out
  refine (kv.out W _ r01.out).mono ?_
  rintro e v1 ⟨av, bv, kk, rfl, ra, rb, hkk, hb⟩
  dsimp only [List.length_cons, List.length_nil, Nat.reduceAdd] at ra rb hkk ⊢
  replace E := Lib.hid (((E.step hb).addRow rb).addRow ra)
  replace hkk := Lib.hid hkk
  clear hb ra rb
  go_wp2_with fail
  refine (bind_any _ _ _ _ _ _ _ _ _).mono ?_
  rintro e v2 ⟨rfl, hb⟩
  replace E := E.out.step hb
  clear hb
  have hws := wsAt_one (w := v2) (nm := ⟨#[112]⟩) (a := av) (c := 1) (b := bv) (k := kk) (x := ⟨false, [3], [2, 3, 4]⟩) (E.getRow 0 rfl) (E.getRow 1 rfl) hkk.out
  have hba := push (start v2) (.cells #[.string ⟨#[112]⟩, .bool false, .slice av 1 1, .slice bv 3 kk] 33)
  obtain ⟨A2, hA2⟩ : ∃ A : Addr, A = ⟨v2.heap.size, 0, none⟩ := ⟨_, rfl⟩
  obtain ⟨v3, hv3⟩ : ∃ W : World, W = v2.alloc (.cells #[.string ⟨#[112]⟩, .bool false, .slice av 1 1, .slice bv 3 kk] 33) := ⟨_, rfl⟩
  dsimp only [List.length_cons, List.length_nil, Nat.reduceAdd] at hws
  rw [← hv3] at hba
  rw [← hv3, ← hA2] at hws
  replace E := E.step hba
  have r02 : Row (v3.alloc (.cells #[.int .i64 2, .int .i64 3] 3)) (some ⟨v3.heap.size, 0, none⟩) [2, 3] := row_two (by simp [go_sem]) (by simp [go_sem])
  have hbb := push (start v3) (.cells #[.int .i64 2, .int .i64 3] 3)
  obtain ⟨v4, hv4⟩ : ∃ W : World, W = v3.alloc (.cells #[.int .i64 2, .int .i64 3] 3) := ⟨_, rfl⟩
  rw [← hv4] at r02 hbb
  replace E := E.step hbb
  have hws4 := hws.below hbb
  have sv3 : v3.heap.size = v2.heap.size + 1 := by rw [hv3]; simp
  rw [sv3] at r02
  replace sv3 := Lib.hid sv3
  have hv3' := Lib.hid hv3.symm
  have hv4' := Lib.hid hv4.symm
  replace hv3 := Lib.hid hv3
  replace hv4 := Lib.hid hv4
  replace hA2 := Lib.hid hA2
  replace E := Lib.hid E
  replace hws := Lib.hid hws
  replace hws4 := Lib.hid hws4
  replace r02 := Lib.hid r02
  clear hba hbb
  go_wp2_with fail
  rw [hv3'.out, hv4'.out]
  replace E := E.out
  refine (kv2.out v4 (some ⟨v2.heap.size + 1, 0, none⟩) r02.out).mono ?_
  rintro e v5 ⟨ax, bx, kx, rfl, ra, rb, hb⟩
  dsimp only [List.length_cons, List.length_nil, Nat.reduceAdd] at ra rb ⊢
  replace E := Lib.hid (((E.step hb).addRow rb).addRow ra)
  replace hws4 := Lib.hid (hws4.out.below hb)
  clear hb ra rb
  go_wp2_with fail
  rw [← hA2.out]
  refine (kf.out v5 A2 hws4.out (hT.out.below E.out.bel h8) (Nat.le_trans h8 E.out.bel.size) ax bx kx (E.out.getRow 0 rfl) (E.out.getRow 1 rfl)).mono ?_
  rintro e v6 ⟨rfl, hb⟩
  replace E := Lib.hid (E.out.step hb)
  clear hb hws4 hws
  go_wp2_with fail
  refine (kw.out v6).mono ?_
  rintro e v7 ⟨rfl, hv7⟩
  subst hv7
  cases hin : decide (2 ≤ n) && decide (n ≤ 64)
  case false =>
    replace hin := Lib.hid hin
    go_wp2
    go_ret
    exact ⟨rfl, E.out.bel⟩
  have hb2 : 2 ≤ n ∧ n ≤ 64 := by have h := hin; rw [Bool.and_eq_true, decide_eq_true_eq, decide_eq_true_eq] at h; exact h
  obtain ⟨N, rfl⟩ : ∃ N : Nat, n = (N : Int) := ⟨n.toNat, by omega⟩
  have hN2 : 2 ≤ N := by omega
  have hN : N ≤ 64 := by omega
  replace hin := Lib.hid hin
  clear hb2
  have h0 : SvRel v7 2 (.slice none 0 0) (.slice none 0 0) v7 := ⟨Nat.le_refl _, Own.nil _ _, Own.nil _ _, fun k h => by simp [Value.ownBlock] at h, Below.refl _ _⟩
  replace h0 := Lib.hid h0
  go_wp2
  go_loopw [6, 4, 5] (fun vi vp vq wr => ∃ i : Nat, vi = .int .i64 i ∧ i ≤ N ∧ SvRel v7 i vp vq wr) (fun vi _ _ _ => N - (intOf vi).toNat)
  case atStart => exact ⟨2, rfl, hN2, h0.out⟩
  case round =>
    obtain ⟨i, rfl, hi, hR⟩ := hrel
    obtain ⟨h2, hP, hQ, hA, hbel⟩ := id hR
    by_cases hlt : i < N
    · have hf := Lib.hid (fromTwo_succ h2)
      have hq := Lib.hid (primesL_next h2)
      have lP : (fromTwo i).length < 17592186044416 := by rw [fromTwo_length]; omega
      have lQ : (primesL (i - 2)).length < 17592186044416 := by have := primesL_length (i - 2); omega
      have hB := hbel.size
      replace hP := Lib.hid hP
      replace hQ := Lib.hid hQ
      replace hA := Lib.hid hA
      replace hR := Lib.hid hR
      replace hbel := Lib.hid hbel
      replace lP := Lib.hid lP
      replace lQ := Lib.hid lQ
      go_wp2_with (first | (at_builtin; refine app_two rfl (.tmp 32) (.tmp 34) rfl v7.heap.size _ (fromTwo i) (i : Int) rfl hP.out rfl lP.out hB ?_; intro vp' w' ho' hg' hb' hl'; replace hg' := Lib.hid hg'; replace hb' := Lib.hid hb') | fail)
      have hQ' := Lib.hid (hg'.out.own hQ.out hA.out.swap)
      have hA' := Lib.hid (hg'.out.apart hQ.out hA.out.swap)
      have hbel' := Lib.hid (hbel.out.trans hb'.out)
      have hB' := hbel'.out.size
      rw [← hf.out] at ho'
      replace ho' := Lib.hid ho'
      clear hP hQ hA hR hg' hb' hl' hbel hB
      go_loopw [8, 7] (fun vd vb wr => wr = w' ∧ ∃ (d : Nat) (p : Bool), vd = .int .i64 d ∧ 2 ≤ d ∧ d ≤ i ∧ vb = .bool p ∧ p = !divB i d) (fun vd _ _ => i - (intOf vd).toNat)
      case atStart => exact ⟨rfl, 2, true, rfl, Nat.le_refl _, h2, rfl, by rw [divB_two]; rfl⟩
      case round =>
        obtain ⟨rfl, d, p, rfl, hd2, hdi, rfl, hp⟩ := hrel
        by_cases hdl : d < i
        · have hn := divB_next (i := i) hd2
          have hr := rem_nat i d
          have hr2 : (i : Int) % (d : Int) = ((i % d : Nat) : Int) := rfl
          have hd0 : ((d : Int) == 0) = false := by rw [beq_eq_false_iff_ne]; omega
          have hd1 : (d : Int) ≠ 0 := by omega
          cases hz : (i % d == 0)
          · have hz' : (((i % d : Nat) : Int) == 0) = false := by rw [beq_eq_false_iff_ne]; rw [beq_eq_false_iff_ne] at hz; omega
            rw [hz, Bool.or_false] at hn
            rw [← hn] at hp
            replace hp := Lib.hid hp
            replace hz := Lib.hid hz
            replace hn := Lib.hid hn
            generalize i % d = r at *
            go_wp2
            go_roundw
            case rel => exact ⟨by trivial, d + 1, p, by go_num, by omega, hdl, rfl, hp.out⟩
            case measure => simp [intOf]; omega
          · have hz' : (((i % d : Nat) : Int) == 0) = true := by rw [beq_iff_eq]; rw [beq_iff_eq] at hz; omega
            rw [hz, Bool.or_true] at hn
            replace hp := Lib.hid hp
            replace hz := Lib.hid hz
            replace hn := Lib.hid hn
            generalize i % d = r at *
            go_wp2
            go_roundw
            case rel => exact ⟨by trivial, d + 1, false, by go_num, by omega, hdl, rfl, by rw [hn.out]; rfl⟩
            case measure => simp [intOf]; omega
        · obtain rfl : d = i := by omega
          have e1 : decide (((d : Nat) : Int) < ((d : Nat) : Int)) = false := decide_eq_false (by omega)
          cases hdb : divB d d
          · rw [hdb] at hp
            subst hp
            have hq' := hq.out
            rw [if_neg (by rw [hdb]; decide)] at hq'
            replace hq' := Lib.hid hq'
            replace hdb := Lib.hid hdb
            go_wp2_with (first | (at_builtin; refine app_two rfl (.tmp 46) (.tmp 48) rfl v7.heap.size _ (primesL (d - 2)) (d : Int) rfl hQ'.out rfl lQ.out hB' ?_; intro vq' w'' ho'' hg'' hb'' hl''; replace ho'' := Lib.hid ho''; replace hg'' := Lib.hid hg''; replace hb'' := Lib.hid hb'') | fail)
            go_roundw
            case rel => exact ⟨d + 1, by go_num, hlt, by omega, hg''.out.own ho'.out hA'.out.swap, by rw [hq'.out]; exact ho''.out, hg''.out.apart ho'.out hA'.out.swap, hbel'.out.trans hb''.out⟩
            case measure => simp [intOf]; omega
          · rw [hdb] at hp
            subst hp
            have hq' := hq.out
            rw [if_pos hdb, List.append_nil] at hq'
            replace hq' := Lib.hid hq'
            replace hdb := Lib.hid hdb
            go_wp2
            go_roundw
            case rel => exact ⟨d + 1, by go_num, hlt, by omega, ho'.out, by rw [hq'.out]; exact hQ'.out, hA'.out.swap, hbel'.out⟩
            case measure => simp [intOf]; omega
    · obtain rfl : i = N := by omega
      have e1 : decide (((i : Nat) : Int) < ((i : Nat) : Int)) = false := decide_eq_false (by omega)
      obtain ⟨ap, cp, rfl, -, -, rp⟩ := hP.view
      obtain ⟨aq, cq, rfl, -, -, rq⟩ := hQ.view
      have kvp := fun W h => vector_room false ap (fromTwo i) (fromTwo i).length cp W h (by rw [fromTwo_length]; omega) rfl
      have kvq := fun W h => vector_one false aq (primesL (i - 2)) (primesL (i - 2)).length cq W h (by have := primesL_length (i - 2); omega) rfl
      have kt1 := k1.out i hN
      have kt2 := k2.out i hN2 hN
      have kn := fun W => num_any (i : Int) W
      obtain ⟨lp, hlp⟩ : ∃ lp, lp = (fromTwo i).length := ⟨_, rfl⟩
      obtain ⟨lq, hlq⟩ : ∃ lq, lq = (primesL (i - 2)).length := ⟨_, rfl⟩
      obtain ⟨P, hPe⟩ : ∃ P, P = fromTwo i := ⟨_, rfl⟩
      obtain ⟨q, hqe⟩ : ∃ q, q = primesL (i - 2) := ⟨_, rfl⟩
      unfold svWs svX at kt1
      unfold VecRoom at kvp
      unfold VecOne at kvq
      rw [← hlp, ← hPe] at kvp
      rw [← hlq, ← hqe] at kvq
      rw [← hlp, ← hPe, ← hlq, ← hqe] at kt1
      rw [← hlp, ← hPe] at kt2
      rw [← hPe] at rp
      rw [← hqe] at rq
      have hlP : lp = P.length := by rw [hlp, hPe]
      have hw1 : ∀ W a b k, Row W a [(lp : Int)] → Row W b P → lp ≤ k → WsAt (some ⟨W.heap.size, 0, none⟩) [⟨⟨#[112]⟩, ⟨false, [(lp : Int)], P⟩⟩] (W.alloc (.cells #[.string ⟨#[112]⟩, .bool false, .slice a 1 1, .slice b lp k] 33)) := fun W a b k h1 h2 h3 => by
        have h := wsAt_one (w := W) (nm := ⟨#[112]⟩) (a := a) (c := 1) (b := b) (k := k) (x := ⟨false, [(lp : Int)], P⟩) h1 h2 (by rw [← hlP]; exact h3)
        dsimp only at h
        rw [← hlP] at h
        exact h
      rw [← hlp, ← hlq]
      have Ew := ((E.out.step hbel).addRow rq).addRow rp
      replace hP := Lib.hid hP
      replace hQ := Lib.hid hQ
      replace hR := Lib.hid hR
      replace hA := Lib.hid hA
      replace kvp := Lib.hid kvp
      replace kvq := Lib.hid kvq
      replace kt1 := Lib.hid kt1
      replace kt2 := Lib.hid kt2
      replace hw1 := Lib.hid hw1
      replace hlp := Lib.hid hlp
      replace hlq := Lib.hid hlq
      replace hPe := Lib.hid hPe
      replace hqe := Lib.hid hqe
      replace hlP := Lib.hid hlP
      replace kn := Lib.hid kn
      replace hbel := Lib.hid hbel
      replace Ew := Lib.hid Ew
      clear rp rq
      go_wp2_with fail
      refine (kvp.out wr (Ew.out.getRow 0 rfl)).mono ?_
      rintro e x1 ⟨a1, b1, kk1, rfl, ra, rb, hkk1, hb⟩
      replace Ew := ((Ew.out.step hb).addRow rb).addRow ra
      clear hb ra rb
      replace Ew := Ew.box false a1 1 1 b1 lp kk1
      obtain ⟨x2, hx2⟩ : ∃ W : World, W = x1.alloc (.cells #[.bool false, .slice a1 1 1, .slice b1 lp kk1] 24) := ⟨_, rfl⟩
      rw [← hx2] at Ew
      have hx2' := Lib.hid hx2.symm
      replace hx2 := Lib.hid hx2
      replace hkk1 := Lib.hid hkk1
      have hS0 : x2.drew.cell? ⟨x1.heap.size, 0, none⟩ = some (.bool false) ∧ x2.drew.cell? ⟨x1.heap.size, 1, none⟩ = some (.slice a1 1 1) ∧ x2.drew.cell? ⟨x1.heap.size, 2, none⟩ = some (.slice b1 lp kk1) := (Ew.getBox 0 rfl).1
      replace Ew := Lib.hid Ew
      go_upto_region 19 with fail
      rw [hx2'.out]
      go_region_held3 (fun w' => w'.cell? ⟨x1.heap.size, 0, none⟩ = some (.bool false) ∧ w'.cell? ⟨x1.heap.size, 1, none⟩ = some (.slice a1 1 1) ∧ w'.cell? ⟨x1.heap.size, 2, none⟩ = some (.slice b1 lp kk1))
        (first | (with_reducible assumption) | (exact held3 hb3 (by with_reducible assumption)) | (exact held3 hb4 (by with_reducible assumption)) | (exact held3 hb5 (by with_reducible assumption)) | (exact alloc3 (by with_reducible assumption) _) | go_keep)
        (first
          | (go_at_call 15; refine (kn.out _).mono ?_; rintro e x3 ⟨g3, rfl, hg3, rb3, hb3⟩; have hS3 := held3 (N := x1.heap.size) (x := .bool false) (y := .slice a1 1 1) (z := .slice b1 lp kk1) hb3 (by with_reducible assumption))
          | (go_at_call 12; refine (bind_any _ _ _ _ _ _ _ _ _).mono ?_; rintro e x4 ⟨rfl, hb4⟩; have hS4 := held3 (N := x1.heap.size) (x := .bool false) (y := .slice a1 1 1) (z := .slice b1 lp kk1) hb4 (by with_reducible assumption))
          | (go_at_call 7; have E4 := ((((Ew.out.drew 1).step hb3).addRow rb3).step hb4); have hwn := wsAt_one (w := x4) (nm := ⟨#[110]⟩) (a := none) (c := 0) (b := some ⟨g3, 0, none⟩) (k := 1) (x := ⟨false, [], [(i : Int)]⟩) (fun _ h => absurd h (by simp)) (E4.getRow 0 rfl) (Nat.le_refl 1); have E5 := E4.step (push (start x4) (.cells #[.string ⟨#[110]⟩, .bool false, .slice none 0 0, .slice (some ⟨g3, 0, none⟩) 1 1] 33)); refine (kt2.out _ _ hwn (hT.out.below E5.bel h8) (Nat.le_trans h8 E5.bel.size) a1 b1 kk1 (E5.getRow 2 rfl) (E5.getRow 3 rfl)).mono ?_; rintro e x5 ⟨rfl, hb5⟩; replace E5 := E5.step hb5; clear E4 hwn; have hS5 := (E5.getBox 1 rfl).1))
      clear hS0 hb3 hb4 hb5 hS3 hS4 hS5
      obtain ⟨y0, y1, y2⟩ := (E5.getBox 1 rfl).1
      replace E5 := Lib.hid E5
      go_wp2_with fail
      refine (bind_any _ _ _ _ _ _ _ _ _).mono ?_
      rintro e x6 ⟨rfl, hb⟩
      have E6 := E5.out.step hb
      have hws := hw1.out x6 a1 b1 kk1 (E6.getRow 2 rfl) (E6.getRow 3 rfl) hkk1.out
      have hba := push (start x6) (.cells #[.string ⟨#[112]⟩, .bool false, .slice a1 1 1, .slice b1 lp kk1] 33)
      obtain ⟨x7, hx7⟩ : ∃ W : World, W = x6.alloc (.cells #[.string ⟨#[112]⟩, .bool false, .slice a1 1 1, .slice b1 lp kk1] 33) := ⟨_, rfl⟩
      rw [← hx7] at hws hba
      replace E6 := E6.step hba
      have hx7' := Lib.hid hx7.symm
      replace hx7 := Lib.hid hx7
      replace hws := Lib.hid hws
      replace E6 := Lib.hid E6
      clear y0 y1 y2 hb hba
      go_wp2_with fail
      rw [hx7'.out]
      refine (kvq.out x7 (E6.out.getRow 5 rfl)).mono ?_
      rintro e x8 ⟨a9, b9, k9, rfl, ra, rb, hb⟩
      replace E6 := Lib.hid (((E6.out.step hb).addRow rb).addRow ra)
      replace hws := Lib.hid (hws.out.below hb)
      clear ra rb hb
      go_wp2_with fail
      refine (kt1.out x8 ⟨x6.heap.size, 0, none⟩ hws.out (hT.out.below E6.out.bel h8) (Nat.le_trans h8 E6.out.bel.size) a9 b9 k9 (E6.out.getRow 0 rfl) (E6.out.getRow 1 rfl)).mono ?_
      rintro e x9 ⟨rfl, hb⟩
      replace E6 := Lib.hid (E6.out.step hb)
      clear hb hws
      go_wp2
      go_ret
      exact ⟨rfl, E6.out.bel⟩
theorem topSieve_walk (n : Int) (w : World) (_ : I64 n) (hg : Zl w) :
    Calls Tryz.prog 4 #[.int .i64 n] w fun e w' => e = .returned (.bool true) ∧ Below w.heap.size w w' :=
  topSieve_main n w hg.1 hg.2
end Go.Proofs.YtaplaoelamnoiaaGreatDoor
