/- Texts that lie in one file: what is plain, rows, boxes, squares, and what is known of a world. No condition. -/
import Derived.Test.YtaplaoelamnoiaaGreatDoorBg01
import Derived.Test.YtaplaoelamnoiaaGreatDoorBg00
import Derived.Deep.LoopGhost
import Derived.Test.YtaplaoelamnoiaaGreatDoorBg05
/- The reader's method while, at the three kinds of bytes. Condition: the reader lies. -/
namespace Go.Proofs.YtaplaoelamnoiaaGreatDoor
open Go.RowKit

namespace M
/-- The byte at a place. -/
def byteAt (s : ByteArray) (i : Nat) : Int := if h : i < s.size then ((s[i]'h).toNat : Int) else 0
/-- Where bytes of a kind end. -/
def stopAt (q : Int → Bool) (s : ByteArray) : Nat → Nat → Nat
  | 0, i => i
  | n + 1, i => if i < s.size ∧ q (byteAt s i) = true then stopAt q s n (i + 1) else i
def ends (q : Int → Bool) (s : ByteArray) (i : Nat) : Nat := stopAt q s (s.size - i) i
end M
theorem ends_on {q : Int → Bool} {s : ByteArray} {i : Nat} (h : i < s.size) (hq : q (M.byteAt s i) = true) : M.ends q s i = M.ends q s (i + 1) := by
  unfold M.ends
  obtain ⟨n, hn⟩ : ∃ n, s.size - i = n + 1 := ⟨s.size - i - 1, by omega⟩
  rw [hn, show s.size - (i + 1) = n by omega]
  unfold M.stopAt
  rw [if_pos ⟨h, hq⟩]
  cases n <;> rfl
theorem ends_off {q : Int → Bool} {s : ByteArray} {i : Nat} (h : ¬ (i < s.size ∧ q (M.byteAt s i) = true)) : M.ends q s i = i := by
  unfold M.ends
  cases hn : s.size - i with
  | zero => rfl
  | succ n => unfold M.stopAt; rw [if_neg h]
theorem Rd.drewN {g : Nat} {s : ByteArray} {p : Nat} {wv : Value} {w : World} (h : Rd g s p wv w) (n : Nat) : Rd g s p wv (w.drewN n) := h
theorem Rd.setPos {g : Nat} {s : ByteArray} {p : Nat} {wv : Value} {w : World} (h : Rd g s p wv w) (p' : Nat) (v : Value) (hv : v = .int .i64 p') : Rd g s p' wv (w.setCell ⟨g, 1, none⟩ v) := by
  subst hv
  obtain ⟨⟨c0, c1, c2⟩, f1, f2⟩ := h
  refine ⟨⟨?_, ?_, ?_⟩, ?_, ?_⟩
  · rw [World.cell?_setCell_other _ _ _ _ (by simp)]; exact c0
  · exact World.cell?_setCell_same' _ _ _ (by rw [c1]; rfl)
  · rw [World.cell?_setCell_other _ _ _ _ (by simp)]; exact c2
  · rw [World.frozen?_setCell]; exact f1
  · rw [World.frozen?_setCell]; exact f2
theorem Rd.lt {g : Nat} {s : ByteArray} {p : Nat} {wv : Value} {w : World} (h : Rd g s p wv w) : g < w.heap.size := World.block_lt_of_cell? _ _ h.1.1

set_option maxRecDepth 20000 in
set_option maxHeartbeats 4000000 in
theorem while_digit (g : Nat) (s : ByteArray) (p : Nat) (wv : Value) (w : World) (h : Rd g s p wv w) (hp : p ≤ s.size) (hs : s.size ≤ 1000) :
    Calls Tryz.prog 31 #[.pointer (some ⟨g, 0, none⟩), .func (.func 46) #[] #[]] w fun e w' =>
      e = .returned (.string (s.extract p (M.ends M.dig s p))) ∧ Rd g s (M.ends M.dig s p) wv w' ∧ But g w w' ∧ Below g w w' ∧ M.ends M.dig s p ≤ s.size := by
  have hend := Lib.hid (rfl : M.ends M.dig s p = M.ends M.dig s p)
  go_enter Tryz.func31, Tryz.ntmps31
  obtain ⟨⟨c0, c1, c2⟩, f1, f2⟩ := id h
  go_wp2
  go_loopg [] (s.size - p) (fun k wr => ∃ i : Nat, p ≤ i ∧ i ≤ s.size ∧ k = s.size - i ∧ M.ends M.dig s p = M.ends M.dig s i ∧ Rd g s i wv wr ∧ But g w wr ∧ Below g w wr)
  case atStart => exact ⟨p, Nat.le_refl _, hp, rfl, rfl, h, But.refl _ _, Below.refl _ _⟩
  case round =>
    clear c0 c1 c2 f1 f2
    obtain ⟨i, hpi, his, hk, he, hR, hBu, hBe⟩ := hrel
    obtain ⟨⟨c0, c1, c2⟩, f1, f2⟩ := id hR
    have i0 : (0 : Int) ≤ ((i : Nat) : Int) := by omega
    by_cases hlt : i < s.size
    · have i1 : ((i : Nat) : Int) < ((s.size : Nat) : Int) := by omega
      have hb : M.byteAt s i = (((s[i]'hlt).toNat : Nat) : Int) := by unfold M.byteAt; rw [dif_pos hlt]
      by_cases hq : M.dig (((s[i]'hlt).toNat : Nat) : Int) = true
      · have hn := (ends_on hlt (by rw [hb]; exact hq) : M.ends M.dig s i = _)
        have hR2 := (hR.setPos (i + 1) (.int .i64 ((i : Nat) + 1 : Int)) rfl)
        have hBu2 := Lib.hid hBu
        have hBe2 := Lib.hid hBe
        have he2 := Lib.hid (he.trans hn)
        have hRh := Lib.hid hR
        replace hn := Lib.hid hn
        replace he := Lib.hid he
        replace hk := Lib.hid hk
        replace hb := Lib.hid hb
        clear hR hBu hBe hR2
        go_wp2_with fail
        go_quiet ((go_at_call 46; refine Calls.quiet_of_same ((digit_any _ _).mono fun e w' h => ⟨h.1, h.2.symm⟩)))
        go_wp2
        go_roundg (s.size - (i + 1))
        case rel => exact ⟨i + 1, by omega, by omega, rfl, he2.out, (hRh.out.drewN _).setPos (i + 1) _ (by simp), fun b hb2 hne => (Below.heap_setCell _ _ _ b hne).trans (hBu2.out b hb2 hne), (below_drewN hBe2.out _).setCell (Nat.le_refl _) _⟩
        case measure => rw [hk.out]; omega
      · replace hq := Bool.eq_false_iff.2 hq
        have hn := (ends_off (q := M.dig) (s := s) (i := i) fun h => by rw [hb, hq] at h; cases h.2)
        have hen := Lib.hid (he.trans hn)
        have hRh := Lib.hid hR
        replace hn := Lib.hid hn
        replace he := Lib.hid he
        replace hb := Lib.hid hb
        replace hBu := Lib.hid hBu
        replace hBe := Lib.hid hBe
        have j1 : ((p : Nat) : Int) ≤ ((i : Nat) : Int) := by omega
        have j2 : ((i : Nat) : Int) ≤ ((s.size : Nat) : Int) := by omega
        clear hR
        go_wp2_with fail
        go_quiet ((go_at_call 46; refine Calls.quiet_of_same ((digit_any _ _).mono fun e w' h => ⟨h.1, h.2.symm⟩)))
        go_wp2_with fail
        go_quiet (fail)
        go_wp2
        go_ret
        rw [hen.out]
        exact ⟨rfl, (hRh.out.drewN _).drewN _, hBu.out, below_drewN (below_drewN hBe.out _) _, his⟩
    · have hn := (ends_off (q := M.dig) (s := s) (i := i) fun h => hlt h.1)
      have hen := Lib.hid (he.trans hn)
      have hRh := Lib.hid hR
      have e0 : decide (((i : Nat) : Int) < ((s.size : Nat) : Int)) = false := decide_eq_false (by omega)
      replace hn := Lib.hid hn
      replace he := Lib.hid he
      replace hBu := Lib.hid hBu
      replace hBe := Lib.hid hBe
      have j1 : ((p : Nat) : Int) ≤ ((i : Nat) : Int) := by omega
      have j2 : ((i : Nat) : Int) ≤ ((s.size : Nat) : Int) := by omega
      clear hR
      go_wp2_with fail
      go_quiet (fail)
      go_wp2_with fail
      go_quiet (fail)
      go_wp2
      go_ret
      rw [hen.out]
      exact ⟨rfl, (hRh.out.drewN _).drewN _, hBu.out, below_drewN (below_drewN hBe.out _) _, his⟩

set_option maxRecDepth 20000 in
set_option maxHeartbeats 4000000 in
theorem while_within (g : Nat) (s : ByteArray) (p : Nat) (wv : Value) (w : World) (h : Rd g s p wv w) (hp : p ≤ s.size) (hs : s.size ≤ 1000) :
    Calls Tryz.prog 31 #[.pointer (some ⟨g, 0, none⟩), .func (.func 49) #[] #[]] w fun e w' =>
      e = .returned (.string (s.extract p (M.ends M.inn s p))) ∧ Rd g s (M.ends M.inn s p) wv w' ∧ But g w w' ∧ Below g w w' ∧ M.ends M.inn s p ≤ s.size := by
  have hend := Lib.hid (rfl : M.ends M.inn s p = M.ends M.inn s p)
  go_enter Tryz.func31, Tryz.ntmps31
  obtain ⟨⟨c0, c1, c2⟩, f1, f2⟩ := id h
  go_wp2
  go_loopg [] (s.size - p) (fun k wr => ∃ i : Nat, p ≤ i ∧ i ≤ s.size ∧ k = s.size - i ∧ M.ends M.inn s p = M.ends M.inn s i ∧ Rd g s i wv wr ∧ But g w wr ∧ Below g w wr)
  case atStart => exact ⟨p, Nat.le_refl _, hp, rfl, rfl, h, But.refl _ _, Below.refl _ _⟩
  case round =>
    clear c0 c1 c2 f1 f2
    obtain ⟨i, hpi, his, hk, he, hR, hBu, hBe⟩ := hrel
    obtain ⟨⟨c0, c1, c2⟩, f1, f2⟩ := id hR
    have i0 : (0 : Int) ≤ ((i : Nat) : Int) := by omega
    by_cases hlt : i < s.size
    · have i1 : ((i : Nat) : Int) < ((s.size : Nat) : Int) := by omega
      have hb : M.byteAt s i = (((s[i]'hlt).toNat : Nat) : Int) := by unfold M.byteAt; rw [dif_pos hlt]
      by_cases hq : M.inn (((s[i]'hlt).toNat : Nat) : Int) = true
      · have hn := (ends_on hlt (by rw [hb]; exact hq) : M.ends M.inn s i = _)
        have hR2 := (hR.setPos (i + 1) (.int .i64 ((i : Nat) + 1 : Int)) rfl)
        have hBu2 := Lib.hid hBu
        have hBe2 := Lib.hid hBe
        have he2 := Lib.hid (he.trans hn)
        have hRh := Lib.hid hR
        replace hn := Lib.hid hn
        replace he := Lib.hid he
        replace hk := Lib.hid hk
        replace hb := Lib.hid hb
        clear hR hBu hBe hR2
        go_wp2_with fail
        go_quiet ((go_at_call 49; refine Calls.quiet_of_same ((within_any _ _).mono fun e w' h => ⟨h.1, h.2.symm⟩)))
        go_wp2
        go_roundg (s.size - (i + 1))
        case rel => exact ⟨i + 1, by omega, by omega, rfl, he2.out, (hRh.out.drewN _).setPos (i + 1) _ (by simp), fun b hb2 hne => (Below.heap_setCell _ _ _ b hne).trans (hBu2.out b hb2 hne), (below_drewN hBe2.out _).setCell (Nat.le_refl _) _⟩
        case measure => rw [hk.out]; omega
      · replace hq := Bool.eq_false_iff.2 hq
        have hn := (ends_off (q := M.inn) (s := s) (i := i) fun h => by rw [hb, hq] at h; cases h.2)
        have hen := Lib.hid (he.trans hn)
        have hRh := Lib.hid hR
        replace hn := Lib.hid hn
        replace he := Lib.hid he
        replace hb := Lib.hid hb
        replace hBu := Lib.hid hBu
        replace hBe := Lib.hid hBe
        have j1 : ((p : Nat) : Int) ≤ ((i : Nat) : Int) := by omega
        have j2 : ((i : Nat) : Int) ≤ ((s.size : Nat) : Int) := by omega
        clear hR
        go_wp2_with fail
        go_quiet ((go_at_call 49; refine Calls.quiet_of_same ((within_any _ _).mono fun e w' h => ⟨h.1, h.2.symm⟩)))
        go_wp2_with fail
        go_quiet (fail)
        go_wp2
        go_ret
        rw [hen.out]
        exact ⟨rfl, (hRh.out.drewN _).drewN _, hBu.out, below_drewN (below_drewN hBe.out _) _, his⟩
    · have hn := (ends_off (q := M.inn) (s := s) (i := i) fun h => hlt h.1)
      have hen := Lib.hid (he.trans hn)
      have hRh := Lib.hid hR
      have e0 : decide (((i : Nat) : Int) < ((s.size : Nat) : Int)) = false := decide_eq_false (by omega)
      replace hn := Lib.hid hn
      replace he := Lib.hid he
      replace hBu := Lib.hid hBu
      replace hBe := Lib.hid hBe
      have j1 : ((p : Nat) : Int) ≤ ((i : Nat) : Int) := by omega
      have j2 : ((i : Nat) : Int) ≤ ((s.size : Nat) : Int) := by omega
      clear hR
      go_wp2_with fail
      go_quiet (fail)
      go_wp2_with fail
      go_quiet (fail)
      go_wp2
      go_ret
      rw [hen.out]
      exact ⟨rfl, (hRh.out.drewN _).drewN _, hBu.out, below_drewN (below_drewN hBe.out _) _, his⟩

set_option maxRecDepth 20000 in
set_option maxHeartbeats 4000000 in
theorem while_space (g : Nat) (s : ByteArray) (p : Nat) (wv : Value) (w : World) (h : Rd g s p wv w) (hp : p ≤ s.size) (hs : s.size ≤ 1000) :
    Calls Tryz.prog 31 #[.pointer (some ⟨g, 0, none⟩), .func (.func 32) #[] #[]] w fun e w' =>
      e = .returned (.string (s.extract p (M.ends M.spc s p))) ∧ Rd g s (M.ends M.spc s p) wv w' ∧ But g w w' ∧ Below g w w' ∧ M.ends M.spc s p ≤ s.size := by
  have hend := Lib.hid (rfl : M.ends M.spc s p = M.ends M.spc s p)
  go_enter Tryz.func31, Tryz.ntmps31
  obtain ⟨⟨c0, c1, c2⟩, f1, f2⟩ := id h
  go_wp2
  go_loopg [] (s.size - p) (fun k wr => ∃ i : Nat, p ≤ i ∧ i ≤ s.size ∧ k = s.size - i ∧ M.ends M.spc s p = M.ends M.spc s i ∧ Rd g s i wv wr ∧ But g w wr ∧ Below g w wr)
  case atStart => exact ⟨p, Nat.le_refl _, hp, rfl, rfl, h, But.refl _ _, Below.refl _ _⟩
  case round =>
    clear c0 c1 c2 f1 f2
    obtain ⟨i, hpi, his, hk, he, hR, hBu, hBe⟩ := hrel
    obtain ⟨⟨c0, c1, c2⟩, f1, f2⟩ := id hR
    have i0 : (0 : Int) ≤ ((i : Nat) : Int) := by omega
    by_cases hlt : i < s.size
    · have i1 : ((i : Nat) : Int) < ((s.size : Nat) : Int) := by omega
      have hb : M.byteAt s i = (((s[i]'hlt).toNat : Nat) : Int) := by unfold M.byteAt; rw [dif_pos hlt]
      by_cases hq : M.spc (((s[i]'hlt).toNat : Nat) : Int) = true
      · have hn := (ends_on hlt (by rw [hb]; exact hq) : M.ends M.spc s i = _)
        have hR2 := (hR.setPos (i + 1) (.int .i64 ((i : Nat) + 1 : Int)) rfl)
        have hBu2 := Lib.hid hBu
        have hBe2 := Lib.hid hBe
        have he2 := Lib.hid (he.trans hn)
        have hRh := Lib.hid hR
        replace hn := Lib.hid hn
        replace he := Lib.hid he
        replace hk := Lib.hid hk
        replace hb := Lib.hid hb
        clear hR hBu hBe hR2
        go_wp2_with fail
        go_quiet ((go_at_call 32; refine Calls.quiet_of_same ((space_any _ _).mono fun e w' h => ⟨h.1, h.2.symm⟩)))
        go_wp2
        go_roundg (s.size - (i + 1))
        case rel => exact ⟨i + 1, by omega, by omega, rfl, he2.out, (hRh.out.drewN _).setPos (i + 1) _ (by simp), fun b hb2 hne => (Below.heap_setCell _ _ _ b hne).trans (hBu2.out b hb2 hne), (below_drewN hBe2.out _).setCell (Nat.le_refl _) _⟩
        case measure => rw [hk.out]; omega
      · replace hq := Bool.eq_false_iff.2 hq
        have hn := (ends_off (q := M.spc) (s := s) (i := i) fun h => by rw [hb, hq] at h; cases h.2)
        have hen := Lib.hid (he.trans hn)
        have hRh := Lib.hid hR
        replace hn := Lib.hid hn
        replace he := Lib.hid he
        replace hb := Lib.hid hb
        replace hBu := Lib.hid hBu
        replace hBe := Lib.hid hBe
        have j1 : ((p : Nat) : Int) ≤ ((i : Nat) : Int) := by omega
        have j2 : ((i : Nat) : Int) ≤ ((s.size : Nat) : Int) := by omega
        clear hR
        go_wp2_with fail
        go_quiet ((go_at_call 32; refine Calls.quiet_of_same ((space_any _ _).mono fun e w' h => ⟨h.1, h.2.symm⟩)))
        go_wp2_with fail
        go_quiet (fail)
        go_wp2
        go_ret
        rw [hen.out]
        exact ⟨rfl, (hRh.out.drewN _).drewN _, hBu.out, below_drewN (below_drewN hBe.out _) _, his⟩
    · have hn := (ends_off (q := M.spc) (s := s) (i := i) fun h => hlt h.1)
      have hen := Lib.hid (he.trans hn)
      have hRh := Lib.hid hR
      have e0 : decide (((i : Nat) : Int) < ((s.size : Nat) : Int)) = false := decide_eq_false (by omega)
      replace hn := Lib.hid hn
      replace he := Lib.hid he
      replace hBu := Lib.hid hBu
      replace hBe := Lib.hid hBe
      have j1 : ((p : Nat) : Int) ≤ ((i : Nat) : Int) := by omega
      have j2 : ((i : Nat) : Int) ≤ ((s.size : Nat) : Int) := by omega
      clear hR
      go_wp2_with fail
      go_quiet (fail)
      go_wp2_with fail
      go_quiet (fail)
      go_wp2
      go_ret
      rw [hen.out]
      exact ⟨rfl, (hRh.out.drewN _).drewN _, hBu.out, below_drewN (below_drewN hBe.out _) _, his⟩

end Go.Proofs.YtaplaoelamnoiaaGreatDoor

/- Variables of some cells in memory; a word of the line, as a value. No condition. -/
namespace Go.Proofs.YtaplaoelamnoiaaGreatDoor
open Go.RowKit

/-- A variable whose cells hold these values, and may be written. -/
def BoxC (N : Nat) (vs : List Value) (w : World) : Prop := ∀ i v, vs[i]? = some v → w.cell? ⟨N, i, none⟩ = some v ∧ w.frozen? ⟨N, i, none⟩ = false
theorem BoxC.same {N : Nat} {vs : List Value} {w w' : World} (h : BoxC N vs w) (e : w'.heap[N]? = w.heap[N]?) : BoxC N vs w' := fun i v hv =>
  ⟨(cell_of_eq e i).trans (h i v hv).1, (frozen_of_eq e i).trans (h i v hv).2⟩
theorem boxC_alloc (w : World) (vs : Array Value) (t : TypeId) : BoxC w.heap.size vs.toList (w.alloc (.cells vs t)) := fun i v hv => by
  have hb : (w.alloc (.cells vs t)).heap[w.heap.size]? = some (.cells vs t (0, 0)) := heap_alloc_new w (.cells vs t)
  refine ⟨?_, ?_⟩
  · rw [cell_of_row _ _ i _ t (0, 0) hb]
    simpa using hv
  · unfold World.frozen?
    simp only [hb]
    simp
theorem Rd.same {g : Nat} {s : ByteArray} {p : Nat} {wv : Value} {w w' : World} (h : Rd g s p wv w) (e : w'.heap[g]? = w.heap[g]?) : Rd g s p wv w' := by
  obtain ⟨⟨c0, c1, c2⟩, f1, f2⟩ := h
  exact ⟨⟨(cell_of_eq e 0).trans c0, (cell_of_eq e 1).trans c1, (cell_of_eq e 2).trans c2⟩, (frozen_of_eq e 1).trans f1, (frozen_of_eq e 2).trans f2⟩
theorem But.below {g : Nat} {a b c : World} (h : But g a b) (k : Below b.heap.size b c) (hs : a.heap.size ≤ b.heap.size) : But g a c := fun x hx hne => (k.block x (by omega)).trans (h x hx hne)
theorem But.trans {g : Nat} {a b c : World} (h : But g a b) (k : But g b c) (hs : a.heap.size ≤ b.heap.size) : But g a c := fun x hx hne => (k x (by omega) hne).trans (h x hx hne)
theorem But.of_below {g : Nat} {a b : World} (k : Below a.heap.size a b) : But g a b := fun x hx _ => k.block x hx

/-- A word of a line. -/
structure Tok where
  kind : Int
  fn : Int
  num : Int
  text : ByteArray
  place : Int
def Tok.cells (t : Tok) : List Value := [.int .i64 t.kind, .int .i64 t.fn, .int .i64 t.num, .string t.text, .int .i64 t.place]
def Tok.val (t : Tok) : Value := .agg #[.int .i64 t.kind, .int .i64 t.fn, .int .i64 t.num, .string t.text, .int .i64 t.place]
abbrev noText : ByteArray := ⟨#[]⟩
end Go.Proofs.YtaplaoelamnoiaaGreatDoor
