/- The closures of each.fit and of each.Two: the cell of an array at a place, or its only one; two cells taken together. Condition: rows that lie as lists of ints of 64 bits. -/
import Derived.Test.YtaplaoelamnoiaaGreatDoorBg04
import Derived.Test.YtaplaoelamnoiaaGreatDoorBg01
import Derived.Deep.QuietTactic
import Derived.Deep.RegionWith
import Derived.BigQuiet
namespace Go.Proofs.YtaplaoelamnoiaaGreatDoor
open Go.RowKit

namespace M
/-- The cell at a place, or the only one. -/
def pickC (only : Bool) (d : List Int) (i : Nat) : Int := if only then d.getD 0 0 else d.getD i 0
end M
/-- The closure that tells it. -/
def pickF (only : Bool) : Nat := if only then 233 else 231

theorem row_cell_at {w : World} {b : Option Addr} {d : List Int} (h : Row w b d) {i : Nat} (hi : i < d.length) : ∃ g o, b = some ⟨g, o, none⟩ ∧ w.cell? ⟨g, o + i, none⟩ = some (.int .i64 (d.getD i 0)) := h i hi

set_option maxHeartbeats 1000000 in
theorem plain_any (d : List Int) (b : Option Addr) (B z i : Nat) (w : World) (hc : w.cell? ⟨B, 2, none⟩ = some (.slice b d.length z)) (hd : Row w b d) (hi : i < d.length) (hl : d.length ≤ maxLen) :
    Calls Tryz.prog 231 #[.int .i64 i, .pointer (some ⟨B, 0, none⟩)] w fun e w' => e = .returned (.int .i64 (d.getD i 0)) ∧ w' = w := by
  obtain ⟨g, o, rfl, h⟩ := row_cell_at hd hi
  unfold maxLen at hl
  generalize d.getD i 0 = X at *
  go_enter Tryz.func231, Tryz.ntmps231
  go_wp2
  go_ret
  exact ⟨rfl, rfl⟩
set_option maxHeartbeats 1000000 in
theorem single_any (d : List Int) (b : Option Addr) (B z i : Nat) (w : World) (hc : w.cell? ⟨B, 2, none⟩ = some (.slice b d.length z)) (hd : Row w b d) (hi : 0 < d.length) (hl : d.length ≤ maxLen) :
    Calls Tryz.prog 233 #[.int .i64 i, .pointer (some ⟨B, 0, none⟩)] w fun e w' => e = .returned (.int .i64 (d.getD 0 0)) ∧ w' = w := by
  obtain ⟨g, o, rfl, h⟩ := row_cell_at hd hi
  rw [Nat.add_zero] at h
  unfold maxLen at hl
  generalize d.getD 0 0 = X at *
  go_enter Tryz.func233, Tryz.ntmps233
  go_wp2
  go_ret
  exact ⟨rfl, rfl⟩
theorem pick_any (k : Bool) (d : List Int) (b : Option Addr) (B z i : Nat) (w : World) (hc : w.cell? ⟨B, 2, none⟩ = some (.slice b d.length z)) (hd : Row w b d) (h0 : 0 < d.length) (hi : k = false → i < d.length) (hl : d.length ≤ maxLen) :
    Calls Tryz.prog (pickF k) #[.int .i64 i, .pointer (some ⟨B, 0, none⟩)] w fun e w' => e = .returned (.int .i64 (M.pickC k d i)) ∧ w' = w := by
  cases k with
  | true => exact single_any d b B z i w hc hd h0 hl
  | false => exact plain_any d b B z i w hc hd (hi rfl) hl
theorem cell_drewN {w : World} {a : Addr} {v : Value} (h : w.cell? a = some v) (n : Nat) : (w.drewN n).cell? a = some v :=
  ((below_drewN (Below.refl w.heap.size w) n).cell (World.block_lt_of_cell? w _ h)).trans h

set_option maxRecDepth 20000 in
set_option maxHeartbeats 8000000 in
theorem tell_any (g : Int) (c1 c2 k1 k2 : Bool) (d d' : List Int) (b b' : Option Addr) (A B F O T A1 B1 z z' i : Nat) (w : World)
    (hA : w.cell? ⟨A, 0, none⟩ = some (.bool c1)) (hB : w.cell? ⟨B, 0, none⟩ = some (.bool c2)) (hF : w.cell? ⟨F, 0, none⟩ = some (.int .i64 g))
    (hO : w.cell? ⟨O, 0, none⟩ = some (.func (.func (pickF k1)) #[] #[.pointer (some ⟨A1, 0, none⟩)])) (hT : w.cell? ⟨T, 0, none⟩ = some (.func (.func (pickF k2)) #[] #[.pointer (some ⟨B1, 0, none⟩)]))
    (hA1 : w.cell? ⟨A1, 2, none⟩ = some (.slice b d.length z)) (hB1 : w.cell? ⟨B1, 2, none⟩ = some (.slice b' d'.length z')) (hd : Row w b d) (hd' : Row w b' d') (h0 : 0 < d.length) (h0' : 0 < d'.length)
    (hi : k1 = false → i < d.length) (hi' : k2 = false → i < d'.length) (hl : d.length ≤ maxLen) (hl' : d'.length ≤ maxLen) (h64 : All64 d) (h64' : All64 d') :
    Calls Tryz.prog 211 #[.int .i64 i, .pointer (some ⟨A, 0, none⟩), .pointer (some ⟨B, 0, none⟩), .pointer (some ⟨F, 0, none⟩), .pointer (some ⟨O, 0, none⟩), .pointer (some ⟨T, 0, none⟩)] w fun e w' =>
      e = .returned (resI (M.tw g c1 c2 (M.pickC k1 d i) (M.pickC k2 d' i))) ∧ ∃ n, w' = w.drewN n := by
  have g64 : ∀ {l : List Int}, All64 l → ∀ j, I64 (l.getD j 0) := fun {l} h j => by
    rw [List.getD_eq_getElem?_getD]
    cases e : l[j]? with
    | none => show I64 0; unfold I64; omega
    | some v => exact h _ (List.mem_of_getElem? e)
  have x64 : I64 (M.pickC k1 d i) := by unfold M.pickC; split <;> exact g64 h64 _
  have y64 : I64 (M.pickC k2 d' i) := by unfold M.pickC; split <;> exact g64 h64' _
  have q1 := fun n => pick_any k1 d b A1 z i (w.drewN n) (cell_drewN hA1 n) (hd.drewN n) h0 hi hl
  have q2 := fun n => pick_any k2 d' b' B1 z' i (w.drewN n) (cell_drewN hB1 n) (hd'.drewN n) h0' hi' hl'
  by_cases hcc : c1 = c2
  · subst hcc
    have ht : M.tw g c1 c1 (M.pickC k1 d i) (M.pickC k2 d' i) = M.two g (M.pickC k1 d i) (M.pickC k2 d' i) := if_pos rfl
    have q3 := fun n => cellTwo_any g (M.pickC k1 d i) (M.pickC k2 d' i) (w.drewN n) x64 y64
    rw [ht]
    clear ht x64 y64 g64
    generalize M.pickC k1 d i = X at *
    generalize M.pickC k2 d' i = Y at *
    clear hA1 hB1 hd hd' h0 h0' hi hi' hl hl' h64 h64'
    cases hq : M.two g X Y with
    | ok v =>
      rw [hq] at q3
      dsimp only [resI] at q3 ⊢
      replace hq := Lib.hid hq
      replace q3 := Lib.hid q3
      cases k1 <;> cases k2
      all_goals
        dsimp only [pickF, Bool.false_eq_true, if_false, if_true] at hO hT q1 q2
        replace q1 := Lib.hid q1
        replace q2 := Lib.hid q2
        go_enter Tryz.func211, Tryz.ntmps211
        go_wp2
        go_quiet ((first
          | (go_at_call_of 231 (A1 : Nat); exact Calls.quiet_of_same (q1.out _))
          | (go_at_call_of 233 (A1 : Nat); exact Calls.quiet_of_same (q1.out _))
          | (go_at_call_of 231 (B1 : Nat); exact Calls.quiet_of_same (q2.out _))
          | (go_at_call_of 233 (B1 : Nat); exact Calls.quiet_of_same (q2.out _))
          | (go_at_call 188; exact Calls.quiet_of (q3.out _))))
        go_wp2
        go_ret2
        exact ⟨rfl, _, rfl⟩
    | error v =>
      rw [hq] at q3
      dsimp only [resI] at q3 ⊢
      replace hq := Lib.hid hq
      replace q3 := Lib.hid q3
      cases k1 <;> cases k2
      all_goals
        dsimp only [pickF, Bool.false_eq_true, if_false, if_true] at hO hT q1 q2
        replace q1 := Lib.hid q1
        replace q2 := Lib.hid q2
        go_enter Tryz.func211, Tryz.ntmps211
        go_wp2
        go_quiet ((first
          | (go_at_call_of 231 (A1 : Nat); exact Calls.quiet_of_same (q1.out _))
          | (go_at_call_of 233 (A1 : Nat); exact Calls.quiet_of_same (q1.out _))
          | (go_at_call_of 231 (B1 : Nat); exact Calls.quiet_of_same (q2.out _))
          | (go_at_call_of 233 (B1 : Nat); exact Calls.quiet_of_same (q2.out _))
          | (go_at_call 188; exact Calls.quiet_of (q3.out _))))
        go_wp2
        go_ret2
        exact ⟨rfl, _, rfl⟩
  · have ht : M.tw g c1 c2 (M.pickC k1 d i) (M.pickC k2 d' i) = .ok (if g = 9 then 1 else 0) := if_neg hcc
    rw [ht]
    clear ht q1 q2 hO hT hA1 hB1 hd hd' h0 h0' hi hi' hl hl' h64 h64' x64 y64 g64
    have hne : (c1 == c2) = false := beq_eq_false_iff_ne.2 hcc
    replace hcc := Lib.hid hcc
    by_cases h9 : g = 9
    · subst h9
      go_enter Tryz.func211, Tryz.ntmps211
      go_wp2
      go_ret2
      exact ⟨rfl, 0, rfl⟩
    · have e9 : (g == 9) = false := beq_eq_false_iff_ne.2 h9
      have hr := Lib.hid (show (if g = 9 then (1 : Int) else 0) = 0 from if_neg h9)
      rw [hr.out]
      replace h9 := Lib.hid h9
      go_enter Tryz.func211, Tryz.ntmps211
      go_wp2
      go_ret2
      exact ⟨rfl, 0, rfl⟩

end Go.Proofs.YtaplaoelamnoiaaGreatDoor
