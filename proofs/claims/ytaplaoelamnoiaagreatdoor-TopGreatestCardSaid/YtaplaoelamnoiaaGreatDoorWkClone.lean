/- The library's slices.Clone on ints. Condition: rows shorter than 2^44. -/
import Derived.Test.YtaplaoelamnoiaaGreatDoorBg04
import Derived.Lib.LazyBuf
namespace Go.Proofs.YtaplaoelamnoiaaGreatDoor
open Go.RowKit

theorem eql_nil (a : Option Addr) (l c : Nat) (w : World) : (binOp .eql 22 (.slice a l c) (.slice none 0 0)).run Tryz.prog w = .ok (.bool a.isNone) w := run_eql_slice_nil w _ _ a l c Tryz.underlying22

theorem own_empty (w : World) : Own (w.alloc (.cells #[] 3)) w.heap.size (.slice (some ⟨w.heap.size, 0, none⟩) 0 0) [] :=
  ⟨rfl, .inr ⟨w.heap.size, 0, #[], rfl, Nat.le_refl _, heap_alloc_new _ _, Nat.le_refl _, Nat.zero_le _, rfl, rfl⟩⟩

set_option maxHeartbeats 400000 in
theorem clone_any (a : Option Addr) (s : List Int) (n c : Nat) (w : World) (hs : Row w a s) (hm : s.length < 17592186044416) (en : n = s.length) :
    Calls Tryz.prog 72 #[.slice a n c] w fun e w' => ∃ v, e = .returned v ∧ Own w' w.heap.size v s ∧ Below w.heap.size w w' := by
  subst en
  cases a with
  | none =>
    have h0 : s = [] := by
      cases s with
      | nil => rfl
      | cons x r => obtain ⟨b, o, h, _⟩ := hs 0 (by simp); cases h
    subst h0
    have hnil := eql_nil none 0 c
    go_enter Tryz.func72, Tryz.ntmps72
    go_wp2
    go_ret
    exact ⟨_, rfl, Own.nil _ _, Below.refl _ _⟩
  | some b =>
    have hnil := eql_nil (some b) s.length c
    go_enter Tryz.func72, Tryz.ntmps72
    go_wp2_with (at_builtin; refine app_row rfl (.tmp 5) (.tmp 6) rfl w.heap.size _ [] s b c rfl (own_empty w) rfl (hs.alloc _) (by simpa using hm) (by simp) ?_; intro v' w' ho' hb' hl')
    go_ret
    exact ⟨_, rfl, ho', ((Below.refl _ w).alloc (Nat.le_refl _) _).trans hb'⟩

end Go.Proofs.YtaplaoelamnoiaaGreatDoor
