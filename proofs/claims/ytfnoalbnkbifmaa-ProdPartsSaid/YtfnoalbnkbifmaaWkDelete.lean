/- The library's slices.Delete on ints, laid at this program: one number taken out of an own row. No condition. -/
import Derived.Test.YtfnoalbnkbifmaaBdA
import Derived.Shelf.Slices.Delete
import Derived.Lib.OwnBridge
namespace Go.Proofs.Ytfnoalbnkbifmaa
open Go.RowKit Go.Shelf Go.Lib Go.Sort

/-- Which number is whose. -/
def delRen : Ren := ⟨fun | 23 => 29 | n => n, fun | 0 => 0 | 3 => 3 | 4 => 4 | 22 => 23 | n => n, fun n => n⟩
theorem delLays : Lays2.n23 Try.prog delRen := {
  mixed := by kernel_rfl
  f23 := Try.func29.trans (congrArg some (by kernel_rfl))
  t0 := Try.underlying0
  a0 := Try.isAgg0
  z0 := Try.sizeOf0
  v0 := Try.zeroValue0
  t3 := Try.underlying3
  a3 := Try.isAgg3
  z3 := Try.sizeOf3
  v3 := Try.zeroValue3
  t4 := Try.underlying4
  a4 := Try.isAgg4
  z4 := Try.sizeOf4
  v4 := Try.zeroValue4
  t22 := Try.underlying23
  a22 := Try.isAgg23
  z22 := Try.sizeOf23
  v22 := Try.zeroValue23
  i3 := Try.infoInt }

theorem delete_any (v : Value) (ys : List Int) (B i : Nat) (w : World) (h : Own w B v ys) (hi : i < ys.length) :
    Calls Try.prog 29 #[v, .int .i64 i, .int .i64 ((i + 1 : Nat) : Int)] w fun e w' =>
      ∃ v', e = .returned v' ∧ Own w' B v' (ys.take i ++ ys.drop (i + 1)) ∧ Below B w w' := by
  obtain ⟨g, cap, rfl, hB, hg, hnc, hcm, -, hH⟩ := holds_of_ownsRow (enc := Value.int .i64) h (by
    intro e
    obtain ⟨a, c, hv, -⟩ := h.view
    rw [e] at hv
    have := (Value.slice.inj hv).2.1
    omega)
  refine (Any.slices_Delete_int delLays g 0 cap i (i + 1) ys w hH hnc hcm (by omega) (by omega)).mono ?_
  rintro e w' ⟨rfl, q, rfl⟩
  have hl : (ys.take i ++ ys.drop (i + 1) ++ List.replicate (i + 1 - i) 0).length = ys.length := by simp; omega
  have ho := ownsRow_putRow (q := q) (k := ys.length - (i + 1 - i)) h hl (by omega)
  have e2 : (ys.take i ++ ys.drop (i + 1) ++ List.replicate (i + 1 - i) 0).take (ys.length - (i + 1 - i)) = ys.take i ++ ys.drop (i + 1) := by
    rw [List.take_append_of_le_length (by simp; omega), List.take_of_length_le (by simp; omega)]
  rw [e2] at ho
  have e3 : ys.length - (i + 1 - i) = (ys.take i ++ ys.drop (i + 1)).length := by simp; omega
  refine ⟨_, rfl, ?_, below_putRow (Below.refl _ w) hB⟩
  unfold Own
  rw [← e3]
  exact ho
end Go.Proofs.Ytfnoalbnkbifmaa
