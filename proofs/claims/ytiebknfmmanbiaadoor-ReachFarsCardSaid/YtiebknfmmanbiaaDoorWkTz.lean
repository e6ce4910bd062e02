/- The library's call bits.TrailingZeros32 at a number that is not 0. Condition: its table is laid. -/
import Derived.Test.YtiebknfmmanbiaaDoorWkOrder
namespace Go.Proofs.YtiebknfmmanbiaaDoor
open Go.RowKit

/-- The library's table, laid. -/
def Tab32 (w : World) : Prop := ∀ j, j < 32 → w.cell? ⟨2, j, none⟩ = some (.int .u8 ((Lib.deBruijn32tab.getD j 0 : Nat) : Int))
theorem Tab32.below {w w' : World} (h : Tab32 w) (hb : Below w.heap.size w w') : Tab32 w' := fun j hj => (hb.cell (World.block_lt_of_cell? w _ (h j hj))).trans (h j hj)

set_option maxRecDepth 20000 in
set_option maxHeartbeats 4000000 in
theorem tz_any (x : Nat) (h0 : x ≠ 0) (h : x < 4294967296) (w : World) (hT : Tab32 w) :
    Calls Tryd.prog 71 #[.int .u32 (x : Int)] w fun e w' => e = .returned (.int .i64 ((Lib.ctz 32 x : Nat) : Int)) ∧ w' = w := by
  obtain ⟨hlow, hk⟩ := Lib.lowest_bit 32 x h0 h
  obtain ⟨hi, htab⟩ := Lib.deBruijn32_at _ hk
  have hc := hT _ hi
  rw [htab] at hc
  generalize Lib.ctz 32 x = k at *
  obtain ⟨y, hy⟩ : ∃ y, y = 4294967296 - x := ⟨_, rfl⟩
  have hlow' : x &&& y = 2 ^ k := by rw [hy]; exact hlow
  have hp : 2 ^ k < 4294967296 := Nat.lt_of_lt_of_le (Nat.pow_lt_pow_right (by decide) hk) (by decide)
  have t0 : ((x : Int) == 0) = false := by rw [beq_eq_false_iff_ne]; omega
  have n1 : IntKind.u32.wrap (-(x : Int)) = (y : Int) := by rw [IntKind.wrap_u32]; omega
  have n2 := bits_and32 h (show y < 4294967296 by omega)
  rw [hlow'] at n2
  generalize 2 ^ k = A at *
  obtain ⟨Mm, hM⟩ : ∃ Mm, Mm = A * 125613361 % 4294967296 := ⟨_, rfl⟩
  have n3 : IntKind.u32.wrap ((A : Int) * 125613361) = (Mm : Int) := by rw [IntKind.wrap_u32, hM]; omega
  obtain ⟨I, hI⟩ : ∃ I, I = Mm / 134217728 := ⟨_, rfl⟩
  rw [← hM, ← hI] at hi hc
  have n4 : (Mm : Int) / 134217728 = (I : Int) := by rw [hI]; omega
  have i1 : (I : Int) < 32 := by omega
  have hk8 : (k : Int) < 32 := by omega
  replace hM := Lib.hid hM
  replace hI := Lib.hid hI
  replace hy := Lib.hid hy
  clear hT htab hlow hlow' hp
  go_enter Tryd.func71, Tryd.ntmps71
  go_wp2
  go_ret
  exact ⟨rfl, rfl⟩
end Go.Proofs.YtiebknfmmanbiaaDoor
