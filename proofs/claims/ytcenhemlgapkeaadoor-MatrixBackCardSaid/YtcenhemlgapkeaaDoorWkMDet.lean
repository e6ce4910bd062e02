/- The statements' helpers det and fact. Condition: rows that lie as lists of ints of 64 bits. -/
import Derived.Test.YtcenhemlgapkeaaDoorBdN
import Derived.Test.YtcenhemlgapkeaaDoorGrid
import Derived.Test.YtcenhemlgapkeaaDoorBdU
namespace Go.Proofs.YtcenhemlgapkeaaDoor
open Go.RowKit

/-- What the statements' det tells of a square. -/
def sdet (n : Nat) (d : List Int) : Int := wrap64 (Mx.det n (M.sqA n d))

set_option maxHeartbeats 4000000 in
theorem lawDet_any (n : Nat) (a b : Option Addr) (d : List Int) (m c k z : Nat) (w : World) (hs : Row w a [(n : Int), (n : Int)]) (hd : Row w b d) (ld : d.length ≤ maxLen) (hd64 : All64 d) (hn : n ≤ 6) (hl : d.length = n * n) (em : m = 2) (en : k = d.length) :
    Calls Tryd.prog 39 #[arrV false a m c b k z] w fun e w' => e = .returned (.int .i64 (sdet n d)) ∧ Below w.heap.size w w' := by
  subst em
  subst en
  have hm := fun w h1 h2 => mdet_any false a b [(n : Int), (n : Int)] d 2 c d.length z w h1 h2 (by simp [maxLen]) ld hd64 rfl rfl
  have hr : M.mdet ⟨false, [(n : Int), (n : Int)], d⟩ = .ok (sdet n d) := if_pos (sq_mk hn hl)
  rw [hr] at hm
  have E := (((Env.start w).addRow hd).addRow hs).box false a 2 c b d.length z
  replace hm := Lib.hid hm
  clear hr
  replace hl := Lib.hid hl
  go_enter Tryd.func39, Tryd.ntmps39
  go_wp2_with fail
  refine (hm.out _ (E.getRow 1 rfl) (E.getRow 2 rfl)).mono ?_
  rintro e w1 ⟨rfl, hb⟩
  dsimp only [resI]
  have hb2 := (E.step hb).bel
  go_wp2
  go_ret
  exact ⟨rfl, hb2⟩

theorem fact_det : sdet 2 [3, 1, 4, 2] = 2 := by decide +kernel

set_option maxHeartbeats 4000000 in
theorem fact_any (w : World) : Calls Tryd.prog 37 #[] w fun e w' => e = .returned (.bool true) ∧ Below w.heap.size w w' := by
  have hr : M.mdet ⟨false, [(2 : Int), (2 : Int)], [3, 1, 4, 2]⟩ = .ok 2 := (if_pos (sq_mk (n := 2) (by decide) rfl)).trans (congrArg Except.ok fact_det)
  have hm := fun w a b c z h1 h2 => mdet_any false a b [(2 : Int), (2 : Int)] [3, 1, 4, 2] 2 c 4 z w h1 h2 (by simp [maxLen]) (by simp [maxLen]) (by intro x hx; simp at hx; unfold I64; omega) rfl rfl
  rw [hr] at hm
  replace hm := Lib.hid hm
  clear hr
  have r0 : Row (w.alloc (.cells #[.int .i64 3, .int .i64 1, .int .i64 4, .int .i64 2] 3)) (some ⟨w.heap.size, 0, none⟩) [3, 1, 4, 2] := row_lit _ _ _ _ rfl
  have b0 := push (start w) (.cells #[.int .i64 3, .int .i64 1, .int .i64 4, .int .i64 2] 3)
  go_enter Tryd.func37, Tryd.ntmps37
  go_wp2_with fail
  refine (square_any 2 _ _ _ _).mono ?_
  rintro e w1 ⟨a, c, rfl, hrow, hb⟩
  have b1 := below_trans b0 hb
  have r1 := r0.below hb
  clear r0 b0 hb
  go_wp2_with fail
  refine (hm.out _ _ _ _ _ hrow r1).mono ?_
  rintro e w2 ⟨rfl, hb⟩
  dsimp only [resI]
  go_wp2
  go_ret
  exact ⟨rfl, below_trans b1 hb⟩

end Go.Proofs.YtcenhemlgapkeaaDoor
