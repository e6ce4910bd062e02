/- The statements' helper chain. No condition. -/
import Derived.Test.YtiebknfmmanbiaaDoorWkClose
import Derived.Test.YtiebknfmmanbiaaDoorWkSquare
import Derived.Test.YtiebknfmmanbiaaDoorInts
namespace Go.Proofs.YtiebknfmmanbiaaDoor
open Go.RowKit

theorem fact_chain : M.close ⟨false, [3, 3], [0, 1, 0, 0, 0, 1, 0, 0, 0]⟩ = .ok ⟨false, [3, 3], [0, 1, 1, 0, 0, 1, 0, 0, 0]⟩ := by kernel_rfl

theorem row_nine {w : World} {n : Nat} {l : List Int} (hl : l.length = 9) (h : ∀ i, i < 9 → w.cell? ⟨n, i, none⟩ = some (.int .i64 (l.getD i 0))) : Row w (some ⟨n, 0, none⟩) l := by
  intro i hi
  exact ⟨_, _, rfl, by rw [Nat.zero_add]; exact h i (by omega)⟩

set_option maxHeartbeats 2000000 in
theorem chain_any (w : World) : Calls Tryd.prog 23 #[] w fun e w' => e = .returned (.bool true) ∧ Below w.heap.size w w' := by
  have E := (Env.start w).alloc (.cells #[.int .i64 0, .int .i64 1, .int .i64 0, .int .i64 0, .int .i64 0, .int .i64 1, .int .i64 0, .int .i64 0, .int .i64 0] 3)
  have R9 := row_lit w [0, 1, 0, 0, 0, 1, 0, 0, 0] #[.int .i64 0, .int .i64 1, .int .i64 0, .int .i64 0, .int .i64 0, .int .i64 1, .int .i64 0, .int .i64 0, .int .i64 0] 3 rfl
  replace E := E.addRow R9
  clear R9
  go_enter Tryd.func23, Tryd.ntmps23
  go_wp2_with fail
  refine (square_any 3 _ 9 9 _).mono ?_
  rintro e w1 ⟨a1, c1, rfl, ra, hb⟩
  replace E := (E.step hb).addRow ra
  clear hb ra
  go_wp2_with fail
  refine (close_any false _ _ [3, 3] [0, 1, 0, 0, 0, 1, 0, 0, 0] 2 _ 9 9 w1 (E.getRow 0 rfl) (E.getRow 1 rfl) (by decide) (by decide) rfl rfl).mono ?_
  intro e w2 hp
  obtain ⟨a2, c2, b2, k2, rfl, ra, rb, hb⟩ := hp.is_ok fact_chain
  clear hp
  dsimp only [List.length_cons, List.length_nil, Nat.reduceAdd] at ra rb ⊢
  replace E := ((E.step hb).addRow rb).box false a2 2 c2 b2 9 k2
  clear hb ra rb
  have R9 := row_lit (w2.alloc (.cells #[.bool false, .slice a2 2 c2, .slice b2 9 k2] 24)) [0, 1, 1, 0, 0, 1, 0, 0, 0] #[.int .i64 0, .int .i64 1, .int .i64 1, .int .i64 0, .int .i64 0, .int .i64 1, .int .i64 0, .int .i64 0, .int .i64 0] 3 rfl
  have E2 := (E.alloc (.cells #[.int .i64 0, .int .i64 1, .int .i64 1, .int .i64 0, .int .i64 0, .int .i64 1, .int .i64 0, .int .i64 0, .int .i64 0] 3)).addRow R9
  rw [World.size_alloc] at E2
  clear R9 E
  go_wp2_with fail
  refine (ints_any b2 _ [0, 1, 1, 0, 0, 1, 0, 0, 0] [0, 1, 1, 0, 0, 1, 0, 0, 0] 9 9 k2 9 _ (E2.getRow 2 rfl) (E2.getRow 0 rfl) (by decide) (by decide) rfl rfl).mono ?_
  rintro e w3 ⟨rfl, nd, rfl⟩
  rw [decide_eq_true (rfl : ([0, 1, 1, 0, 0, 1, 0, 0, 0] : List Int) = [0, 1, 1, 0, 0, 1, 0, 0, 0])]
  go_wp2
  go_ret
  exact ⟨rfl, below_drewN E2.bel _⟩

end Go.Proofs.YtiebknfmmanbiaaDoor
