/- The call fold.Reduce with a function that there is not. Condition: none. -/
import Derived.Test.YtfnoalbnkbifmaaWkReduce
namespace Go.Proofs.Ytfnoalbnkbifmaa
open Go.RowKit

set_option maxRecDepth 20000 in
set_option maxHeartbeats 4000000 in
theorem along_unknown (f : Int) (hf : M.fn2 f = false) (x : Int) (ch : Bool) (a b : Option Addr) (m c n z : Nat) (w : World) :
    Calls Try.prog 28 #[.int .i64 f, .int .i64 x, arrV ch a m c b n z] w fun e w' =>
      e = .returned (.tuple #[.agg #[.int .i64 0, .int .i64 0, .int .i64 0], .iface 45 (.int .i64 1)]) ∧ Below w.heap.size w w' := by
  have k0 := fun W => cellTwo_any f 0 1 W (by unfold I64; omega) (by unfold I64; omega)
  rw [two_unknown hf 0 1] at k0
  have E := (((Env.start w).box ch a m c b n z).step (push (start _) (.cells #[.int .i64 0, .int .i64 0, .int .i64 0] 61)))
  have hZ : ((w.alloc (.cells #[.bool ch, .slice a m c, .slice b n z] 25)).alloc (.cells #[.int .i64 0, .int .i64 0, .int .i64 0] 61)).cell? ⟨w.heap.size + 1, 0, none⟩ = some (.int .i64 0) ∧ ((w.alloc (.cells #[.bool ch, .slice a m c, .slice b n z] 25)).alloc (.cells #[.int .i64 0, .int .i64 0, .int .i64 0] 61)).cell? ⟨w.heap.size + 1, 1, none⟩ = some (.int .i64 0) ∧ ((w.alloc (.cells #[.bool ch, .slice a m c, .slice b n z] 25)).alloc (.cells #[.int .i64 0, .int .i64 0, .int .i64 0] 61)).cell? ⟨w.heap.size + 1, 2, none⟩ = some (.int .i64 0) := by simp [go_sem]
  have hF : ((w.alloc (.cells #[.bool ch, .slice a m c, .slice b n z] 25)).alloc (.cells #[.int .i64 0, .int .i64 0, .int .i64 0] 61)).frozen? ⟨w.heap.size + 1, 0, none⟩ = false ∧ ((w.alloc (.cells #[.bool ch, .slice a m c, .slice b n z] 25)).alloc (.cells #[.int .i64 0, .int .i64 0, .int .i64 0] 61)).frozen? ⟨w.heap.size + 1, 1, none⟩ = false ∧ ((w.alloc (.cells #[.bool ch, .slice a m c, .slice b n z] 25)).alloc (.cells #[.int .i64 0, .int .i64 0, .int .i64 0] 61)).frozen? ⟨w.heap.size + 1, 2, none⟩ = false := by simp [go_sem]
  have hZs : w.heap.size + 1 < ((w.alloc (.cells #[.bool ch, .slice a m c, .slice b n z] 25)).alloc (.cells #[.int .i64 0, .int .i64 0, .int .i64 0] 61)).heap.size := by simp
  replace k0 := Lib.hid k0
  clear hf
  go_enter Try.func28, Try.ntmps28
  go_wp2_with fail
  refine (k0.out _).mono ?_
  rintro e w3 ⟨rfl, nn, hw3⟩
  dsimp only [resI]
  generalize (w.alloc (.cells #[.bool ch, .slice a m c, .slice b n z] 25)).alloc (.cells #[.int .i64 0, .int .i64 0, .int .i64 0] 61) = w2 at *
  have hZ3 := held3 (below_drewN (Below.refl w2.heap.size w2) nn) hZ
  have hF3 := frozen3 (below_drewN (Below.refl w2.heap.size w2) nn) hZs hF
  have hB := (E.drew nn).bel
  rw [← hw3] at hZ3 hF3 hB
  clear E hw3 hZ hZs hF k0
  obtain ⟨z0, z1, z2⟩ := hZ3
  obtain ⟨z3, z4, z5⟩ := hF3
  go_wp2
  refine bodyPost_ret (v := .tuple #[.agg #[.int .i64 0, .int .i64 0, .int .i64 0], .iface 45 (.int .i64 1)]) (by simp [results, Try.results28, go_sem, cell?_set_same, z0, z1, z2]) rfl ?_
  exact ⟨rfl, set3 hB (by omega) _ _ _⟩

set_option maxRecDepth 20000 in
set_option maxHeartbeats 4000000 in
theorem reduce_unknown (f : Int) (hf : M.fn2 f = false) (x : Int) (ch : Bool) (a b : Option Addr) (m c n z : Nat) (w : World) :
    Calls Try.prog 10 #[.int .i64 f, .int .i64 x, arrV ch a m c b n z] w fun e w' => ArrPost (.error 1) w e w' := by
  have kl := fun W => along_unknown f hf x ch a b m c n z W
  have E := ((Env.start w).box ch a m c b n z).box false none 0 0 none 0 0
  simp only [World.size_alloc] at E
  replace kl := Lib.hid kl
  clear hf
  go_enter Try.func10, Try.ntmps10
  obtain ⟨⟨u0, u1, u2⟩, -, -, -⟩ := E.getBox 1 rfl
  go_wp2_with fail
  refine (kl.out _).mono ?_
  rintro e w3 ⟨rfl, hb⟩
  have E3 := (E.step hb).step (push (start w3) (.cells #[.int .i64 0, .int .i64 0, .int .i64 0] 61))
  clear E hb u0 u1 u2
  obtain ⟨⟨z0, z1, z2⟩, z3, z4, z5⟩ := E3.getBox 0 rfl
  have hbel := E3.bel
  clear E3
  go_wp2
  refine bodyPost_ret (v := .tuple #[arrV false none 0 0 none 0 0, .iface 45 (.int .i64 1)]) (by simp [results, Try.results10, go_sem, cell?_set_same, z0, z1, z2]) rfl ?_
  exact .error rfl rfl (set3 hbel (by omega) _ _ _)
end Go.Proofs.Ytfnoalbnkbifmaa
