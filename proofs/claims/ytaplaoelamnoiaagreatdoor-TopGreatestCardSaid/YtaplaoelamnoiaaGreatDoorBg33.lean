/- Texts that lie in one file: what is plain, rows, boxes, squares, and what is known of a world. No condition. -/
import Derived.Test.YtaplaoelamnoiaaGreatDoorPkCheck
import Derived.Test.YtaplaoelamnoiaaGreatDoorBg34
import Derived.Test.YtaplaoelamnoiaaGreatDoorBg30
import Derived.Test.YtaplaoelamnoiaaGreatDoorBg04
import Derived.LoopN
import Derived.Deep.RegionLaw
import Derived.Test.YtaplaoelamnoiaaGreatDoorBg31
import Derived.Deep.RegionHeld3
import Derived.Deep.Cut
/- The call pick.find of a list and one index without axes. Condition: an index that lies in the list. -/
namespace Go.Proofs.YtaplaoelamnoiaaGreatDoor
open Go.RowKit

/-- What the call find knows of its memory: the array, the result, the places that it gathers, the index. -/
structure PkF (w : World) (A R P B ba oa bi oi : Nat) (xs ys : List Value) (n i : Nat) (v0 v1 : Value) (W : World) : Prop where
  bA : BoxC A xs W
  bR : BoxC R [.slice none 0 0, .slice none 0 0] W
  bP : BoxC P [v0, v1] W
  bB : ∀ j u, ys[j]? = some u → W.cell? ⟨B, j, none⟩ = some u
  kA : W.cell? ⟨ba, oa, none⟩ = some (.int .i64 n)
  kI : W.cell? ⟨bi, oi, none⟩ = some (.int .i64 i)
  ne : A ≠ P ∧ R ≠ P ∧ B ≠ P ∧ ba ≠ P ∧ bi ≠ P
  bel : Below w.heap.size w W
  low : w.heap.size ≤ P ∧ P < W.heap.size ∧ A < W.heap.size ∧ R < W.heap.size
theorem PkF.step {w W W' : World} {A R P B ba oa bi oi : Nat} {xs ys : List Value} {n i : Nat} {v0 v1 : Value} (h : PkF w A R P B ba oa bi oi xs ys n i v0 v1 W) (hb : Below W.heap.size W W') : PkF w A R P B ba oa bi oi xs ys n i v0 v1 W' :=
  ⟨h.bA.same (hb.block _ h.low.2.2.1), h.bR.same (hb.block _ h.low.2.2.2), h.bP.same (hb.block _ h.low.2.1), fun j u hu => (hb.cell (World.block_lt_of_cell? W _ (h.bB j u hu))).trans (h.bB j u hu),
    (hb.cell (World.block_lt_of_cell? W _ h.kA)).trans h.kA, (hb.cell (World.block_lt_of_cell? W _ h.kI)).trans h.kI, h.ne, below_trans h.bel hb, h.low.1, Nat.lt_of_lt_of_le h.low.2.1 hb.size, Nat.lt_of_lt_of_le h.low.2.2.1 hb.size, Nat.lt_of_lt_of_le h.low.2.2.2 hb.size⟩
theorem PkF.put {w W : World} {A R P B ba oa bi oi : Nat} {xs ys : List Value} {n i : Nat} {v0 v1 : Value} (h : PkF w A R P B ba oa bi oi xs ys n i v0 v1 W) (j : Nat) (hj : j < 2) (v : Value) {u0 u1 : Value} (hu : [v0, v1].set j v = [u0, u1]) : PkF w A R P B ba oa bi oi xs ys n i u0 u1 (W.setCell ⟨P, j, none⟩ v) := by
  obtain ⟨h1, h2, h3, h4, h5⟩ := h.ne
  have hk : ∀ b, b ≠ P → (W.setCell ⟨P, j, none⟩ v).heap[b]? = W.heap[b]? := fun b hb => Below.heap_setCell _ _ _ b hb
  refine ⟨h.bA.same (hk _ h1), h.bR.same (hk _ h2), ?_, fun j' u hu' => (cell_of_eq (hk B h3) _).trans (h.bB j' u hu'), (cell_of_eq (hk _ h4) _).trans h.kA, (cell_of_eq (hk _ h5) _).trans h.kI, h.ne, h.bel.setCell h.low.1 _, ?_⟩
  · rw [← hu]
    exact h.bP.put j (by simpa using hj) v
  · simpa using h.low

set_option maxRecDepth 20000 in
set_option maxHeartbeats 8000000 in
theorem pfind_any (a : Option Addr) (c : Nat) (b : Option Addr) (n k i : Nat) (a' : Option Addr) (c' : Nat) (b' : Option Addr) (k' B : Nat) (w : World) (hi : i < n) (h4 : n ≤ 4096)
    (hs : Row w a [(n : Int)]) (hd' : Row w b' [(i : Int)]) (hsn : Row w a' [])
    (hB : ∀ j u, [Value.bool false, .slice a' 0 c', .slice b' 1 k'][j]? = some u → w.cell? ⟨B, j, none⟩ = some u) :
    Calls Tryz.prog 120 #[arrV false a 1 c b n k, .slice (some ⟨B, 0, none⟩) 1 1] w fun e w' => ∃ (sp : Option Addr) (sc : Nat) (g gc : Nat), e = .returned (.tuple #[.agg #[.slice sp 0 sc, .slice (some ⟨g, 0, none⟩) 1 gc], .nilIface]) ∧ Row w' sp [] ∧ Row w' (some ⟨g, 0, none⟩) [(i : Int)] ∧ Fresh w sp ∧ Fresh w (some ⟨g, 0, none⟩) ∧ Below w.heap.size w w' := by
  have hBlt : B < w.heap.size := World.block_lt_of_cell? w _ (hB 0 _ rfl)
  obtain ⟨ba, oa, rfl, kA⟩ := hs 0 (by simp)
  obtain ⟨bi, oi, rfl, kI⟩ := hd' 0 (by simp)
  simp only [List.getD_cons_zero, Nat.add_zero] at kA kI
  have lA : ba < w.heap.size := World.block_lt_of_cell? w _ kA
  have lI : bi < w.heap.size := World.block_lt_of_cell? w _ kI
  obtain ⟨W1, hW1⟩ : ∃ W : World, W = w.alloc (.cells #[.bool false, .slice (some ⟨ba, oa, none⟩) 1 c, .slice b n k] 24) := ⟨_, rfl⟩
  obtain ⟨W2, hW2⟩ : ∃ W : World, W = W1.alloc (.cells #[.slice none 0 0, .slice none 0 0] 187) := ⟨_, rfl⟩
  obtain ⟨W, hW⟩ : ∃ W : World, W = W2.alloc (.cells #[.slice none 0 0, .slice none 0 0] 187) := ⟨_, rfl⟩
  have b1 : Below w.heap.size w W1 := by rw [hW1]; exact push (start w) _
  have b2 : Below W1.heap.size W1 W2 := by rw [hW2]; exact push (start W1) _
  have b3 : Below W2.heap.size W2 W := by rw [hW]; exact push (start W2) _
  have s1 : W1.heap.size = w.heap.size + 1 := by rw [hW1]; simp
  have s2 : W2.heap.size = w.heap.size + 1 + 1 := by rw [hW2, World.size_alloc, s1]
  have s3 : W.heap.size = w.heap.size + 1 + 1 + 1 := by rw [hW, World.size_alloc, s2]
  have bel := below_trans (below_trans b1 b2) b3
  have F0 : PkF w w.heap.size (w.heap.size + 1) (w.heap.size + 1 + 1) B ba oa bi oi [.bool false, .slice (some ⟨ba, oa, none⟩) 1 c, .slice b n k] [.bool false, .slice a' 0 c', .slice (some ⟨bi, oi, none⟩) 1 k'] n i (.slice none 0 0) (.slice none 0 0) W := by
    refine ⟨?_, ?_, ?_, fun j u hu => (bel.cell (by exact hBlt)).trans (hB j u hu), (bel.cell (by exact lA)).trans kA, (bel.cell (by exact lI)).trans kI, by omega, bel, by omega⟩
    · have h := boxC_alloc w #[.bool false, .slice (some ⟨ba, oa, none⟩) 1 c, .slice b n k] 24
      rw [← hW1] at h
      exact (h.same (b2.block _ (by omega))).same (b3.block _ (by omega))
    · have h := boxC_alloc W1 #[.slice none 0 0, .slice none 0 0] 187
      rw [← hW2, s1] at h
      exact h.same (b3.block _ (by omega))
    · have h := boxC_alloc W2 #[.slice none 0 0, .slice none 0 0] 187
      rw [← hW, s2] at h
      exact h
  have hW' : Hid (((w.alloc (.cells #[.bool false, .slice (some ⟨ba, oa, none⟩) 1 c, .slice b n k] 24)).alloc (.cells #[.slice none 0 0, .slice none 0 0] 187)).alloc (.cells #[.slice none 0 0, .slice none 0 0] 187) = W) := Lib.hid (by rw [hW, hW2, hW1])
  obtain ⟨A, hA⟩ : ∃ A, A = w.heap.size := ⟨_, rfl⟩
  obtain ⟨R, hR⟩ : ∃ R, R = w.heap.size + 1 := ⟨_, rfl⟩
  obtain ⟨P, hP⟩ : ∃ P, P = w.heap.size + 1 + 1 := ⟨_, rfl⟩
  rw [← hP, ← hR, ← hA] at F0
  clear b1 b2 b3 s1 s2 bel kA kI lA lI hB hs hd'
  replace hW := Lib.hid hW
  replace hW1 := Lib.hid hW1
  replace hW2 := Lib.hid hW2
  replace s3 := Lib.hid s3
  replace hA := Lib.hid hA
  replace hR := Lib.hid hR
  replace hP := Lib.hid hP
  replace F0 := Lib.hid F0
  replace hsn := Lib.hid hsn
  go_enter Tryz.func120, Tryz.ntmps120
  go_upto_region 2 with fail
  rw [hW'.out, ← hP.out, ← hR.out, ← hA.out]
  have hnAP : A ≠ P := F0.out.ne.1
  obtain ⟨x0, -⟩ := F0.out.bA 0 _ rfl
  obtain ⟨x1, -⟩ := F0.out.bA 1 _ rfl
  obtain ⟨x2, -⟩ := F0.out.bA 2 _ rfl
  have y0 := F0.out.bB 0 _ rfl
  have y1 := F0.out.bB 1 _ rfl
  have y2 := F0.out.bB 2 _ rfl
  go_wp2
  refine wp_loop_rounds 2 ?_
  rw [rounds_succ]
  have F1 := Lib.hid (F0.out.step (push (start W) (.cells #[.bool false, .slice a' 0 c', .slice (some ⟨bi, oi, none⟩) 1 k'] 24)))
  have hX := boxC_alloc W #[.bool false, .slice a' 0 c', .slice (some ⟨bi, oi, none⟩) 1 k'] 24
  obtain ⟨w1, hw1⟩ : ∃ W' : World, W' = W.alloc (.cells #[.bool false, .slice a' 0 c', .slice (some ⟨bi, oi, none⟩) 1 k'] 24) := ⟨_, rfl⟩
  rw [← hw1] at F1 hX
  have hw1' := Lib.hid hw1.symm
  have sw1 := Lib.hid (show W.heap.size < w1.heap.size by rw [hw1]; simp)
  replace hw1 := Lib.hid hw1
  go_upto_region 7 with fail
  rw [hw1'.out]
  clear x0 x1 x2 y0 y1 y2
  obtain ⟨x0, -⟩ := hX 0 _ rfl
  obtain ⟨x1, -⟩ := hX 1 _ rfl
  obtain ⟨y0, f0⟩ := F1.out.bP 0 _ rfl
  have hn1 : W.heap.size ≠ P := by have := F0.out.low; omega
  have hlow := F1.out.low
  go_upto_region 10 with (first | (at_builtin; refine app_opt rfl (.tmp 41) (.tmp 43) rfl w1.heap.size _ [] [] a' c' rfl (Own.nil _ _) rfl (fun i h => absurd h (by simp)) (by simp) (Nat.le_refl _) ?_; intro v' w2 ho' hb' hl'; rw [List.append_nil] at ho'; obtain ⟨sp, sc, rfl, -, -, -⟩ := ho'.view; simp only [List.length_nil] at ho' ⊢; have f2 := (hb'.frozen (p := ⟨P, 0, none⟩) hlow.2.1).trans f0; have z0 := (hb'.cell (p := ⟨P, 0, none⟩) hlow.2.1).trans y0; replace ho' := Lib.hid ho'; replace hb' := Lib.hid hb') | fail)
  have F3 := (F1.out.step (hb'.out.mono (Nat.le_refl _))).put 0 (by omega) (.slice sp 0 sc) (u0 := .slice sp 0 sc) (u1 := .slice none 0 0) rfl
  have fsp : ∀ p, sp = some p → w.heap.size ≤ p.block := fun p e => by have h1 := own_fresh ho'.out p e; have h2 := F1.out.bel.size; omega
  generalize w2.setCell ⟨P, 0, none⟩ (.slice sp 0 sc) = w3 at *
  replace fsp := Lib.hid fsp
  clear x0 x1 y0 f0 f2 z0 hlow
  obtain ⟨z0, -⟩ := F3.bP 0 _ rfl
  replace F3 := Lib.hid F3
  go_wp2
  rw [rounds_succ]
  go_wp2_with fail
  refine (count_any sp [] 0 sc w3 (fun i h => absurd h (by simp)) (by simp [maxLen]) rfl).mono ?_
  rw [show M.count [] = .ok 1 from rfl]
  rintro e w4 ⟨rfl, hw4⟩
  subst hw4
  dsimp only [resI]
  clear z0
  have y0 := F3.out.bB 0 _ rfl
  have y1 := F3.out.bB 1 _ rfl
  have y2 := F3.out.bB 2 _ rfl
  go_wp2
  refine wp_loop_rounds 2 ?_
  rw [rounds_succ]
  have F5 := F3.out.step (push (start w3) (.cells #[.bool false, .slice a' 0 c', .slice (some ⟨bi, oi, none⟩) 1 k'] 24))
  have hX5 := boxC_alloc w3 #[.bool false, .slice a' 0 c', .slice (some ⟨bi, oi, none⟩) 1 k'] 24
  obtain ⟨w5, hw5⟩ : ∃ W' : World, W' = w3.alloc (.cells #[.bool false, .slice a' 0 c', .slice (some ⟨bi, oi, none⟩) 1 k'] 24) := ⟨_, rfl⟩
  rw [← hw5] at F5 hX5
  have hw5' := Lib.hid hw5.symm
  replace hw5 := Lib.hid hw5
  replace F5 := Lib.hid F5
  go_upto_region 17 with fail
  rw [hw5'.out]
  clear y0 y1 y2
  obtain ⟨x2, -⟩ := hX5 2 _ rfl
  have kI := F5.out.kI
  have kA := F5.out.kA
  obtain ⟨x1, -⟩ := F5.out.bA 1 _ rfl
  replace hX5 := Lib.hid hX5
  have t1 : decide ((i : Int) < 0) = false := decide_eq_false (by omega)
  have t2 : decide ((n : Int) ≤ (i : Int)) = false := decide_eq_false (by omega)
  go_wp2
  refine wp_loop_rounds 2 ?_
  rw [rounds_succ]
  go_wp2
  rw [rounds_succ]
  go_wp2
  rw [rounds_succ]
  clear x1 x2 kI kA
  go_upto_region 26 with fail
  obtain ⟨w6, hw6⟩ : ∃ W' : World, W' = w5.alloc (.cells #[.int .i64 0] 3) := ⟨_, rfl⟩
  have F6 := F5.out.step (push (start w5) (.cells #[.int .i64 0] 3))
  rw [← hw6] at F6
  have h60 : w6.cell? ⟨w5.heap.size, 0, none⟩ = some (.int .i64 0) := by rw [hw6]; simp
  have hw6' := Lib.hid hw6.symm
  replace hw6 := Lib.hid hw6
  obtain ⟨z1, f1⟩ := F6.bP 1 _ rfl
  have hgP : w5.heap.size ≠ P := by have := F5.out.low; omega
  have F7 := F6.put 1 (by omega) (.slice (some ⟨w5.heap.size, 0, none⟩) 1 1) (u0 := .slice sp 0 sc) (u1 := .slice (some ⟨w5.heap.size, 0, none⟩) 1 1) rfl
  have h70 : (w6.setCell ⟨P, 1, none⟩ (.slice (some ⟨w5.heap.size, 0, none⟩) 1 1)).cell? ⟨w5.heap.size, 0, none⟩ = some (.int .i64 0) := by
    rw [World.cell?_setCell_far _ _ _ _ (by first | exact hgP | exact hgP.symm)]; exact h60
  replace F6 := Lib.hid F6
  have z1' : (w5.alloc (.cells #[.int .i64 0] 3)).cell? ⟨P, 1, none⟩ = some (.slice none 0 0) := by rw [hw6'.out]; exact z1
  have f1' : (w5.alloc (.cells #[.int .i64 0] 3)).frozen? ⟨P, 1, none⟩ = false := by rw [hw6'.out]; exact f1
  go_upto_region 27 with fail
  rw [hw6'.out]
  generalize w6.setCell ⟨P, 1, none⟩ (.slice (some ⟨w5.heap.size, 0, none⟩) 1 1) = w7 at *
  generalize hg0 : w5.heap.size = g0 at *
  clear z1 f1 h60 z1' f1'
  have y0 := F7.bB 0 _ rfl
  have y1 := F7.bB 1 _ rfl
  have y2 := F7.bB 2 _ rfl
  go_wp2
  refine wp_loop_rounds 2 ?_
  rw [rounds_succ]
  have hb8 := push (start w7) (.cells #[.bool false, .slice a' 0 c', .slice (some ⟨bi, oi, none⟩) 1 k'] 24)
  have F8 := F7.step hb8
  have hX8 := boxC_alloc w7 #[.bool false, .slice a' 0 c', .slice (some ⟨bi, oi, none⟩) 1 k'] 24
  obtain ⟨w8, hw8⟩ : ∃ W' : World, W' = w7.alloc (.cells #[.bool false, .slice a' 0 c', .slice (some ⟨bi, oi, none⟩) 1 k'] 24) := ⟨_, rfl⟩
  rw [← hw8] at F8 hX8 hb8
  have h80 := (hb8.cell (p := ⟨g0, 0, none⟩) (World.block_lt_of_cell? w7 _ h70)).trans h70
  have hw8' := Lib.hid hw8.symm
  replace hw8 := Lib.hid hw8
  replace F7 := Lib.hid F7
  go_upto_region 30 with fail
  rw [hw8'.out]
  clear y0 y1 y2 h70
  have hmk : (Instr.makeSlice 22 (.int .i64 0) (.int .i64 1)).run Tryz.prog w8 = .ok (.slice (some ⟨w8.heap.size, 0, none⟩) 0 1) (w8.alloc (.cells (roomCells 1) 3)) := run_make_room0 1 (by omega) w8
  have hb9 := push (start w8) (.cells (roomCells 1) 3)
  have F9 := F8.step hb9
  have hO9 := own_room w8 1 w8.heap.size (Nat.le_refl _) (by simp [maxLen])
  obtain ⟨x2, -⟩ := hX8 2 _ rfl
  obtain ⟨z1, -⟩ := F8.bP 1 _ rfl
  have hlX : w7.heap.size < w8.heap.size := World.block_lt_of_cell? w8 _ x2
  have X9 := (hb9.cell (p := ⟨w7.heap.size, 2, none⟩) hlX).trans x2
  have h90 := (hb9.cell (p := ⟨g0, 0, none⟩) (World.block_lt_of_cell? w8 _ h80)).trans h80
  obtain ⟨w9, hw9⟩ : ∃ W' : World, W' = w8.alloc (.cells (roomCells 1) 3) := ⟨_, rfl⟩
  rw [← hw9] at F9 hO9 X9 h90 hmk hb9
  have sw9 := Lib.hid (show w9.heap.size = w8.heap.size + 1 by rw [hw9]; simp)
  replace hw9 := Lib.hid hw9
  replace F8 := Lib.hid F8
  replace hX8 := Lib.hid hX8
  replace hO9 := Lib.hid hO9
  replace hb8 := Lib.hid hb8
  replace hb9 := Lib.hid hb9
  go_upto_region 31 with fail
  clear x2 z1 h80 hmk
  obtain ⟨z1, -⟩ := F9.bP 1 _ rfl
  have kI := F9.kI
  have kA := F9.kA
  obtain ⟨x1, -⟩ := F9.bA 1 _ rfl
  replace F9 := Lib.hid F9
  go_wp2
  refine wp_loop_rounds 2 ?_
  rw [rounds_succ]
  go_wp2
  refine wp_loop_rounds 2 ?_
  rw [rounds_succ]
  generalize hgN : w8.heap.size = gN at *
  replace hgN := Lib.hid hgN
  go_wp2_with (first | (at_builtin; refine app_fit rfl (.tmp 120) (.tmp 130) rfl gN gN 1 0 [] (i : Int) rfl rfl hO9.out rfl (by simp) ?_; intro w10 ho10 hbut10 hbe10 hs10; replace ho10 := Lib.hid ho10; replace hbut10 := Lib.hid hbut10; replace hbe10 := Lib.hid hbe10; replace hs10 := Lib.hid hs10) | fail)
  have F10 := F8.out.step (by rw [hgN.out]; exact hb9.out.trans hbe10.out)
  clear z1 kI kA x1 X9 h90
  obtain ⟨z1, f1⟩ := F10.bP 1 _ rfl
  have F11 := F10.put 1 (by omega) (.slice (some ⟨gN, 0, none⟩) 1 1) (u0 := .slice sp 0 sc) (u1 := .slice (some ⟨gN, 0, none⟩) 1 1) rfl
  have hPg : P ≠ gN := by have := F8.out.low; have := hgN.out; omega
  have r11 : Row (w10.setCell ⟨P, 1, none⟩ (.slice (some ⟨gN, 0, none⟩) 1 1)) (some ⟨gN, 0, none⟩) [(i : Int)] := ho10.out.row.setFar ⟨P, 1, none⟩ _ hPg
  replace F10 := Lib.hid F10
  replace F11 := Lib.hid F11
  replace r11 := Lib.hid r11
  rw [rounds_succ]
  go_wp2
  rw [rounds_succ]
  go_upto_region 41 with fail
  generalize w10.setCell ⟨P, 1, none⟩ (.slice (some ⟨gN, 0, none⟩) 1 1) = w11 at *
  clear z1 f1
  obtain ⟨p0, -⟩ := F11.out.bP 0 _ rfl
  obtain ⟨p1, -⟩ := F11.out.bP 1 _ rfl
  obtain ⟨q0, g1⟩ := F11.out.bR 0 _ rfl
  obtain ⟨q1, g2⟩ := F11.out.bR 1 _ rfl
  go_wp2
  rw [rounds_succ]
  go_wp2
  refine bodyPost_ret (v := .tuple #[.agg #[.slice sp 0 sc, .slice (some ⟨gN, 0, none⟩) 1 1], .nilIface]) (by simp [results, Tryz.results120, go_sem, cell?_set_same, q0, q1]) rfl ?_
  have hRw : w.heap.size ≤ R := by have := hR.out; omega
  have hRg : R ≠ gN := by have := F8.out.low; have := hgN.out; omega
  refine ⟨sp, sc, gN, 1, rfl, fun i h => absurd h (by simp), (r11.out.setFar ⟨R, 0, none⟩ _ hRg).setFar ⟨R, 1, none⟩ _ hRg, fsp.out, fun p e => ?_, (F11.out.bel.setCell hRw _).setCell hRw _⟩
  cases e
  show w.heap.size ≤ gN
  have h1 := F8.out.low
  have h2 := hgN.out
  have h3 := F8.out.bel.size
  omega
end Go.Proofs.YtaplaoelamnoiaaGreatDoor

/- One append of an int to an own slice that has room, as a step of a region that draws its order. Condition: the room holds one more. -/
namespace Go.Proofs.YtaplaoelamnoiaaGreatDoor
open Go.RowKit

theorem step_app_fit {w : World} {ops : Array Oper} {o : Oper} {a : Act} {K : Act → World → Prop} {Q : Exit → Act → World → Prop} {E : Prop} (hgd : o.guard = none) (s x : Operand)
    (ho : o.op = .call { callee := .builtin .append, args := #[s, x], argTypes := #[22, 22] })
    (B g cap l : Nat) (ys : List Int) (n : Int) (blk : Nat) (hs : a.eval s = .slice (some ⟨g, 0, none⟩) l cap) (el : l = ys.length) (hown : Own w B (.slice (some ⟨g, 0, none⟩) ys.length cap) ys) (hx : a.eval x = .slice (some ⟨blk, 0, none⟩) 1 1) (hc : w.cell? ⟨blk, 0, none⟩ = some (.int .i64 n))
    (hfit : ys.length + 1 ≤ cap) (m : Nat) (em : m = l + 1)
    (h : ∀ w', Own w' B (.slice (some ⟨g, 0, none⟩) m cap) (ys ++ [n]) → But g w w' → Below B w w' → w'.heap.size = w.heap.size → K (a.put o.dst (.slice (some ⟨g, 0, none⟩) m cap)) w') :
    if Region.wanted o (yielded ops a.tmps) = true then Oper.wp Tryz.prog o a w K Q else E := by
  subst el
  subst em
  have hw : Region.wanted o (yielded ops a.tmps) = true := by simp [Region.wanted, hgd]
  rw [if_pos hw]
  obtain ⟨i0, hi, hz0, hz1, hz2⟩ := info_parts Tryz.infoInt
  rcases hown.2 with ⟨e, _⟩ | ⟨g', cap', cur, e, hb, hg, hnc, hcm, hcs, ht⟩
  · simp at e
  · simp at e
    obtain ⟨⟨rfl, _⟩, rfl, rfl⟩ := e
    have hlt := lt_of_some hg
    have hr := run_append_room (P := Tryz.prog) w 22 o.type 3 i0 Tryz.underlying22 hi g ys.length cap cur hg ⟨blk, 0, none⟩ 1 1 [.int .i64 n] (by rw [hz1]; rfl) (by
      intro j u hj
      match j, hj with
      | 0, hj => simp at hj; subst hj; simpa [Addr.add] using hc) (by intro u hu; simp at hu; subst hu; rfl) hfit (by rw [hz1, hcs]; simp; omega)
    unfold Oper.wp execOp
    simp only [ho, resolve, invoke, builtin, Sem.run_bind, Sem.run_pure, Result.andThen_ok, List.map_toArray, List.map_cons, List.map_nil, hs, hx, hr]
    refine h _ ?_ ?_ ?_ ?_
    · refine ⟨by simp, .inr ⟨g, cap, _, by simp, hb, setRow_heap _ g cur _ _ _ hg, by simpa using hfit, hcm, ?_, ?_⟩⟩
      · rw [hz1]; simp; omega
      · rw [hz1, Nat.mul_one] at *
        simp only [List.map_append, List.map_cons, List.map_nil, List.length_append, List.length_cons, List.length_nil, Nat.mul_one]
        rw [ht, show ys.length + (0 + 1) = (List.map (Value.int .i64) ys ++ [Value.int .i64 n]).length by simp]
        exact List.take_left
    · exact fun b hb' hne => setRow_other _ g b _ hne
    · exact (Below.refl B w).trans ⟨rfl, rfl, rfl, by simp [World.setRow], fun k hk => setRow_other _ g k _ (by omega)⟩
    · simp [World.setRow]
end Go.Proofs.YtaplaoelamnoiaaGreatDoor

/- The call pick.At of a list at one index without axes. Condition: a sound list of numbers, and an index that lies in it. -/
namespace Go.Proofs.YtaplaoelamnoiaaGreatDoor
open Go.RowKit

theorem heldP {w : World} {a b c : Addr} {x y z : Value} (h : w.cell? a = some x ∧ w.cell? b = some y ∧ w.cell? c = some z) (o : Obj) : (w.alloc o).cell? a = some x ∧ (w.alloc o).cell? b = some y ∧ (w.alloc o).cell? c = some z :=
  have hb := push (start w) o
  ⟨(hb.cell (World.block_lt_of_cell? w _ h.1)).trans h.1, (hb.cell (World.block_lt_of_cell? w _ h.2.1)).trans h.2.1, (hb.cell (World.block_lt_of_cell? w _ h.2.2)).trans h.2.2⟩
set_option maxRecDepth 20000 in
set_option maxHeartbeats 8000000 in
theorem pick_list (d : List Int) (n i : Nat) (hn : n = d.length) (hi : i < n) (hf : M.flaw false [(d.length : Int)] d = 0) : Pick1 ⟨false, [(d.length : Int)], d⟩ ⟨false, [], [(i : Int)]⟩ ⟨false, [], [d.getD i 0]⟩ := by
  intro w a c b k a' c' b' k' B hs hd hs' hd' hB
  dsimp only at hs hd hs' hd' hB ⊢
  have hfy : M.flaw false [] [(i : Int)] = 0 := by simp [M.flaw, M.count, M.badLen, M.mulUp]
  have l2 := (flaw_len hf).1
  have kc := fun W h1 h2 h3 h4 h5 => pkcheck_any ⟨false, [(d.length : Int)], d⟩ ⟨false, [], [(i : Int)]⟩ a c b k a' c' b' k' B W hf hfy h1 h2 h3 h4 h5
  have kf := fun W h1 h2 h3 h5 => pfind_any a c b n k i a' c' b' k' B W hi (by omega) h1 h2 h3 h5
  dsimp only [List.length_cons, List.length_nil, Nat.reduceAdd] at kc hB ⊢
  rw [← hn] at kc hs ⊢
  have hBlt : B < w.heap.size := World.block_lt_of_cell? w _ (hB 0 _ rfl)
  have E := ((((Env.start w).addRow hd').addRow hs').addRow hd).addRow hs
  replace E := E.box false a 1 c b n k
  replace E := E.box false none 0 0 none 0 0
  simp only [World.size_alloc] at E
  obtain ⟨W, hW⟩ : ∃ W : World, W = (w.alloc (.cells #[.bool false, .slice a 1 c, .slice b n k] 24)).alloc (.cells #[.bool false, .slice none 0 0, .slice none 0 0] 24) := ⟨_, rfl⟩
  rw [← hW] at E
  have hBW : ∀ W' : World, Below w.heap.size w W' → ∀ j u, [Value.bool false, .slice a' 0 c', .slice b' 1 k'][j]? = some u → W'.cell? ⟨B, j, none⟩ = some u := fun W' hb j u h => (hb.cell (by exact hBlt)).trans (hB j u h)
  have hW' := Lib.hid hW.symm
  replace hW := Lib.hid hW
  obtain ⟨v, hv⟩ : ∃ v, v = d.getD i 0 := ⟨_, rfl⟩
  rw [← hv]
  replace hv := Lib.hid hv
  replace kc := Lib.hid kc
  replace kf := Lib.hid kf
  replace E := Lib.hid E
  replace hBW := Lib.hid hBW
  replace hn := Lib.hid hn
  clear hs hd hs' hd' hB hf hfy
  go_enter Tryz.func93, Tryz.ntmps93
  go_wp2_with fail
  rw [hW'.out]
  refine (kc.out W (E.out.getRow 2 rfl) (E.out.getRow 3 rfl) (E.out.getRow 4 rfl) (E.out.getRow 5 rfl) (hBW.out _ E.out.bel)).mono ?_
  rintro en w1 ⟨rfl, hb⟩
  replace E := E.out.step hb
  clear hb
  obtain ⟨⟨y0, y1, y2⟩, -⟩ := E.getBox 1 rfl
  replace E := Lib.hid E
  go_wp2_with fail
  refine (kf.out w1 (E.out.getRow 2 rfl) (E.out.getRow 5 rfl) (E.out.getRow 4 rfl) (hBW.out _ E.out.bel)).mono ?_
  rintro en w2 ⟨sp, sc, g, gc, rfl, -, rg, fsp, fg, hb⟩
  have lR := (E.out.getBox 0 rfl).lt
  replace E := (E.out.step hb).addRow rg
  have fsp' : ∀ p, sp = some p → w.heap.size + 1 < p.block := fun p e => by have h1 := fsp p e; omega
  have bP := boxC_alloc w2 #[.slice sp 0 sc, .slice (some ⟨g, 0, none⟩) 1 gc] 187
  have hb3 := push (start w2) (.cells #[.slice sp 0 sc, .slice (some ⟨g, 0, none⟩) 1 gc] 187)
  obtain ⟨w3, hw3⟩ : ∃ W' : World, W' = w2.alloc (.cells #[.slice sp 0 sc, .slice (some ⟨g, 0, none⟩) 1 gc] 187) := ⟨_, rfl⟩
  rw [← hw3] at bP hb3
  have s3 : w3.heap.size = w2.heap.size + 1 := by rw [hw3]; simp
  replace E := E.step hb3
  have hw3' := Lib.hid hw3.symm
  replace hw3 := Lib.hid hw3
  obtain ⟨P, hP⟩ : ∃ P, P = w2.heap.size := ⟨_, rfl⟩
  rw [← hP] at bP s3
  have hPw : w.heap.size + 1 < P := by have := hb.size; omega
  replace fsp' := Lib.hid fsp'
  clear hb y0 y1 y2 rg fsp fg hb3
  replace E := Lib.hid E
  go_upto_region 7 with fail
  rw [hw3'.out, ← hP]
  replace hP := Lib.hid hP
  obtain ⟨⟨x0, x1, x2⟩, -⟩ := E.out.getBox 2 rfl
  obtain ⟨p0, -⟩ := bP 0 _ rfl
  obtain ⟨p1, -⟩ := bP 1 _ rfl
  have hmk1 : ∀ W, (Instr.makeSlice 22 (.int .i64 0) (.int .i64 1)).run Tryz.prog W = .ok (.slice (some ⟨W.heap.size, 0, none⟩) 0 1) (W.alloc (.cells (roomCells 1) 3)) := fun W => run_make_room0 1 (by omega) W
  have m1 : w3.heap.size ≠ w.heap.size := by omega
  have m2 : w3.heap.size ≠ P := by omega
  have m3 : w3.heap.size + 1 ≠ w.heap.size := by omega
  have m4 : w3.heap.size + 1 ≠ P := by omega
  replace bP := Lib.hid bP
  have hS0 : w3.drew.cell? ⟨w.heap.size, 0, none⟩ = some (.bool false) ∧ w3.drew.cell? ⟨P, 0, none⟩ = some (.slice sp 0 sc) ∧ w3.drew.cell? ⟨P, 1, none⟩ = some (.slice (some ⟨g, 0, none⟩) 1 gc) := ⟨x0, p0, p1⟩
  go_cut [9] from 10 (fun s9 wx => ∃ Q gq : Nat, s9 = .pointer (some ⟨Q, 0, none⟩) ∧ w3.heap.size ≤ Q ∧ w3.heap.size ≤ gq ∧ Q ≠ gq ∧ BoxC Q [.bool false, .slice sp 0 sc, .slice (some ⟨gq, 0, none⟩) 0 1] wx ∧ Own wx w3.heap.size (.slice (some ⟨gq, 0, none⟩) 0 1) [] ∧ Below w3.heap.size w3 wx)
  case first =>
    go_region_held3 (fun W => W.cell? ⟨w.heap.size, 0, none⟩ = some (.bool false) ∧ W.cell? ⟨P, 0, none⟩ = some (.slice sp 0 sc) ∧ W.cell? ⟨P, 1, none⟩ = some (.slice (some ⟨g, 0, none⟩) 1 gc))
      (first | (with_reducible assumption) | (exact heldP hS0 _) | (exact heldP (heldP hS0 _) _) | go_keep)
      (fail)
    all_goals go_wp2
    all_goals go_meet
    · case rel =>
        have h := boxC_alloc (w3.alloc (.cells (roomCells 1) 3)) #[.bool false, .slice sp 0 sc, .slice (some ⟨P + 1, 0, none⟩) 0 1] 24
        rw [World.size_alloc, s3] at h
        have hg := heap_alloc_new w3 (.cells (roomCells 1) 3)
        rw [s3] at hg
        have hg2 := (heap_alloc_old _ (.cells #[.bool false, .slice sp 0 sc, .slice (some ⟨P + 1, 0, none⟩) 0 1] 24) (lt_heap hg)).trans hg
        exact ⟨P + 1 + 1, P + 1, rfl, by omega, by omega, by omega, h, own_room0 (W := ((w3.alloc (.cells (roomCells 1) 3)).alloc (.cells #[.bool false, .slice sp 0 sc, .slice (some ⟨P + 1, 0, none⟩) 0 1] 24)).drew) hg2 (by omega) (by simp [maxLen]), below_drewN (push (push (start w3) _) _) 1⟩
    · case rel =>
        have h := boxC_alloc w3 #[.bool false, .slice sp 0 sc, .slice (some ⟨P + 1 + 1, 0, none⟩) 0 1] 24
        have h' := h.same ((push (start (w3.alloc (.cells #[.bool false, .slice sp 0 sc, .slice (some ⟨P + 1 + 1, 0, none⟩) 0 1] 24))) (.cells (roomCells 1) 3)).block w3.heap.size (by rw [World.size_alloc]; omega))
        rw [s3] at h'
        have hg := heap_alloc_new (w3.alloc (.cells #[.bool false, .slice sp 0 sc, .slice (some ⟨P + 1 + 1, 0, none⟩) 0 1] 24)) (.cells (roomCells 1) 3)
        rw [World.size_alloc, s3] at hg
        exact ⟨P + 1, P + 1 + 1, rfl, by omega, by omega, by omega, h', own_room0 (W := ((w3.alloc (.cells #[.bool false, .slice sp 0 sc, .slice (some ⟨P + 1 + 1, 0, none⟩) 0 1] 24)).alloc (.cells (roomCells 1) 3)).drew) hg (by omega) (by simp [maxLen]), below_drewN (push (push (start w3) _) _) 1⟩
  case rest =>
    obtain ⟨Q, gq, rfl, hQ, hgq, hne, bQ, oQ, hbx⟩ := hcut
    have E4 := E.out.step hbx
    have bP4 := bP.out.same (hbx.block P (by omega))
    clear x0 x1 x2 p0 p1 hmk1 hS0
    obtain ⟨p1, -⟩ := bP4 1 _ rfl
    obtain ⟨_, _, e, kg⟩ := E4.getRow 0 rfl 0 (by simp)
    cases e
    simp only [List.getD_cons_zero, Nat.add_zero] at kg
    obtain ⟨⟨x0, x1, x2⟩, -⟩ := E4.getBox 2 rfl
    obtain ⟨bd, od, rfl, kd⟩ := E4.getRow 4 rfl i (by rw [← hn.out]; exact hi)
    rw [← hv.out] at kd
    obtain ⟨q2, f2⟩ := bQ 2 _ rfl
    have hlQ : Q < wc.heap.size := World.block_lt_of_cell? wc _ q2
    have l1 : (i : Int) < (n : Int) := by omega
    have fin : ∀ w9, Own w9 w3.heap.size (.slice (some ⟨gq, 0, none⟩) 1 1) ([] ++ [v]) → But gq (wc.alloc (.cells #[.int .i64 v] 3)).drew w9 → Below w3.heap.size (wc.alloc (.cells #[.int .i64 v] 3)).drew w9 →
        BoxF (w9.setCell ⟨Q, 2, none⟩ (.slice (some ⟨gq, 0, none⟩) 1 1)) (w.heap.size + 1) false none 0 0 none 0 0 ∧ BoxC Q [.bool false, .slice sp 0 sc, .slice (some ⟨gq, 0, none⟩) 1 1] (w9.setCell ⟨Q, 2, none⟩ (.slice (some ⟨gq, 0, none⟩) 1 1)) ∧
        Row (w9.setCell ⟨Q, 2, none⟩ (.slice (some ⟨gq, 0, none⟩) 1 1)) (some ⟨gq, 0, none⟩) [v] ∧ Below w.heap.size w (w9.setCell ⟨Q, 2, none⟩ (.slice (some ⟨gq, 0, none⟩) 1 1)) := fun w9 ho9 hbut9 hbe9 => by
      have hba := push (start wc) (.cells #[.int .i64 v] 3)
      have hlR := (E4.getBox 1 rfl).lt
      have hsz : (wc.alloc (.cells #[.int .i64 v] 3)).drew.heap.size = wc.heap.size + 1 := by simp
      have eR : (w9.setCell ⟨Q, 2, none⟩ (.slice (some ⟨gq, 0, none⟩) 1 1)).heap[w.heap.size + 1]? = wc.heap[w.heap.size + 1]? := by
        rw [Below.heap_setCell _ _ _ _ (show w.heap.size + 1 ≠ Q by omega)]
        exact (hbut9 _ (by omega) (by omega)).trans (hba.block _ hlR)
      have bQ9 : BoxC Q [.bool false, .slice sp 0 sc, .slice (some ⟨gq, 0, none⟩) 0 1] w9 := bQ.same ((hbut9 Q (by omega) hne).trans (hba.block _ hlQ))
      refine ⟨(E4.getBox 1 rfl).same9 eR, bQ9.put 2 (by simp) _, ho9.row.setFar ⟨Q, 2, none⟩ _ hne, ((E4.bel.trans (hba.mono E4.bel.size)).trans ((below_drewN (Below.refl w3.heap.size _) 1).trans hbe9 |>.mono (by omega))).setCell (by show w.heap.size ≤ Q; omega) _⟩
    replace fin := Lib.hid fin
    replace E4 := Lib.hid E4
    replace bQ := Lib.hid bQ
    replace bP4 := Lib.hid bP4
    go_wp2
    refine wp_loop_rounds 2 ?_
    rw [rounds_succ]
    go_upto_region 11 with fail
    go_region_law ((refine step_app_fit rfl (.tmp 46) (.tmp 52) rfl w3.heap.size gq 1 0 [] v wc.heap.size rfl rfl (oQ.alloc _) rfl (by simp [go_sem]) (by simp) 1 rfl ?_; intro w9 ho9 hbut9 hbe9 hs9; have hq9 := hbut9 Q (by simp; omega) hne; have d2 := (cell_of_eq hq9 2).trans (((push (start wc) (.cells #[.int .i64 v] 3)).cell (p := ⟨Q, 2, none⟩) hlQ).trans q2); have g2 := (frozen_of_eq hq9 2).trans (((push (start wc) (.cells #[.int .i64 v] 3)).frozen (p := ⟨Q, 2, none⟩) hlQ).trans f2)))
    all_goals go_wp2
    all_goals (
      obtain ⟨⟨⟨r0, r1, r2⟩, g0, g1, g2'⟩, bQ9, rq, bl⟩ := fin.out w9 ho9 hbut9 hbe9
      generalize w9.setCell ⟨Q, 2, none⟩ (.slice (some ⟨gq, 0, none⟩) 1 1) = w10 at *
      obtain ⟨u0, -⟩ := bQ9 0 _ rfl
      obtain ⟨u1, -⟩ := bQ9 1 _ rfl
      obtain ⟨u2, -⟩ := bQ9 2 _ rfl
      replace rq := Lib.hid rq
      replace bl := Lib.hid bl
      replace bQ9 := Lib.hid bQ9
      clear ho9 hbut9 hbe9 hs9 hq9 d2 g2 x0 x1 x2 kg kd q2 f2 p1
      rw [rounds_succ]
      go_wp2
      refine bodyPost_ret (v := .tuple #[arrV false sp 0 sc (some ⟨gq, 0, none⟩) 1 1, .nilIface]) (by simp [results, Tryz.results93, go_sem, cell?_set_same, arrV, r0, r1, r2]) rfl ?_
      refine ArrPostF.ok (x := ⟨false, [], [v]⟩) rfl rfl (fun i h => absurd h (by simp)) (rq.out.but (But.set3 _ _ _ _ _ _) (fun _ p e => by cases e; show gq ≠ w.heap.size + 1; omega)) (fun p e => by have := fsp'.out p e; omega) (fun p e => by cases e; show w.heap.size ≤ gq; omega) (Nat.zero_le _) (set3 bl.out (by omega) _ _ _))
end Go.Proofs.YtaplaoelamnoiaaGreatDoor
