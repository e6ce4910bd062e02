/- Texts that lie in one file: what is plain, rows, boxes, squares, and what is known of a world. No condition. -/
import Derived.Test.YtaplaoelamnoiaaGreatDoorBd07
import Derived.Deep.RegionHeld3
/- The parser in memory; its methods kind, need, starts. Condition: the parser and its words lie. -/
namespace Go.Proofs.YtaplaoelamnoiaaGreatDoor
open Go.RowKit

/-- The words of a line, in block tb. -/
def TokAt (tb : Nat) (ts : List Tok) (w : World) : Prop := ∀ i t, ts[i]? = some t →
  w.cell? ⟨tb, i * 5, none⟩ = some (.int .i64 t.kind) ∧ w.cell? ⟨tb, i * 5 + 1, none⟩ = some (.int .i64 t.fn) ∧ w.cell? ⟨tb, i * 5 + 2, none⟩ = some (.int .i64 t.num) ∧ w.cell? ⟨tb, i * 5 + 3, none⟩ = some (.string t.text) ∧ w.cell? ⟨tb, i * 5 + 4, none⟩ = some (.int .i64 t.place)
theorem TokAt.same {tb : Nat} {ts : List Tok} {w w' : World} (h : TokAt tb ts w) (e : w'.heap[tb]? = w.heap[tb]?) : TokAt tb ts w' := fun i t hi => by
  obtain ⟨a, b, c, d, f⟩ := h i t hi
  exact ⟨(cell_of_eq e _).trans a, (cell_of_eq e _).trans b, (cell_of_eq e _).trans c, (cell_of_eq e _).trans d, (cell_of_eq e _).trans f⟩
/-- The parser, in block g, at the i-th word. -/
def PSt (g tb tc n i : Nat) (w : World) : Prop :=
  (w.cell? ⟨g, 0, none⟩ = some (.slice (some ⟨tb, 0, none⟩) n tc) ∧ w.cell? ⟨g, 1, none⟩ = some (.int .i64 i) ∧ w.cell? ⟨g, 2, none⟩ = some (.int .i64 0)) ∧ w.frozen? ⟨g, 1, none⟩ = false
theorem PSt.same {g tb tc n i : Nat} {w w' : World} (h : PSt g tb tc n i w) (e : w'.heap[g]? = w.heap[g]?) : PSt g tb tc n i w' := by
  obtain ⟨⟨a, b, c⟩, d⟩ := h
  exact ⟨⟨(cell_of_eq e _).trans a, (cell_of_eq e _).trans b, (cell_of_eq e _).trans c⟩, (frozen_of_eq e _).trans d⟩
theorem PSt.lt {g tb tc n i : Nat} {w : World} (h : PSt g tb tc n i w) : g < w.heap.size := World.block_lt_of_cell? _ _ h.1.1
theorem PSt.setAt {g tb tc n i : Nat} {w : World} (h : PSt g tb tc n i w) (j : Nat) (v : Value) (hv : v = .int .i64 j) : PSt g tb tc n j (w.setCell ⟨g, 1, none⟩ v) := by
  subst hv
  obtain ⟨⟨a, b, c⟩, d⟩ := h
  refine ⟨⟨?_, ?_, ?_⟩, ?_⟩
  · rw [World.cell?_setCell_other _ _ _ _ (by simp)]; exact a
  · exact World.cell?_setCell_same' _ _ _ (by rw [b]; rfl)
  · rw [World.cell?_setCell_other _ _ _ _ (by simp)]; exact c
  · rw [World.frozen?_setCell]; exact d
/-- How the world stands in the midst of the parser's work: w at its start, W now. -/
def Par (g tb tc : Nat) (ts : List Tok) (i : Nat) (w W : World) : Prop :=
  PSt g tb tc ts.length i W ∧ TokAt tb ts W ∧ But g w W ∧ Below g w W ∧ tb < g ∧ g < w.heap.size ∧ ts.length ≤ 200
theorem Par.start {g tb tc : Nat} {ts : List Tok} {i : Nat} {w : World} (h : PSt g tb tc ts.length i w) (ht : TokAt tb ts w) (hg : tb < g) (h2 : ts.length ≤ 200) : Par g tb tc ts i w w := ⟨h, ht, But.refl _ _, Below.refl _ _, hg, h.lt, h2⟩
theorem Par.step {g tb tc : Nat} {ts : List Tok} {i : Nat} {w W W2 : World} (h : Par g tb tc ts i w W) (k : Below W.heap.size W W2) : Par g tb tc ts i w W2 := by
  obtain ⟨h1, h2, h3, h4, h5, h6, h7⟩ := h
  have hs := h4.size
  exact ⟨h1.same (k.block g (by omega)), h2.same (k.block tb (by omega)), h3.below k hs, h4.trans (k.mono (by omega)), h5, h6, h7⟩
theorem Par.drewN {g tb tc : Nat} {ts : List Tok} {i : Nat} {w W : World} (h : Par g tb tc ts i w W) (n : Nat) : Par g tb tc ts i w (W.drewN n) := h.step (below_drewN (Below.refl _ _) n)
theorem Par.trans {g tb tc : Nat} {ts : List Tok} {i j : Nat} {w W W2 : World} (h : Par g tb tc ts i w W) (k : Par g tb tc ts j W W2) : Par g tb tc ts j w W2 := by
  obtain ⟨h1, h2, h3, h4, h5, h6, h7⟩ := h
  obtain ⟨k1, k2, k3, k4, k5, k6, k7⟩ := k
  exact ⟨k1, k2, h3.trans k3 h4.size, h4.trans k4, h5, h6, h7⟩
theorem Par.setAt {g tb tc : Nat} {ts : List Tok} {i : Nat} {w W : World} (h : Par g tb tc ts i w W) (j : Nat) (v : Value) (hv : v = .int .i64 j) : Par g tb tc ts j w (W.setCell ⟨g, 1, none⟩ v) := by
  obtain ⟨h1, h2, h3, h4, h5, h6, h7⟩ := h
  exact ⟨h1.setAt j v hv, h2.same (Below.heap_setCell _ _ _ _ (by show tb ≠ g; omega)), fun b hb hne => (Below.heap_setCell _ _ _ b hne).trans (h3 b hb hne), h4.setCell (Nat.le_refl _) _, h5, h6, h7⟩
theorem Par.self {g tb tc : Nat} {ts : List Tok} {i : Nat} {w W : World} (h : Par g tb tc ts i w W) : Par g tb tc ts i W W := by
  obtain ⟨h1, h2, h3, h4, h5, h6, h7⟩ := h
  exact ⟨h1, h2, But.refl _ _, Below.refl _ _, h5, h1.lt, h7⟩
/-- What expressions have in memory behind the parser stays. -/
theorem Par.keep {g tb tc : Nat} {ts : List Tok} {i : Nat} {w W : World} (h : Par g tb tc ts i w W) {e : Ex} {v : Value} (hv : ExV (g + 1) w e v) : ExV (g + 1) W e v :=
  hv.same fun b h1 h2 => h.2.2.1 b h2 (by omega)
theorem kind_lt {ts : List Tok} {i : Nat} (h : M.kindAt ts i ≠ 0) : i < ts.length := by
  unfold M.kindAt at h
  cases hi : ts[i]? with
  | none => rw [hi] at h; exact absurd rfl h
  | some t => exact (List.getElem?_eq_some_iff.1 hi).1

theorem kind_any (g tb tc : Nat) (ts : List Tok) (i : Nat) (w : World) (h : Par g tb tc ts i w w) :
    Calls Tryz.prog 82 #[.pointer (some ⟨g, 0, none⟩)] w fun e w' => e = .returned (.int .i64 (M.kindAt ts i)) ∧ ∃ n, w' = w.drewN n := by
  obtain ⟨⟨⟨a, b, c⟩, d⟩, ht, -, -, -, -, h2⟩ := h
  unfold M.kindAt
  cases hi : ts[i]? with
  | none =>
    have hl := List.getElem?_eq_none_iff.1 hi
    have z : decide (((i : Nat) : Int) < ((ts.length : Nat) : Int)) = false := decide_eq_false (by omega)
    replace hi := Lib.hid hi
    replace ht := Lib.hid ht
    go_enter Tryz.func82, Tryz.ntmps82
    go_wp2_with fail
    go_quiet (fail)
    go_wp2
    go_ret
    exact ⟨rfl, _, rfl⟩
  | some t =>
    have hl := (List.getElem?_eq_some_iff.1 hi).1
    obtain ⟨t0, -, -, -, -⟩ := ht i t hi
    have z : ((i : Nat) : Int) < ((ts.length : Nat) : Int) := by omega
    replace hi := Lib.hid hi
    replace ht := Lib.hid ht
    go_enter Tryz.func82, Tryz.ntmps82
    go_wp2_with fail
    go_quiet (fail)
    go_wp2_with fail
    go_quiet (fail)
    go_wp2
    go_ret
    exact ⟨rfl, _, by rw [World.drewN_drewN]⟩
end Go.Proofs.YtaplaoelamnoiaaGreatDoor

/- The parser's methods starts and need. Condition: the parser and its words lie. -/
namespace Go.Proofs.YtaplaoelamnoiaaGreatDoor
open Go.RowKit

theorem Par.set5 {g tb tc : Nat} {ts : List Tok} {i : Nat} {w W : World} (h : Par g tb tc ts i w W) {N : Nat} (hN : w.heap.size ≤ N) (a b c d e : Value) : Par g tb tc ts i w (((((W.setCell ⟨N, 0, none⟩ a).setCell ⟨N, 1, none⟩ b).setCell ⟨N, 2, none⟩ c).setCell ⟨N, 3, none⟩ d).setCell ⟨N, 4, none⟩ e) := by
  obtain ⟨h1, h2, h3, h4, h5, h6, h7⟩ := h
  exact ⟨h1.same (set5_block _ _ _ _ _ _ _ (by omega)), h2.same (set5_block _ _ _ _ _ _ _ (by omega)), fun k hk hne => (set5_block _ _ _ _ _ _ _ (by omega)).trans (h3 k hk hne), set5_below h4 (by omega) _ _ _ _ _, h5, h6, h7⟩
theorem starts_any (g tb tc : Nat) (ts : List Tok) (i : Nat) (w : World) (h : Par g tb tc ts i w w) (ho : M.odd ts i = false) :
    Calls Tryz.prog 61 #[.pointer (some ⟨g, 0, none⟩)] w fun e w' => e = .returned (.bool (M.starts ts i)) ∧ ∃ n, w' = w.drewN n := by
  have kk := kind_any g tb tc ts i w h
  unfold M.odd at ho
  rw [Bool.or_eq_false_iff] at ho
  obtain ⟨o1, o2⟩ := ho
  unfold M.starts
  generalize M.kindAt ts i = k at *
  replace kk := Lib.hid kk
  clear h
  by_cases h4 : k = 4
  · subst h4
    clear o1 o2
    go_enter Tryz.func61, Tryz.ntmps61
    go_wp2_with fail
    refine kk.out.mono ?_
    rintro e w1 ⟨rfl, n, rfl⟩
    go_wp2
    go_ret
    exact ⟨rfl, _, rfl⟩
  · by_cases h11 : k = 11
    · subst h11
      clear o1 o2 h4
      go_enter Tryz.func61, Tryz.ntmps61
      go_wp2_with fail
      refine kk.out.mono ?_
      rintro e w1 ⟨rfl, n, rfl⟩
      go_wp2
      go_ret
      exact ⟨rfl, _, rfl⟩
    · have e4 : (k == 4) = false := by rw [beq_eq_false_iff_ne]; exact h4
      have e11 : (k == 11) = false := by rw [beq_eq_false_iff_ne]; exact h11
      clear h4 h11
      rw [e4, e11]
      go_enter Tryz.func61, Tryz.ntmps61
      go_wp2_with fail
      refine kk.out.mono ?_
      rintro e w1 ⟨rfl, n, rfl⟩
      go_wp2
      go_ret
      exact ⟨rfl, _, rfl⟩

set_option maxRecDepth 20000 in
set_option maxHeartbeats 4000000 in
theorem need_any (g tb tc : Nat) (ts : List Tok) (i : Nat) (w : World) (h : Par g tb tc ts i w w) (t : Tok) (ht : ts[i]? = some t) :
    Calls Tryz.prog 83 #[.pointer (some ⟨g, 0, none⟩), .int .i64 t.kind] w fun e w' => e = .returned t.val ∧ Par g tb tc ts (i + 1) w w' := by
  have hk : M.kindAt ts i = t.kind := by unfold M.kindAt; rw [ht]
  have hil := (List.getElem?_eq_some_iff.1 ht).1
  have hl := h.1.lt
  have hA := boxC_alloc w #[.int .i64 0, .int .i64 0, .int .i64 0, .string ⟨#[]⟩, .int .i64 0] 82
  have hW := h.step ((Below.refl w.heap.size w).alloc (Nat.le_refl _) (.cells #[.int .i64 0, .int .i64 0, .int .i64 0, .string ⟨#[]⟩, .int .i64 0] 82))
  obtain ⟨W1, hW1⟩ : ∃ W1 : World, W1 = w.alloc (.cells #[.int .i64 0, .int .i64 0, .int .i64 0, .string ⟨#[]⟩, .int .i64 0] 82) := ⟨_, rfl⟩
  have hs1 : w.heap.size < W1.heap.size := by rw [hW1]; simp
  rw [← hW1] at hW hA
  have hW1' := hW1.symm
  replace hW1 := Lib.hid hW1
  have kk := kind_any g tb tc ts i W1 hW.self
  rw [hk] at kk
  have h2 := h.2.2.2.2.2.2
  replace hk := Lib.hid hk
  replace kk := Lib.hid kk
  replace hA := Lib.hid hA
  clear h
  go_enter Tryz.func83, Tryz.ntmps83
  go_wp2_with fail
  refine kk.out.mono ?_
  rintro e w2 ⟨rfl, n, hw2⟩
  have hW2 : Par g tb tc ts i w w2 := by rw [hw2]; exact hW.drewN n
  have hA2 : BoxC w.heap.size [.int .i64 0, .int .i64 0, .int .i64 0, .string ⟨#[]⟩, .int .i64 0] w2 := by rw [hw2]; exact hA.out.same rfl
  have hs2 : w2.heap.size = W1.heap.size := by rw [hw2]; rfl
  replace hw2 := Lib.hid hw2
  clear hW hA
  replace hA2 := Lib.hid hA2
  replace hs2 := Lib.hid hs2
  have hW := hW2
  clear hW2
  obtain ⟨⟨⟨a, b, c⟩, d⟩, hta, -⟩ := id hW
  obtain ⟨t0, t1, t2, t3, t4⟩ := hta i t ht
  have z0 : (0 : Int) ≤ ((i : Nat) : Int) := by omega
  have z1 : ((i : Nat) : Int) < ((ts.length : Nat) : Int) := by omega
  have zz : ((i : Nat) : Int).toNat = i := by simp
  have hgl : g < w2.heap.size := hW.1.lt
  have htl : tb < w2.heap.size := by have := hW.2.2.2.2.1; omega
  have hS : ∀ (o : Obj), (w2.alloc o).cell? ⟨g, 0, none⟩ = some (.slice (some ⟨tb, 0, none⟩) ts.length tc) ∧ (w2.alloc o).cell? ⟨g, 1, none⟩ = some (.int .i64 i) ∧ (w2.alloc o).cell? ⟨tb, i * 5, none⟩ = some (.int .i64 t.kind) ∧ (w2.alloc o).cell? ⟨tb, i * 5 + 1, none⟩ = some (.int .i64 t.fn) ∧ (w2.alloc o).cell? ⟨tb, i * 5 + 2, none⟩ = some (.int .i64 t.num) ∧ (w2.alloc o).cell? ⟨tb, i * 5 + 3, none⟩ = some (.string t.text) ∧ (w2.alloc o).cell? ⟨tb, i * 5 + 4, none⟩ = some (.int .i64 t.place) := fun o =>
    have eg : (w2.alloc o).heap[g]? = w2.heap[g]? := heap_alloc_old _ _ hgl
    have et : (w2.alloc o).heap[tb]? = w2.heap[tb]? := heap_alloc_old _ _ htl
    ⟨(cell_of_eq eg _).trans a, (cell_of_eq eg _).trans b, (cell_of_eq et _).trans t0, (cell_of_eq et _).trans t1, (cell_of_eq et _).trans t2, (cell_of_eq et _).trans t3, (cell_of_eq et _).trans t4⟩
  replace hS := Lib.hid hS
  replace hW := Lib.hid hW
  replace ht := Lib.hid ht
  replace hta := Lib.hid hta
  obtain ⟨p0, p1, p2, p3, p4, p5, p6⟩ := hS.out (.cells #[.int .i64 0, .int .i64 0, .int .i64 0, .string ⟨#[]⟩, .int .i64 0] 82)
  go_wp2_with fail
  go_region
  have hb3 : Below w2.heap.size w2 (w2.alloc (.cells #[.int .i64 t.kind, .int .i64 t.fn, .int .i64 t.num, .string t.text, .int .i64 t.place] 82)).drew := ((Below.refl _ w2).alloc (Nat.le_refl _) _).drew
  have hB3 : BoxC w2.heap.size [.int .i64 t.kind, .int .i64 t.fn, .int .i64 t.num, .string t.text, .int .i64 t.place] (w2.alloc (.cells #[.int .i64 t.kind, .int .i64 t.fn, .int .i64 t.num, .string t.text, .int .i64 t.place] 82)).drew := (boxC_alloc w2 #[.int .i64 t.kind, .int .i64 t.fn, .int .i64 t.num, .string t.text, .int .i64 t.place] 82).same rfl
  clear p0 p1 p2 p3 p4 p5 p6 t0 t1 t2 t3 t4 a b c d
  generalize (w2.alloc (.cells #[.int .i64 t.kind, .int .i64 t.fn, .int .i64 t.num, .string t.text, .int .i64 t.place] 82)).drew = w3 at *
  have hW3 := hW.out.step hb3
  have hA3 := hA2.out.same (hb3.block w.heap.size (by have := hs2.out; omega))
  have h2s := hs2.out
  clear hb3 hS
  have hW4 := Lib.hid (hW3.setAt (i + 1) (.int .i64 ((i : Nat) + 1 : Int)) (by simp))
  obtain ⟨⟨⟨a, b, c⟩, d⟩, -⟩ := id hW3
  obtain ⟨x0, -⟩ := hB3 0 _ rfl
  obtain ⟨x1, -⟩ := hB3 1 _ rfl
  obtain ⟨x2, -⟩ := hB3 2 _ rfl
  obtain ⟨x3, -⟩ := hB3 3 _ rfl
  obtain ⟨x4, -⟩ := hB3 4 _ rfl
  obtain ⟨y0, z0'⟩ := hA3 0 _ rfl
  obtain ⟨y1, z1'⟩ := hA3 1 _ rfl
  obtain ⟨y2, z2'⟩ := hA3 2 _ rfl
  obtain ⟨y3, z3'⟩ := hA3 3 _ rfl
  obtain ⟨y4, z4'⟩ := hA3 4 _ rfl
  have ng : g ≠ w2.heap.size := by omega
  have nn : w.heap.size ≠ w2.heap.size := by omega
  have nw : g ≠ w.heap.size := by omega
  have nw2 : w.heap.size < w2.heap.size := by omega
  replace h2s := Lib.hid h2s
  replace hW3 := Lib.hid hW3
  clear hA3 hB3
  go_wp2
  refine bodyPost_ret (v := t.val) (by simp [results, Tryz.results83, go_sem, cell?_set_same, Tok.val, y0, y1, y2, y3, y4]) rfl ?_
  exact ⟨rfl, hW4.out.set5 (Nat.le_refl _) _ _ _ _ _⟩
end Go.Proofs.YtaplaoelamnoiaaGreatDoor
