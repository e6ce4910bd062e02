/- Texts that lie in one file: what is plain, rows, boxes, squares, and what is known of a world. No condition. -/
import Derived.Test.YtaplaoelamnoiaaGreatDoorBg07
import Derived.Deep.RegionHeld3
import Derived.Deep.LoopGhost
/- The parser in memory; its methods kind, need, starts. Condition: the parser and its words lie. -/
namespace Go.Proofs.YtaplaoelamnoiaaGreatDoor
open Go.RowKit

/-- The words of a line, in block tb. -/
def TokAt (tb : Nat) (ts : List Tok) (w : World) : Prop := ∀ i t, ts[i]? = some t →
  w.cell? ⟨tb, i * 5, none⟩ = some (.int .i64 t.kind) ∧ w.cell? ⟨tb, i * 5 + 1, none⟩ = some (.int .i64 t.fn) ∧ w.cell? ⟨tb, i * 5 + 2, none⟩ = some (.int .i64 t.num) ∧ w.cell? ⟨tb, i * 5 + 3, none⟩ = some (.string t.text) ∧ w.cell? ⟨tb, i * 5 + 4, none⟩ = some (.int .i64 t.place)
theorem TokAt.same {tb : Nat} {ts : List Tok} {w w' : World} (h : TokAt tb ts w) (e : w'.heap[tb]? = w.heap[tb]?) : TokAt tb ts w' := fun i t hi => by
  obtain ⟨a, b, c, d, f⟩ := h i t hi
  exact ⟨(cell_of_eq e _).trans a, (cell_of_eq e _).trans b, (cell_of_eq e _).trans c, (cell_of_eq e _).trans d, (cell_of_eq e _).trans f⟩
/-- The parser, in block g, at the i-th word. -/
def PSt (g tb tc n i : Nat) (w : World) : Prop :=
  (w.cell? ⟨g, 0, none⟩ = some (.slice (some ⟨tb, 0, none⟩) n tc) ∧ w.cell? ⟨g, 1, none⟩ = some (.int .i64 i) ∧ w.cell? ⟨g, 2, none⟩ = some (.int .i64 0)) ∧ w.frozen? ⟨g, 1, none⟩ = false
theorem PSt.same {g tb tc n i : Nat} {w w' : World} (h : PSt g tb tc n i w) (e : w'.heap[g]? = w.heap[g]?) : PSt g tb tc n i w' := by
  obtain ⟨⟨a, b, c⟩, d⟩ := h
  exact ⟨⟨(cell_of_eq e _).trans a, (cell_of_eq e _).trans b, (cell_of_eq e _).trans c⟩, (frozen_of_eq e _).trans d⟩
theorem PSt.lt {g tb tc n i : Nat} {w : World} (h : PSt g tb tc n i w) : g < w.heap.size := World.block_lt_of_cell? _ _ h.1.1
theorem PSt.setAt {g tb tc n i : Nat} {w : World} (h : PSt g tb tc n i w) (j : Nat) (v : Value) (hv : v = .int .i64 j) : PSt g tb tc n j (w.setCell ⟨g, 1, none⟩ v) := by
  subst hv
  obtain ⟨⟨a, b, c⟩, d⟩ := h
  refine ⟨⟨?_, ?_, ?_⟩, ?_⟩
  · rw [World.cell?_setCell_other _ _ _ _ (by simp)]; exact a
  · exact World.cell?_setCell_same' _ _ _ (by rw [b]; rfl)
  · rw [World.cell?_setCell_other _ _ _ _ (by simp)]; exact c
  · rw [World.frozen?_setCell]; exact d
/-- How the world stands in the midst of the parser's work: w at its start, W now. -/
def Par (g tb tc : Nat) (ts : List Tok) (i : Nat) (w W : World) : Prop :=
  PSt g tb tc ts.length i W ∧ TokAt tb ts W ∧ But g w W ∧ Below g w W ∧ tb < g ∧ g < w.heap.size ∧ ts.length ≤ 200
theorem Par.start {g tb tc : Nat} {ts : List Tok} {i : Nat} {w : World} (h : PSt g tb tc ts.length i w) (ht : TokAt tb ts w) (hg : tb < g) (h2 : ts.length ≤ 200) : Par g tb tc ts i w w := ⟨h, ht, But.refl _ _, Below.refl _ _, hg, h.lt, h2⟩
theorem Par.step {g tb tc : Nat} {ts : List Tok} {i : Nat} {w W W2 : World} (h : Par g tb tc ts i w W) (k : Below W.heap.size W W2) : Par g tb tc ts i w W2 := by
  obtain ⟨h1, h2, h3, h4, h5, h6, h7⟩ := h
  have hs := h4.size
  exact ⟨h1.same (k.block g (by omega)), h2.same (k.block tb (by omega)), h3.below k hs, h4.trans (k.mono (by omega)), h5, h6, h7⟩
theorem Par.drewN {g tb tc : Nat} {ts : List Tok} {i : Nat} {w W : World} (h : Par g tb tc ts i w W) (n : Nat) : Par g tb tc ts i w (W.drewN n) := h.step (below_drewN (Below.refl _ _) n)
theorem Par.trans {g tb tc : Nat} {ts : List Tok} {i j : Nat} {w W W2 : World} (h : Par g tb tc ts i w W) (k : Par g tb tc ts j W W2) : Par g tb tc ts j w W2 := by
  obtain ⟨h1, h2, h3, h4, h5, h6, h7⟩ := h
  obtain ⟨k1, k2, k3, k4, k5, k6, k7⟩ := k
  exact ⟨k1, k2, h3.trans k3 h4.size, h4.trans k4, h5, h6, h7⟩
theorem Par.setAt {g tb tc : Nat} {ts : List Tok} {i : Nat} {w W : World} (h : Par g tb tc ts i w W) (j : Nat) (v : Value) (hv : v = .int .i64 j) : Par g tb tc ts j w (W.setCell ⟨g, 1, none⟩ v) := by
  obtain ⟨h1, h2, h3, h4, h5, h6, h7⟩ := h
  exact ⟨h1.setAt j v hv, h2.same (Below.heap_setCell _ _ _ _ (by show tb ≠ g; omega)), fun b hb hne => (Below.heap_setCell _ _ _ b hne).trans (h3 b hb hne), h4.setCell (Nat.le_refl _) _, h5, h6, h7⟩
theorem Par.self {g tb tc : Nat} {ts : List Tok} {i : Nat} {w W : World} (h : Par g tb tc ts i w W) : Par g tb tc ts i W W := by
  obtain ⟨h1, h2, h3, h4, h5, h6, h7⟩ := h
  exact ⟨h1, h2, But.refl _ _, Below.refl _ _, h5, h1.lt, h7⟩
/-- What expressions have in memory behind the parser stays. -/
theorem Par.keep {g tb tc : Nat} {ts : List Tok} {i : Nat} {w W : World} (h : Par g tb tc ts i w W) {e : Ex} {v : Value} (hv : ExV (g + 1) w e v) : ExV (g + 1) W e v :=
  hv.same fun b h1 h2 => h.2.2.1 b h2 (by omega)
theorem kind_lt {ts : List Tok} {i : Nat} (h : M.kindAt ts i ≠ 0) : i < ts.length := by
  unfold M.kindAt at h
  cases hi : ts[i]? with
  | none => rw [hi] at h; exact absurd rfl h
  | some t => exact (List.getElem?_eq_some_iff.1 hi).1

theorem kind_any (g tb tc : Nat) (ts : List Tok) (i : Nat) (w : World) (h : Par g tb tc ts i w w) :
    Calls Tryz.prog 82 #[.pointer (some ⟨g, 0, none⟩)] w fun e w' => e = .returned (.int .i64 (M.kindAt ts i)) ∧ ∃ n, w' = w.drewN n := by
  obtain ⟨⟨⟨a, b, c⟩, d⟩, ht, -, -, -, -, h2⟩ := h
  unfold M.kindAt
  cases hi : ts[i]? with
  | none =>
    have hl := List.getElem?_eq_none_iff.1 hi
    have z : decide (((i : Nat) : Int) < ((ts.length : Nat) : Int)) = false := decide_eq_false (by omega)
    replace hi := Lib.hid hi
    replace ht := Lib.hid ht
    go_enter Tryz.func82, Tryz.ntmps82
    go_wp2_with fail
    go_quiet (fail)
    go_wp2
    go_ret
    exact ⟨rfl, _, rfl⟩
  | some t =>
    have hl := (List.getElem?_eq_some_iff.1 hi).1
    obtain ⟨t0, -, -, -, -⟩ := ht i t hi
    have z : ((i : Nat) : Int) < ((ts.length : Nat) : Int) := by omega
    replace hi := Lib.hid hi
    replace ht := Lib.hid ht
    go_enter Tryz.func82, Tryz.ntmps82
    go_wp2_with fail
    go_quiet (fail)
    go_wp2_with fail
    go_quiet (fail)
    go_wp2
    go_ret
    exact ⟨rfl, _, by rw [World.drewN_drewN]⟩
end Go.Proofs.YtaplaoelamnoiaaGreatDoor

/- The parser's methods starts and need. Condition: the parser and its words lie. -/
namespace Go.Proofs.YtaplaoelamnoiaaGreatDoor
open Go.RowKit

theorem Par.set5 {g tb tc : Nat} {ts : List Tok} {i : Nat} {w W : World} (h : Par g tb tc ts i w W) {N : Nat} (hN : w.heap.size ≤ N) (a b c d e : Value) : Par g tb tc ts i w (((((W.setCell ⟨N, 0, none⟩ a).setCell ⟨N, 1, none⟩ b).setCell ⟨N, 2, none⟩ c).setCell ⟨N, 3, none⟩ d).setCell ⟨N, 4, none⟩ e) := by
  obtain ⟨h1, h2, h3, h4, h5, h6, h7⟩ := h
  exact ⟨h1.same (set5_block _ _ _ _ _ _ _ (by omega)), h2.same (set5_block _ _ _ _ _ _ _ (by omega)), fun k hk hne => (set5_block _ _ _ _ _ _ _ (by omega)).trans (h3 k hk hne), set5_below h4 (by omega) _ _ _ _ _, h5, h6, h7⟩
theorem starts_any (g tb tc : Nat) (ts : List Tok) (i : Nat) (w : World) (h : Par g tb tc ts i w w) (ho : M.odd ts i = false) :
    Calls Tryz.prog 61 #[.pointer (some ⟨g, 0, none⟩)] w fun e w' => e = .returned (.bool (M.starts ts i)) ∧ ∃ n, w' = w.drewN n := by
  have kk := kind_any g tb tc ts i w h
  unfold M.odd at ho
  rw [Bool.or_eq_false_iff] at ho
  obtain ⟨o1, o2⟩ := ho
  unfold M.starts
  generalize M.kindAt ts i = k at *
  replace kk := Lib.hid kk
  clear h
  by_cases h4 : k = 4
  · subst h4
    clear o1 o2
    go_enter Tryz.func61, Tryz.ntmps61
    go_wp2_with fail
    refine kk.out.mono ?_
    rintro e w1 ⟨rfl, n, rfl⟩
    go_wp2
    go_ret
    exact ⟨rfl, _, rfl⟩
  · by_cases h11 : k = 11
    · subst h11
      clear o1 o2 h4
      go_enter Tryz.func61, Tryz.ntmps61
      go_wp2_with fail
      refine kk.out.mono ?_
      rintro e w1 ⟨rfl, n, rfl⟩
      go_wp2
      go_ret
      exact ⟨rfl, _, rfl⟩
    · have e4 : (k == 4) = false := by rw [beq_eq_false_iff_ne]; exact h4
      have e11 : (k == 11) = false := by rw [beq_eq_false_iff_ne]; exact h11
      clear h4 h11
      rw [e4, e11]
      go_enter Tryz.func61, Tryz.ntmps61
      go_wp2_with fail
      refine kk.out.mono ?_
      rintro e w1 ⟨rfl, n, rfl⟩
      go_wp2
      go_ret
      exact ⟨rfl, _, rfl⟩

set_option maxRecDepth 20000 in
set_option maxHeartbeats 4000000 in
theorem need_any (g tb tc : Nat) (ts : List Tok) (i : Nat) (w : World) (h : Par g tb tc ts i w w) (t : Tok) (ht : ts[i]? = some t) :
    Calls Tryz.prog 83 #[.pointer (some ⟨g, 0, none⟩), .int .i64 t.kind] w fun e w' => e = .returned t.val ∧ Par g tb tc ts (i + 1) w w' := by
  have hk : M.kindAt ts i = t.kind := by unfold M.kindAt; rw [ht]
  have hil := (List.getElem?_eq_some_iff.1 ht).1
  have hl := h.1.lt
  have hA := boxC_alloc w #[.int .i64 0, .int .i64 0, .int .i64 0, .string ⟨#[]⟩, .int .i64 0] 82
  have hW := h.step ((Below.refl w.heap.size w).alloc (Nat.le_refl _) (.cells #[.int .i64 0, .int .i64 0, .int .i64 0, .string ⟨#[]⟩, .int .i64 0] 82))
  obtain ⟨W1, hW1⟩ : ∃ W1 : World, W1 = w.alloc (.cells #[.int .i64 0, .int .i64 0, .int .i64 0, .string ⟨#[]⟩, .int .i64 0] 82) := ⟨_, rfl⟩
  have hs1 : w.heap.size < W1.heap.size := by rw [hW1]; simp
  rw [← hW1] at hW hA
  have hW1' := hW1.symm
  replace hW1 := Lib.hid hW1
  have kk := kind_any g tb tc ts i W1 hW.self
  rw [hk] at kk
  have h2 := h.2.2.2.2.2.2
  replace hk := Lib.hid hk
  replace kk := Lib.hid kk
  replace hA := Lib.hid hA
  clear h
  go_enter Tryz.func83, Tryz.ntmps83
  go_wp2_with fail
  refine kk.out.mono ?_
  rintro e w2 ⟨rfl, n, hw2⟩
  have hW2 : Par g tb tc ts i w w2 := by rw [hw2]; exact hW.drewN n
  have hA2 : BoxC w.heap.size [.int .i64 0, .int .i64 0, .int .i64 0, .string ⟨#[]⟩, .int .i64 0] w2 := by rw [hw2]; exact hA.out.same rfl
  have hs2 : w2.heap.size = W1.heap.size := by rw [hw2]; rfl
  replace hw2 := Lib.hid hw2
  clear hW hA
  replace hA2 := Lib.hid hA2
  replace hs2 := Lib.hid hs2
  have hW := hW2
  clear hW2
  obtain ⟨⟨⟨a, b, c⟩, d⟩, hta, -⟩ := id hW
  obtain ⟨t0, t1, t2, t3, t4⟩ := hta i t ht
  have z0 : (0 : Int) ≤ ((i : Nat) : Int) := by omega
  have z1 : ((i : Nat) : Int) < ((ts.length : Nat) : Int) := by omega
  have zz : ((i : Nat) : Int).toNat = i := by simp
  have hgl : g < w2.heap.size := hW.1.lt
  have htl : tb < w2.heap.size := by have := hW.2.2.2.2.1; omega
  have hS : ∀ (o : Obj), (w2.alloc o).cell? ⟨g, 0, none⟩ = some (.slice (some ⟨tb, 0, none⟩) ts.length tc) ∧ (w2.alloc o).cell? ⟨g, 1, none⟩ = some (.int .i64 i) ∧ (w2.alloc o).cell? ⟨tb, i * 5, none⟩ = some (.int .i64 t.kind) ∧ (w2.alloc o).cell? ⟨tb, i * 5 + 1, none⟩ = some (.int .i64 t.fn) ∧ (w2.alloc o).cell? ⟨tb, i * 5 + 2, none⟩ = some (.int .i64 t.num) ∧ (w2.alloc o).cell? ⟨tb, i * 5 + 3, none⟩ = some (.string t.text) ∧ (w2.alloc o).cell? ⟨tb, i * 5 + 4, none⟩ = some (.int .i64 t.place) := fun o =>
    have eg : (w2.alloc o).heap[g]? = w2.heap[g]? := heap_alloc_old _ _ hgl
    have et : (w2.alloc o).heap[tb]? = w2.heap[tb]? := heap_alloc_old _ _ htl
    ⟨(cell_of_eq eg _).trans a, (cell_of_eq eg _).trans b, (cell_of_eq et _).trans t0, (cell_of_eq et _).trans t1, (cell_of_eq et _).trans t2, (cell_of_eq et _).trans t3, (cell_of_eq et _).trans t4⟩
  replace hS := Lib.hid hS
  replace hW := Lib.hid hW
  replace ht := Lib.hid ht
  replace hta := Lib.hid hta
  obtain ⟨p0, p1, p2, p3, p4, p5, p6⟩ := hS.out (.cells #[.int .i64 0, .int .i64 0, .int .i64 0, .string ⟨#[]⟩, .int .i64 0] 82)
  go_wp2_with fail
  go_region
  have hb3 : Below w2.heap.size w2 (w2.alloc (.cells #[.int .i64 t.kind, .int .i64 t.fn, .int .i64 t.num, .string t.text, .int .i64 t.place] 82)).drew := ((Below.refl _ w2).alloc (Nat.le_refl _) _).drew
  have hB3 : BoxC w2.heap.size [.int .i64 t.kind, .int .i64 t.fn, .int .i64 t.num, .string t.text, .int .i64 t.place] (w2.alloc (.cells #[.int .i64 t.kind, .int .i64 t.fn, .int .i64 t.num, .string t.text, .int .i64 t.place] 82)).drew := (boxC_alloc w2 #[.int .i64 t.kind, .int .i64 t.fn, .int .i64 t.num, .string t.text, .int .i64 t.place] 82).same rfl
  clear p0 p1 p2 p3 p4 p5 p6 t0 t1 t2 t3 t4 a b c d
  generalize (w2.alloc (.cells #[.int .i64 t.kind, .int .i64 t.fn, .int .i64 t.num, .string t.text, .int .i64 t.place] 82)).drew = w3 at *
  have hW3 := hW.out.step hb3
  have hA3 := hA2.out.same (hb3.block w.heap.size (by have := hs2.out; omega))
  have h2s := hs2.out
  clear hb3 hS
  have hW4 := Lib.hid (hW3.setAt (i + 1) (.int .i64 ((i : Nat) + 1 : Int)) (by simp))
  obtain ⟨⟨⟨a, b, c⟩, d⟩, -⟩ := id hW3
  obtain ⟨x0, -⟩ := hB3 0 _ rfl
  obtain ⟨x1, -⟩ := hB3 1 _ rfl
  obtain ⟨x2, -⟩ := hB3 2 _ rfl
  obtain ⟨x3, -⟩ := hB3 3 _ rfl
  obtain ⟨x4, -⟩ := hB3 4 _ rfl
  obtain ⟨y0, z0'⟩ := hA3 0 _ rfl
  obtain ⟨y1, z1'⟩ := hA3 1 _ rfl
  obtain ⟨y2, z2'⟩ := hA3 2 _ rfl
  obtain ⟨y3, z3'⟩ := hA3 3 _ rfl
  obtain ⟨y4, z4'⟩ := hA3 4 _ rfl
  have ng : g ≠ w2.heap.size := by omega
  have nn : w.heap.size ≠ w2.heap.size := by omega
  have nw : g ≠ w.heap.size := by omega
  have nw2 : w.heap.size < w2.heap.size := by omega
  replace h2s := Lib.hid h2s
  replace hW3 := Lib.hid hW3
  clear hA3 hB3
  go_wp2
  refine bodyPost_ret (v := t.val) (by simp [results, Tryz.results83, go_sem, cell?_set_same, Tok.val, y0, y1, y2, y3, y4]) rfl ?_
  exact ⟨rfl, hW4.out.set5 (Nat.le_refl _) _ _ _ _ _⟩
end Go.Proofs.YtaplaoelamnoiaaGreatDoor

/- The parser's method function: functions, functions over lines, each with each. Condition: the parser and its words lie. -/
namespace Go.Proofs.YtaplaoelamnoiaaGreatDoor
open Go.RowKit

theorem need_k (g tb tc : Nat) (ts : List Tok) (i : Nat) (w : World) (h : Par g tb tc ts i w w) (k : Int) (hk : M.kindAt ts i = k) (h0 : k ≠ 0) :
    Calls Tryz.prog 83 #[.pointer (some ⟨g, 0, none⟩), .int .i64 k] w fun e w' => (∃ pl, e = .returned (.agg #[.int .i64 k, .int .i64 (M.fnOf ts i), .int .i64 (M.numOf ts i), .string (M.textOf ts i), .int .i64 pl])) ∧ Par g tb tc ts (i + 1) w w' := by
  have hl := kind_lt (ts := ts) (i := i) (by rw [hk]; exact h0)
  have ht : ts[i]? = some ts[i] := List.getElem?_eq_getElem hl
  have e1 : M.kindAt ts i = ts[i].kind := by unfold M.kindAt; rw [ht]
  have e2 : M.fnOf ts i = ts[i].fn := by unfold M.fnOf; rw [ht]
  have e3 : M.numOf ts i = ts[i].num := by unfold M.numOf; rw [ht]
  have e4 : M.textOf ts i = ts[i].text := by unfold M.textOf; rw [ht]
  have h := need_any g tb tc ts i w h ts[i] ht
  rw [← e1, hk] at h
  refine h.mono fun e w' h => ⟨⟨ts[i].place, ?_⟩, h.2⟩
  rw [h.1, e2, e3, e4]
  unfold Tok.val
  rw [← e1, hk]

theorem Par.setNew {g tb tc : Nat} {ts : List Tok} {i : Nat} {w W : World} (h : Par g tb tc ts i w W) {N : Nat} (hN : w.heap.size ≤ N) (o : Nat) (v : Value) : Par g tb tc ts i w (W.setCell ⟨N, o, none⟩ v) := by
  obtain ⟨h1, h2, h3, h4, h5, h6, h7⟩ := h
  exact ⟨h1.same (Below.heap_setCell _ _ _ _ (by show g ≠ N; omega)), h2.same (Below.heap_setCell _ _ _ _ (by show tb ≠ N; omega)), fun k hk hne => (Below.heap_setCell _ _ _ _ (by show k ≠ N; omega)).trans (h3 k hk hne), h4.setCell (by show g ≤ N; omega) _, h5, h6, h7⟩
theorem tok_field1 (a b c d e : Value) (W : World) : (Instr.field 82 (.agg #[a, b, c, d, e]) 1).run Tryz.prog W = .ok b W := by kernel_rfl
theorem tok_field2 (a b c d e : Value) (W : World) : (Instr.field 82 (.agg #[a, b, c, d, e]) 2).run Tryz.prog W = .ok c W := by kernel_rfl
theorem tok_field3 (a b c d e : Value) (W : World) : (Instr.field 82 (.agg #[a, b, c, d, e]) 3).run Tryz.prog W = .ok d W := by kernel_rfl
/-- The parser's work beside a variable of one's own. -/
def PaB (g tb tc : Nat) (ts : List Tok) (i : Nat) (w W : World) (N : Nat) (vs : List Value) : Prop := Par g tb tc ts i w W ∧ BoxC N vs W ∧ N < W.heap.size ∧ w.heap.size ≤ N
theorem PaB.trans {g tb tc : Nat} {ts : List Tok} {i j : Nat} {w W W2 : World} {N : Nat} {vs : List Value} (h : PaB g tb tc ts i w W N vs) (k : Par g tb tc ts j W W2) : PaB g tb tc ts j w W2 N vs := by
  obtain ⟨h1, h2, h3, h4⟩ := h
  have hg := h1.2.2.2.2.2.1
  exact ⟨h1.trans k, h2.same (k.2.2.1 N h3 (by omega)), Nat.lt_of_lt_of_le h3 k.2.2.2.1.size, h4⟩
theorem PaB.drewN {g tb tc : Nat} {ts : List Tok} {i : Nat} {w W : World} {N : Nat} {vs : List Value} (h : PaB g tb tc ts i w W N vs) (n : Nat) : PaB g tb tc ts i w (W.drewN n) N vs := ⟨h.1.drewN n, h.2.1.same rfl, h.2.2.1, h.2.2.2⟩
theorem PaB.step {g tb tc : Nat} {ts : List Tok} {i : Nat} {w W W2 : World} {N : Nat} {vs : List Value} (h : PaB g tb tc ts i w W N vs) (k : Below W.heap.size W W2) : PaB g tb tc ts i w W2 N vs := ⟨h.1.step k, h.2.1.same (k.block N h.2.2.1), Nat.lt_of_lt_of_le h.2.2.1 k.size, h.2.2.2⟩
theorem PaB.setAt {g tb tc : Nat} {ts : List Tok} {i : Nat} {w W : World} {N : Nat} {vs : List Value} (h : PaB g tb tc ts i w W N vs) (j : Nat) (v : Value) (hv : v = .int .i64 j) : PaB g tb tc ts j w (W.setCell ⟨g, 1, none⟩ v) N vs := by
  obtain ⟨h1, h2, h3, h4⟩ := h
  have hg := h1.2.2.2.2.2.1
  exact ⟨h1.setAt j v hv, h2.same (Below.heap_setCell _ _ _ _ (by show N ≠ g; omega)), by rw [World.size_setCell]; exact h3, h4⟩
theorem PaB.start {g tb tc : Nat} {ts : List Tok} {i : Nat} {w : World} (h : Par g tb tc ts i w w) (vs : Array Value) (t : TypeId) : PaB g tb tc ts i w (w.alloc (.cells vs t)) w.heap.size vs.toList :=
  ⟨h.step ((Below.refl w.heap.size w).alloc (Nat.le_refl _) _), boxC_alloc w vs t, by simp, Nat.le_refl _⟩
/-- A function of the language, as the parser tells it. -/
def funV (o f g : Int) : Value := .agg #[.int .i64 o, .int .i64 f, .int .i64 g, .int .i64 0, .slice none 0 0]

set_option maxRecDepth 20000 in
set_option maxHeartbeats 8000000 in
theorem function_any (g tb tc : Nat) (ts : List Tok) (i : Nat) (w : World) (h : Par g tb tc ts i w w) (o f q : Int) (j : Nat) (hf : M.pFun ts i = some ((o, f, q), j)) :
    Calls Tryz.prog 62 #[.pointer (some ⟨g, 0, none⟩)] w fun e w' => e = .returned (funV o f q) ∧ Par g tb tc ts j w w' := by
  have hfd := tok_field1
  have hl := h.1.lt
  have P0 := PaB.start h #[.int .i64 0, .int .i64 0, .int .i64 0, .int .i64 0, .slice none 0 0] 125
  have h200 := h.2.2.2.2.2.2
  obtain ⟨W1, hW1⟩ : ∃ W1 : World, W1 = w.alloc (.cells #[.int .i64 0, .int .i64 0, .int .i64 0, .int .i64 0, .slice none 0 0] 125) := ⟨_, rfl⟩
  rw [← hW1] at P0
  have hW1' := hW1.symm
  replace hW1 := Lib.hid hW1
  have kk := kind_any g tb tc ts i W1 P0.1.self
  unfold M.pFun at hf
  replace P0 := Lib.hid P0
  clear h
  unfold funV
  by_cases h11 : M.kindAt ts i = 11
  · rw [if_pos h11] at hf
    rw [h11] at kk
    split at hf
    case isFalse => cases hf
    rename_i h12
    cases hf
    have hil : i < 200 := by have := kind_lt (ts := ts) (i := i) (by rw [h11]; decide); omega
    have k12 := fun W (hW : Par g tb tc ts (i + 1) W W) => need_k g tb tc ts (i + 1) W hW 12 h12.1 (by decide)
    have k4 := fun W (hW : Par g tb tc ts (i + 1 + 1) W W) => need_k g tb tc ts (i + 1 + 1) W hW 4 h12.2 (by decide)
    replace kk := Lib.hid kk
    replace k12 := Lib.hid k12
    replace k4 := Lib.hid k4
    replace h11 := Lib.hid h11
    replace h12 := Lib.hid h12
    go_enter Tryz.func62, Tryz.ntmps62
    go_wp2_with fail
    refine kk.out.mono ?_
    rintro e w2 ⟨rfl, n, hw2⟩
    subst hw2
    have P2 := Lib.hid (P0.out.drewN n)
    obtain ⟨⟨a, b, c⟩, d⟩ := P2.out.1.1
    have P3 := Lib.hid (P2.out.setAt (i + 1) (.int .i64 ((i : Nat) + 1 : Int)) (by simp))
    go_wp2_with fail
    refine (k12.out _ P3.out.1.self).mono ?_
    rintro e w4 ⟨⟨pl, rfl⟩, hP⟩
    have P4 := Lib.hid (P3.out.trans hP)
    clear hP a b c d
    go_wp2_with fail
    refine (k4.out _ P4.out.1.self).mono ?_
    rintro e w5 ⟨⟨pl2, rfl⟩, hP⟩
    have P5 := Lib.hid (P4.out.trans hP)
    clear hP
    obtain ⟨y0, x0⟩ := P5.out.2.1 0 _ rfl
    obtain ⟨y1, x1⟩ := P5.out.2.1 1 _ rfl
    obtain ⟨y2, x2⟩ := P5.out.2.1 2 _ rfl
    obtain ⟨y3, x3⟩ := P5.out.2.1 3 _ rfl
    obtain ⟨y4, x4⟩ := P5.out.2.1 4 _ rfl
    go_wp2
    refine bodyPost_ret (v := .agg #[.int .i64 3, .int .i64 (M.fnOf ts (i + 1 + 1)), .int .i64 0, .int .i64 0, .slice none 0 0]) (by simp [results, Tryz.results62, go_sem, cell?_set_same, y0, y1, y2, y3, y4]) rfl ?_
    exact ⟨rfl, P5.out.1.set5 (Nat.le_refl _) _ _ _ _ _⟩
  · rw [if_neg h11] at hf
    by_cases h4 : M.kindAt ts i = 4
    case neg => rw [if_neg h4] at hf; cases hf
    rw [if_pos h4] at hf
    rw [h4] at kk
    have hil : i < ts.length := kind_lt (ts := ts) (i := i) (by rw [h4]; decide)
    have k4 := fun W (hW : Par g tb tc ts i W W) => need_k g tb tc ts i W hW 4 h4 (by decide)
    have kk2 := fun W (hW : Par g tb tc ts (i + 1) W W) => kind_any g tb tc ts (i + 1) W hW
    replace kk := Lib.hid kk
    replace k4 := Lib.hid k4
    replace h11 := Lib.hid h11
    replace h4 := Lib.hid h4
    split at hf
    · cases hf
    rename_i h1312
    have e13 : (M.kindAt ts (i + 1) == 13) = false := by rw [beq_eq_false_iff_ne]; exact fun e => h1312 (.inl e)
    have e12 : (M.kindAt ts (i + 1) == 12) = false := by rw [beq_eq_false_iff_ne]; exact fun e => h1312 (.inr e)
    replace h1312 := Lib.hid h1312
    by_cases hk4 : M.kindAt ts (i + 1) = 4
    case neg =>
      rw [if_neg hk4] at hf
      cases hf
      have e4 : (M.kindAt ts (i + 1) == 4) = false := by rw [beq_eq_false_iff_ne]; exact hk4
      replace hk4 := Lib.hid hk4
      generalize M.kindAt ts (i + 1) = k9 at *
      replace kk2 := Lib.hid kk2
      go_enter Tryz.func62, Tryz.ntmps62
      go_wp2_with fail
      refine kk.out.mono ?_
      rintro e w2 ⟨rfl, n, hw2⟩
      subst hw2
      have P2 := Lib.hid (P0.out.drewN n)
      go_wp2_with fail
      refine (k4.out _ P2.out.1.self).mono ?_
      rintro e w4 ⟨⟨pl, rfl⟩, hP⟩
      have P4 := Lib.hid (P2.out.trans hP)
      clear hP
      have hb6 := (Below.refl w4.heap.size w4).alloc (Nat.le_refl _) (.cells #[.int .i64 0, .int .i64 (M.fnOf ts i), .int .i64 0] 74)
      have hB6 := boxC_alloc w4 #[.int .i64 0, .int .i64 (M.fnOf ts i), .int .i64 0] 74
      have P6 := Lib.hid (P4.out.step hb6)
      have hlt6 : w4.heap.size < (w4.alloc (.cells #[.int .i64 0, .int .i64 (M.fnOf ts i), .int .i64 0] 74)).heap.size := by simp
      obtain ⟨w6, hw6⟩ : ∃ w6 : World, w6 = w4.alloc (.cells #[.int .i64 0, .int .i64 (M.fnOf ts i), .int .i64 0] 74) := ⟨_, rfl⟩
      rw [← hw6] at P6 hB6 hlt6
      have hw6' := Lib.hid hw6.symm
      replace hw6 := Lib.hid hw6
      clear hb6
      go_wp2_with fail
      rw [hw6'.out]
      refine (kk2.out _ P6.out.1.self).mono ?_
      rintro e w7 ⟨rfl, n7, hw7⟩
      have P7 : PaB g tb tc ts (i + 1) w w7 w.heap.size [.int .i64 0, .int .i64 0, .int .i64 0, .int .i64 0, .slice none 0 0] := by rw [hw7]; exact P6.out.drewN n7
      have hB7 : BoxC w4.heap.size [.int .i64 0, .int .i64 (M.fnOf ts i), .int .i64 0] w7 := by rw [hw7]; exact hB6.same rfl
      have hlt7 : w4.heap.size < w7.heap.size := by rw [hw7]; exact hlt6
      replace hw7 := Lib.hid hw7
      replace P7 := Lib.hid P7
      clear hB6
      obtain ⟨q0, r0⟩ := hB7 0 _ rfl
      obtain ⟨q1, r1⟩ := hB7 1 _ rfl
      obtain ⟨q2, r2⟩ := hB7 2 _ rfl
      clear hB7
      obtain ⟨y0, x0⟩ := P7.out.2.1 0 _ rfl
      obtain ⟨y1, x1⟩ := P7.out.2.1 1 _ rfl
      obtain ⟨y2, x2⟩ := P7.out.2.1 2 _ rfl
      obtain ⟨y3, x3⟩ := P7.out.2.1 3 _ rfl
      obtain ⟨y4, x4⟩ := P7.out.2.1 4 _ rfl
      go_wp2
      refine bodyPost_ret (v := .agg #[.int .i64 0, .int .i64 (M.fnOf ts i), .int .i64 0, .int .i64 0, .slice none 0 0]) (by simp [results, Tryz.results62, go_sem, cell?_set_same, y0, y1, y2, y3, y4]) rfl ?_
      exact ⟨rfl, P7.out.1.set5 (Nat.le_refl _) _ _ _ _ _⟩
    case pos =>
      rw [if_pos hk4] at hf
      rw [hk4] at kk2 e12 e13
      have hi1 : i + 1 < ts.length := kind_lt (ts := ts) (i := i + 1) (by rw [hk4]; decide)
      replace kk2 := Lib.hid kk2
      clear e12 e13
      by_cases h33 : M.fnOf ts (i + 1) = 33
      case pos =>
        rw [if_pos h33] at hf
        cases hf
        replace hk4 := Lib.hid hk4
        go_enter Tryz.func62, Tryz.ntmps62
        go_wp2_with fail
        refine kk.out.mono ?_
        rintro e w2 ⟨rfl, n, hw2⟩
        subst hw2
        have P2 := Lib.hid (P0.out.drewN n)
        go_wp2_with fail
        refine (k4.out _ P2.out.1.self).mono ?_
        rintro e w4 ⟨⟨pl, rfl⟩, hP⟩
        have P4 := Lib.hid (P2.out.trans hP)
        clear hP
        have hb6 := (Below.refl w4.heap.size w4).alloc (Nat.le_refl _) (.cells #[.int .i64 0, .int .i64 (M.fnOf ts i), .int .i64 0] 74)
        have hB6 := boxC_alloc w4 #[.int .i64 0, .int .i64 (M.fnOf ts i), .int .i64 0] 74
        have P6 := Lib.hid (P4.out.step hb6)
        have hlt6 : w4.heap.size < (w4.alloc (.cells #[.int .i64 0, .int .i64 (M.fnOf ts i), .int .i64 0] 74)).heap.size := by simp
        obtain ⟨w6, hw6⟩ : ∃ w6 : World, w6 = w4.alloc (.cells #[.int .i64 0, .int .i64 (M.fnOf ts i), .int .i64 0] 74) := ⟨_, rfl⟩
        rw [← hw6] at P6 hB6 hlt6
        have hw6' := Lib.hid hw6.symm
        replace hw6 := Lib.hid hw6
        clear hb6
        go_wp2_with fail
        rw [hw6'.out]
        refine (kk2.out _ P6.out.1.self).mono ?_
        rintro e w7 ⟨rfl, n7, hw7⟩
        have P7 : PaB g tb tc ts (i + 1) w w7 w.heap.size [.int .i64 0, .int .i64 0, .int .i64 0, .int .i64 0, .slice none 0 0] := by rw [hw7]; exact P6.out.drewN n7
        have hB7 : BoxC w4.heap.size [.int .i64 0, .int .i64 (M.fnOf ts i), .int .i64 0] w7 := by rw [hw7]; exact hB6.same rfl
        have hlt7 : w4.heap.size < w7.heap.size := by rw [hw7]; exact hlt6
        replace hw7 := Lib.hid hw7
        replace P7 := Lib.hid P7
        clear hB6
        obtain ⟨⟨⟨a, b, c⟩, d⟩, hta, -⟩ := P7.out.1
        obtain ⟨-, t1, -⟩ := hta (i + 1) ts[i + 1] (List.getElem?_eq_getElem hi1)
        have ef : ts[i + 1].fn = M.fnOf ts (i + 1) := by unfold M.fnOf; rw [List.getElem?_eq_getElem hi1]
        rw [ef] at t1
        have z0 : (0 : Int) ≤ ((i : Nat) : Int) + 1 := by omega
        have z1 : ((i : Nat) : Int) + 1 < ((ts.length : Nat) : Int) := by omega
        have zz : (((i : Nat) : Int) + 1).toNat = i + 1 := by omega
        replace hta := Lib.hid hta
        replace ef := Lib.hid ef
        obtain ⟨q0, r0⟩ := hB7 0 _ rfl
        rw [h33] at t1
        go_wp2_with fail
        go_quiet (fail)
        obtain ⟨y0, x0⟩ := P7.out.2.1 0 _ rfl
        obtain ⟨y1, x1⟩ := P7.out.2.1 1 _ rfl
        obtain ⟨y2, x2⟩ := P7.out.2.1 2 _ rfl
        obtain ⟨y3, x3⟩ := P7.out.2.1 3 _ rfl
        obtain ⟨y4, x4⟩ := P7.out.2.1 4 _ rfl
        obtain ⟨q1, r1⟩ := hB7 1 _ rfl
        obtain ⟨q2, r2⟩ := hB7 2 _ rfl
        have hN4 := P4.out.2.2.1
        have nn : w.heap.size ≠ w4.heap.size := by omega
        have ng : g ≠ w4.heap.size := by omega
        have nw : g ≠ w.heap.size := by omega
        go_wp2
        refine bodyPost_ret (v := .agg #[.int .i64 1, .int .i64 (M.fnOf ts i), .int .i64 0, .int .i64 0, .slice none 0 0]) (by simp [results, Tryz.results62, go_sem, cell?_set_same, y0, y1, y2, y3, y4]) rfl ?_
        exact ⟨rfl, (((P7.out.1.drewN _).setNew (by omega) _ _).setAt (i + 2) _ (by simp; omega)).set5 (Nat.le_refl _) _ _ _ _ _⟩
      case neg =>
        rw [if_neg h33] at hf
        split at hf
        · cases hf
        rename_i h34
        cases hf
        have e33 : (M.fnOf ts (i + 1) == 33) = false := by rw [beq_eq_false_iff_ne]; exact h33
        have e34 : (M.fnOf ts (i + 1) == 34) = false := by rw [beq_eq_false_iff_ne]; exact h34
        replace h33 := Lib.hid h33
        replace h34 := Lib.hid h34
        replace hk4 := Lib.hid hk4
        go_enter Tryz.func62, Tryz.ntmps62
        go_wp2_with fail
        refine kk.out.mono ?_
        rintro e w2 ⟨rfl, n, hw2⟩
        subst hw2
        have P2 := Lib.hid (P0.out.drewN n)
        go_wp2_with fail
        refine (k4.out _ P2.out.1.self).mono ?_
        rintro e w4 ⟨⟨pl, rfl⟩, hP⟩
        have P4 := Lib.hid (P2.out.trans hP)
        clear hP
        have hb6 := (Below.refl w4.heap.size w4).alloc (Nat.le_refl _) (.cells #[.int .i64 0, .int .i64 (M.fnOf ts i), .int .i64 0] 74)
        have hB6 := boxC_alloc w4 #[.int .i64 0, .int .i64 (M.fnOf ts i), .int .i64 0] 74
        have P6 := Lib.hid (P4.out.step hb6)
        have hlt6 : w4.heap.size < (w4.alloc (.cells #[.int .i64 0, .int .i64 (M.fnOf ts i), .int .i64 0] 74)).heap.size := by simp
        obtain ⟨w6, hw6⟩ : ∃ w6 : World, w6 = w4.alloc (.cells #[.int .i64 0, .int .i64 (M.fnOf ts i), .int .i64 0] 74) := ⟨_, rfl⟩
        rw [← hw6] at P6 hB6 hlt6
        have hw6' := Lib.hid hw6.symm
        replace hw6 := Lib.hid hw6
        clear hb6
        go_wp2_with fail
        rw [hw6'.out]
        refine (kk2.out _ P6.out.1.self).mono ?_
        rintro e w7 ⟨rfl, n7, hw7⟩
        have P7 : PaB g tb tc ts (i + 1) w w7 w.heap.size [.int .i64 0, .int .i64 0, .int .i64 0, .int .i64 0, .slice none 0 0] := by rw [hw7]; exact P6.out.drewN n7
        have hB7 : BoxC w4.heap.size [.int .i64 0, .int .i64 (M.fnOf ts i), .int .i64 0] w7 := by rw [hw7]; exact hB6.same rfl
        have hlt7 : w4.heap.size < w7.heap.size := by rw [hw7]; exact hlt6
        replace hw7 := Lib.hid hw7
        replace P7 := Lib.hid P7
        clear hB6
        obtain ⟨⟨⟨a, b, c⟩, d⟩, hta, -⟩ := P7.out.1
        obtain ⟨-, t1, -⟩ := hta (i + 1) ts[i + 1] (List.getElem?_eq_getElem hi1)
        have ef : ts[i + 1].fn = M.fnOf ts (i + 1) := by unfold M.fnOf; rw [List.getElem?_eq_getElem hi1]
        rw [ef] at t1
        have z0 : (0 : Int) ≤ ((i : Nat) : Int) + 1 := by omega
        have z1 : ((i : Nat) : Int) + 1 < ((ts.length : Nat) : Int) := by omega
        have zz : (((i : Nat) : Int) + 1).toNat = i + 1 := by omega
        replace hta := Lib.hid hta
        replace ef := Lib.hid ef
        obtain ⟨q0, r0⟩ := hB7 0 _ rfl
        go_wp2_with fail
        go_quiet (fail)
        obtain ⟨y0, x0⟩ := P7.out.2.1 0 _ rfl
        obtain ⟨y1, x1⟩ := P7.out.2.1 1 _ rfl
        obtain ⟨y2, x2⟩ := P7.out.2.1 2 _ rfl
        obtain ⟨y3, x3⟩ := P7.out.2.1 3 _ rfl
        obtain ⟨y4, x4⟩ := P7.out.2.1 4 _ rfl
        obtain ⟨q1, r1⟩ := hB7 1 _ rfl
        obtain ⟨q2, r2⟩ := hB7 2 _ rfl
        have hN4 := P4.out.2.2.1
        have nn : w.heap.size ≠ w4.heap.size := by omega
        have ng : g ≠ w4.heap.size := by omega
        have nw : g ≠ w.heap.size := by omega
        go_wp2
        refine bodyPost_ret (v := .agg #[.int .i64 0, .int .i64 (M.fnOf ts i), .int .i64 0, .int .i64 0, .slice none 0 0]) (by simp [results, Tryz.results62, go_sem, cell?_set_same, y0, y1, y2, y3, y4]) rfl ?_
        exact ⟨rfl, (P7.out.1.drewN _).set5 (Nat.le_refl _) _ _ _ _ _⟩
end Go.Proofs.YtaplaoelamnoiaaGreatDoor

/- The parser's method atom, the method expression being known. Condition: the parser and its words lie. -/
namespace Go.Proofs.YtaplaoelamnoiaaGreatDoor
open Go.RowKit

/-- What the method expression does where rc tells what it reads. -/
def RcOk (ts : List Tok) (rc : Nat → Option (Ex × Nat)) : Prop := ∀ (g tb tc i : Nat) (w : World), Par g tb tc ts i w w → ∀ (e : Ex) (j : Nat), rc i = some (e, j) →
  Calls Tryz.prog 38 #[.pointer (some ⟨g, 0, none⟩)] w fun en w' => ∃ v, en = .returned v ∧ ExV (g + 1) w' e v ∧ Par g tb tc ts j w w'
theorem pNums_end {ts : List Tok} {k p : Nat} (h : M.kindAt ts p ≠ 1) : M.pNums ts k p = ([], p) := by
  cases k with
  | zero => rfl
  | succ k => unfold M.pNums; rw [if_neg h]
theorem pNums_on {ts : List Tok} {k p : Nat} (h : M.kindAt ts p = 1) : M.pNums ts (k + 1) p = (M.numOf ts p :: (M.pNums ts k (p + 1)).1, (M.pNums ts k (p + 1)).2) := by
  show (if M.kindAt ts p = 1 then (M.numOf ts p :: (M.pNums ts k (p + 1)).1, (M.pNums ts k (p + 1)).2) else ([], p)) = _
  rw [if_pos h]
theorem Own.but {g B : Nat} {w W : World} {v : Value} {l : List Int} (h : Own w B v l) (hb : But g w W) (hg : g < B) : Own W B v l := ownE_same h fun b h1 h2 => hb b h2 (by omega)
theorem Par.step0 {g tb tc : Nat} {ts : List Tok} {i : Nat} {w W W2 : World} (h : Par g tb tc ts i w W) (k : Below w.heap.size W W2) : Par g tb tc ts i w W2 := by
  obtain ⟨h1, h2, h3, h4, h5, h6, h7⟩ := h
  exact ⟨h1.same (k.block g h6), h2.same (k.block tb (by omega)), fun x hx hne => (k.block x hx).trans (h3 x hx hne), h4.trans (k.mono (by omega)), h5, h6, h7⟩

set_option maxRecDepth 20000 in
set_option maxHeartbeats 8000000 in
theorem atom_nums (g tb tc : Nat) (ts : List Tok) (i : Nat) (w : World) (h : Par g tb tc ts i w w) (hk : M.kindAt ts i = 1) :
    Calls Tryz.prog 85 #[.pointer (some ⟨g, 0, none⟩)] w fun en w' => ∃ v, en = .returned v ∧ ExV (g + 1) w' (.nums (M.pNums ts (ts.length - i) i).1) v ∧ Par g tb tc ts (M.pNums ts (ts.length - i) i).2 w w' := by
  have hil : i < ts.length := kind_lt (ts := ts) (i := i) (by rw [hk]; decide)
  have hfd := tok_field2
  have kk := kind_any g tb tc ts i w h
  rw [hk] at kk
  have hgl := h.1.lt
  have h200 := h.2.2.2.2.2.2
  obtain ⟨L, hL⟩ : ∃ L, L = (M.pNums ts (ts.length - i) i).1 := ⟨_, rfl⟩
  obtain ⟨J, hJ⟩ : ∃ J, J = (M.pNums ts (ts.length - i) i).2 := ⟨_, rfl⟩
  rw [← hL, ← hJ]
  replace hL := Lib.hid hL
  replace hJ := Lib.hid hJ
  replace kk := Lib.hid kk
  replace hk := Lib.hid hk
  replace h := Lib.hid h
  go_enter Tryz.func85, Tryz.ntmps85
  go_wp2_with fail
  refine kk.out.mono ?_
  rintro e w2 ⟨rfl, n, hw2⟩
  have P2 : Par g tb tc ts i w w2 := by rw [hw2]; exact h.out.drewN n
  replace hw2 := Lib.hid hw2
  go_wp2
  go_loopg [4] (ts.length - i) (fun k v wr => ∃ (p : Nat) (done : List Int) (av : Option Addr) (cv : Nat), v = .slice av done.length cv ∧ k = ts.length - p ∧ p ≤ ts.length ∧ Par g tb tc ts p w wr ∧ Own wr w.heap.size (.slice av done.length cv) done ∧ done ++ (M.pNums ts k p).1 = L ∧ (M.pNums ts k p).2 = J ∧ done.length ≤ p)
  case atStart => exact ⟨i, [], none, 0, rfl, rfl, by omega, P2, Own.nil _ _, by rw [List.nil_append]; exact hL.out.symm, hJ.out.symm, Nat.zero_le _⟩
  case round =>
    obtain ⟨p, done, av, cv, rfl, hgk, hpl, hP, hO, h1, h2, hdl⟩ := hrel
    have kk := kind_any g tb tc ts p wr hP.self
    have hgr := hP.1.lt
    by_cases hk1 : M.kindAt ts p = 1
    · have hpt := kind_lt (ts := ts) (i := p) (by rw [hk1]; decide)
      obtain ⟨m, hm⟩ : ∃ m, gk = m + 1 := ⟨gk - 1, by omega⟩
      subst hm
      rw [pNums_on hk1] at h1 h2
      rw [hk1] at kk
      have kn := fun W (hW : Par g tb tc ts p W W) => need_k g tb tc ts p W hW 1 hk1 (by decide)
      replace kk := Lib.hid kk
      replace kn := Lib.hid kn
      replace h1 := Lib.hid h1
      replace h2 := Lib.hid h2
      replace hO := Lib.hid hO
      replace hP := Lib.hid hP
      replace hk1 := Lib.hid hk1
      obtain ⟨q, hq⟩ : ∃ q, q = p + 1 := ⟨_, rfl⟩
      rw [← hq] at kn h1 h2
      replace hq := Lib.hid hq
      go_wp2_with fail
      refine kk.out.mono ?_
      rintro e w3 ⟨rfl, n3, hw3⟩
      have P3 : Par g tb tc ts p w w3 := by rw [hw3]; exact hP.out.drewN n3
      have O3 : Own w3 w.heap.size (.slice av done.length cv) done := ownE_same hO.out fun b h1 h2 => by rw [hw3]; rfl
      replace hw3 := Lib.hid hw3
      replace P3 := Lib.hid P3
      replace O3 := Lib.hid O3
      go_wp2_with fail
      refine (kn.out _ P3.out.self).mono ?_
      rintro e w4 ⟨⟨pl, rfl⟩, hP4⟩
      have O4 := Lib.hid (O3.out.but hP4.2.2.1 hgl)
      have P4 := Lib.hid (P3.out.trans hP4)
      have hg4 := hP4.1.lt
      have hs4 := P4.out.2.2.2.1.size
      clear hP4
      go_wp2_with (at_builtin; refine app_int rfl (.tmp 14) (.tmp 18) rfl w.heap.size _ done (M.numOf ts p) rfl O4.out rfl (by omega) hs4 ?_; intro v' w' ho' hb' hl'; obtain ⟨a', c', rfl, -, -, -⟩ := ho'.view; have ho' := Lib.hid ho'; have hb' := Lib.hid hb')
      go_roundg m
      case rel =>
        refine ⟨q, done ++ [M.numOf ts p], a', c', by simp, by have := hq.out; omega, by have := hq.out; omega, ?_, ho'.out, by rw [List.append_assoc]; exact h1.out, h2.out, by rw [List.length_append]; have := hq.out; simp; omega⟩
        exact P4.out.step0 hb'.out
      case measure => omega
    · rw [pNums_end hk1] at h1 h2
      have ek : (M.kindAt ts p == 1) = false := by rw [beq_eq_false_iff_ne]; exact hk1
      dsimp only at h1 h2
      rw [List.append_nil] at h1
      subst h1
      subst h2
      replace kk := Lib.hid kk
      replace hk1 := Lib.hid hk1
      replace hO := Lib.hid hO
      replace hP := Lib.hid hP
      go_wp2_with fail
      refine kk.out.mono ?_
      rintro e w3 ⟨rfl, n3, hw3⟩
      have P3 : Par g tb tc ts p w w3 := by rw [hw3]; exact hP.out.drewN n3
      have O3 : Own w3 w.heap.size (.slice av done.length cv) done := ownE_same hO.out fun b h1 h2 => by rw [hw3]; rfl
      replace hw3 := Lib.hid hw3
      replace P3 := Lib.hid P3
      replace O3 := Lib.hid O3
      go_wp2
      go_ret
      exact ⟨_, rfl, ⟨_, rfl, O3.out.low hgl⟩, P3.out⟩
set_option maxRecDepth 20000 in
set_option maxHeartbeats 4000000 in
theorem atom_name (g tb tc : Nat) (ts : List Tok) (i : Nat) (w : World) (h : Par g tb tc ts i w w) (hk : M.kindAt ts i = 3) :
    Calls Tryz.prog 85 #[.pointer (some ⟨g, 0, none⟩)] w fun en w' => ∃ v, en = .returned v ∧ ExV (g + 1) w' (.name (M.textOf ts i)) v ∧ Par g tb tc ts (i + 1) w w' := by
  have hfd := tok_field3
  have kk := kind_any g tb tc ts i w h
  rw [hk] at kk
  have kn := fun W (hW : Par g tb tc ts i W W) => need_k g tb tc ts i W hW 3 hk (by decide)
  replace kk := Lib.hid kk
  replace kn := Lib.hid kn
  replace hk := Lib.hid hk
  replace h := Lib.hid h
  go_enter Tryz.func85, Tryz.ntmps85
  go_wp2_with fail
  refine kk.out.mono ?_
  rintro e w2 ⟨rfl, n, hw2⟩
  have P2 : Par g tb tc ts i w w2 := by rw [hw2]; exact h.out.drewN n
  replace hw2 := Lib.hid hw2
  replace P2 := Lib.hid P2
  go_wp2_with fail
  refine (kn.out _ P2.out.self).mono ?_
  rintro e w4 ⟨⟨pl, rfl⟩, hP4⟩
  have P4 := Lib.hid (P2.out.trans hP4)
  clear hP4
  go_wp2
  go_ret
  exact ⟨_, rfl, rfl, P4.out⟩

set_option maxRecDepth 20000 in
set_option maxHeartbeats 4000000 in
theorem atom_par (rc : Nat → Option (Ex × Nat)) (g tb tc : Nat) (ts : List Tok) (hrc : RcOk ts rc) (i : Nat) (w : World) (h : Par g tb tc ts i w w) (hk : M.kindAt ts i = 5) (e : Ex) (j : Nat) (he : rc (i + 1) = some (e, j)) (hj : M.kindAt ts j = 6) :
    Calls Tryz.prog 85 #[.pointer (some ⟨g, 0, none⟩)] w fun en w' => ∃ v, en = .returned v ∧ ExV (g + 1) w' e v ∧ Par g tb tc ts (j + 1) w w' := by
  have kk := kind_any g tb tc ts i w h
  rw [hk] at kk
  have kn := fun W (hW : Par g tb tc ts i W W) => need_k g tb tc ts i W hW 5 hk (by decide)
  have kj := fun W (hW : Par g tb tc ts j W W) => need_k g tb tc ts j W hW 6 hj (by decide)
  have ke := fun W (hW : Par g tb tc ts (i + 1) W W) => hrc g tb tc (i + 1) W hW e j he
  replace kk := Lib.hid kk
  replace kn := Lib.hid kn
  replace kj := Lib.hid kj
  replace ke := Lib.hid ke
  replace hk := Lib.hid hk
  replace h := Lib.hid h
  go_enter Tryz.func85, Tryz.ntmps85
  go_wp2_with fail
  refine kk.out.mono ?_
  rintro e w2 ⟨rfl, n, hw2⟩
  have P2 : Par g tb tc ts i w w2 := by rw [hw2]; exact h.out.drewN n
  replace hw2 := Lib.hid hw2
  replace P2 := Lib.hid P2
  go_wp2_with fail
  refine (kn.out _ P2.out.self).mono ?_
  rintro en w4 ⟨⟨pl, rfl⟩, hP4⟩
  have P4 := Lib.hid (P2.out.trans hP4)
  clear hP4
  go_wp2_with fail
  refine (ke.out _ P4.out.self).mono ?_
  rintro en w5 ⟨v, rfl, hv, hP5⟩
  have P5 := Lib.hid (P4.out.trans hP5)
  obtain ⟨T, x, rfl⟩ := hv.face
  replace hv := Lib.hid hv
  clear hP5
  go_wp2_with fail
  refine (kj.out _ P5.out.self).mono ?_
  rintro en w6 ⟨⟨pl, rfl⟩, hP6⟩
  have P6 := Lib.hid (P5.out.trans hP6)
  have hv6 := hP6.keep hv.out
  clear hP6
  go_wp2
  go_ret
  exact ⟨_, rfl, hv6, P6.out⟩

theorem atom_any (rc : Nat → Option (Ex × Nat)) (g tb tc : Nat) (ts : List Tok) (hrc : RcOk ts rc) (i : Nat) (w : World) (h : Par g tb tc ts i w w) (e : Ex) (j : Nat) (he : M.pAtom rc ts i = some (e, j)) :
    Calls Tryz.prog 85 #[.pointer (some ⟨g, 0, none⟩)] w fun en w' => ∃ v, en = .returned v ∧ ExV (g + 1) w' e v ∧ Par g tb tc ts j w w' := by
  unfold M.pAtom at he
  split at he
  case isTrue h1 => cases he; exact atom_nums g tb tc ts i w h h1
  split at he
  case isTrue h3 => cases he; exact atom_name g tb tc ts i w h h3
  split at he
  case isFalse => cases he
  rename_i h5
  split at he
  case h_2 => cases he
  rename_i e' j' hr
  split at he
  case isFalse => cases he
  rename_i h6
  cases he
  exact atom_par rc g tb tc ts hrc i w h h5 _ _ hr h6
end Go.Proofs.YtaplaoelamnoiaaGreatDoor

/- The parser's method term: an atom and its picks. Condition: the parser and its words lie; what the method expression does is known. -/
namespace Go.Proofs.YtaplaoelamnoiaaGreatDoor
open Go.RowKit

theorem pPicks_on {rc : Nat → Option (Ex × Nat)} {ts : List Tok} {n i : Nat} {e e' : Ex} {j : Nat} (hk : M.kindAt ts i = 7) (h : M.pPicks rc ts (n + 1) e i = some (e', j)) : ∃ b q, rc (i + 1) = some (b, q) ∧ M.kindAt ts q = 8 ∧ M.pPicks rc ts n (.pick e b) (q + 1) = some (e', j) := by
  have h : (if M.kindAt ts i = 7 then (match rc (i + 1) with | some (b, j) => if M.kindAt ts j = 8 then M.pPicks rc ts n (.pick e b) (j + 1) else none | none => none) else some (e, i)) = some (e', j) := h
  rw [if_pos hk] at h
  split at h
  case h_2 => cases h
  rename_i b q hr
  split at h
  case isFalse => cases h
  rename_i h8
  exact ⟨b, q, hr, h8, h⟩
theorem pPicks_off {rc : Nat → Option (Ex × Nat)} {ts : List Tok} {n i : Nat} {e e' : Ex} {j : Nat} (hk : M.kindAt ts i ≠ 7) (h : M.pPicks rc ts (n + 1) e i = some (e', j)) : e = e' ∧ i = j := by
  have h : (if M.kindAt ts i = 7 then (match rc (i + 1) with | some (b, j) => if M.kindAt ts j = 8 then M.pPicks rc ts n (.pick e b) (j + 1) else none | none => none) else some (e, i)) = some (e', j) := h
  rw [if_neg hk] at h
  cases h
  exact ⟨rfl, rfl⟩
theorem pPicks_pos {rc : Nat → Option (Ex × Nat)} {ts : List Tok} {n i : Nat} {e e' : Ex} {j : Nat} (h : M.pPicks rc ts n e i = some (e', j)) : ∃ m, n = m + 1 := by
  cases n with
  | zero => cases h
  | succ m => exact ⟨m, rfl⟩

set_option maxRecDepth 20000 in
set_option maxHeartbeats 8000000 in
theorem term_any (rc : Nat → Option (Ex × Nat)) (g tb tc : Nat) (ts : List Tok) (hrc : RcOk ts rc) (i : Nat) (w : World) (h : Par g tb tc ts i w w) (e : Ex) (j : Nat) (he : M.pTerm rc ts i = some (e, j)) :
    Calls Tryz.prog 63 #[.pointer (some ⟨g, 0, none⟩)] w fun en w' => ∃ v, en = .returned v ∧ ExV (g + 1) w' e v ∧ Par g tb tc ts j w w' := by
  unfold M.pTerm at he
  split at he
  case h_2 => cases he
  rename_i e0 j0 ha
  have k0 := atom_any rc g tb tc ts hrc i w h e0 j0 ha
  have hgl := h.1.lt
  have h200 := h.2.2.2.2.2.2
  replace k0 := Lib.hid k0
  replace he := Lib.hid he
  replace h := Lib.hid h
  replace hrc := Lib.hid hrc
  clear ha
  go_enter Tryz.func63, Tryz.ntmps63
  go_wp2_with fail
  refine k0.out.mono ?_
  rintro en w2 ⟨v0, rfl, hv, P2⟩
  obtain ⟨T0, x0, rfl⟩ := hv.face
  replace hv := Lib.hid hv
  replace P2 := Lib.hid P2
  go_wp2
  go_loopg [3] 3 (fun k v wr => ∃ (p : Nat) (e' : Ex) (T : TypeId) (x : Value), v = .iface T x ∧ Par g tb tc ts p w wr ∧ ExV (g + 1) wr e' v ∧ M.pPicks rc ts k e' p = some (e, j))
  case atStart => exact ⟨j0, e0, T0, x0, rfl, P2.out, hv.out, he.out⟩
  case round =>
    obtain ⟨p, e', T, x, rfl, hP, hE, hp⟩ := hrel
    obtain ⟨m, hm⟩ := pPicks_pos hp
    subst hm
    have kk := kind_any g tb tc ts p wr hP.self
    have hgr := hP.1.lt
    by_cases hk7 : M.kindAt ts p = 7
    · obtain ⟨b, q, hr, h8, hp⟩ := pPicks_on hk7 hp
      have hpl := kind_lt (ts := ts) (i := p) (by rw [hk7]; decide)
      rw [hk7] at kk
      have ke := fun W (hW : Par g tb tc ts (p + 1) W W) => hrc.out g tb tc (p + 1) W hW b q hr
      have kq := fun W (hW : Par g tb tc ts q W W) => kind_any g tb tc ts q W hW
      rw [h8] at kq
      have kn := fun W (hW : Par g tb tc ts q W W) => need_k g tb tc ts q W hW 8 h8 (by decide)
      replace kk := Lib.hid kk
      replace ke := Lib.hid ke
      replace kq := Lib.hid kq
      replace kn := Lib.hid kn
      replace hp := Lib.hid hp
      replace hE := Lib.hid hE
      replace hP := Lib.hid hP
      replace hk7 := Lib.hid hk7
      replace hr := Lib.hid hr
      replace h8 := Lib.hid h8
      go_wp2_with fail
      refine kk.out.mono ?_
      rintro en w3 ⟨rfl, n3, hw3⟩
      have P3 : Par g tb tc ts p w w3 := by rw [hw3]; exact hP.out.drewN n3
      have E3 : ExV (g + 1) w3 e' (.iface T x) := hE.out.same fun b h1 h2 => by rw [hw3]; rfl
      replace hw3 := Lib.hid hw3
      obtain ⟨⟨⟨a, b', c⟩, d⟩, -⟩ := id P3
      have P4 := Lib.hid (P3.setAt (p + 1) (.int .i64 ((p : Nat) + 1 : Int)) (by simp))
      have E4 : ExV (g + 1) (w3.setCell ⟨g, 1, none⟩ (.int .i64 ((p : Nat) + 1 : Int))) e' (.iface T x) := E3.same fun b h1 h2 => Below.heap_setCell _ _ _ _ (by show b ≠ g; omega)
      replace E4 := Lib.hid E4
      replace P3 := Lib.hid P3
      replace E3 := Lib.hid E3
      go_wp2_with fail
      refine (ke.out _ P4.out.self).mono ?_
      rintro en w5 ⟨vb, rfl, hvb, hP5⟩
      have P5 := Lib.hid (P4.out.trans hP5)
      have E5 := Lib.hid (hP5.keep E4.out)
      obtain ⟨Tb, xb, rfl⟩ := hvb.face
      replace hvb := Lib.hid hvb
      have hg5 := P5.out.1.lt
      clear hP5 a b' c d
      have hb6 := (Below.refl w5.heap.size w5).alloc (Nat.le_refl _) (.cells #[.iface Tb xb] 67)
      have hB6 := boxC_alloc w5 #[.iface Tb xb] 67
      have P6 := Lib.hid (P5.out.step hb6)
      have E6 := Lib.hid (E5.out.same fun b _ h => hb6.block b h)
      have V6 := Lib.hid (hvb.out.same fun b _ h => hb6.block b h)
      have C6 := Lib.hid (hB6 0 _ rfl).1
      have hl6 : w5.heap.size < (w5.alloc (.cells #[.iface Tb xb] 67)).heap.size := by simp
      obtain ⟨w6, hw6⟩ : ∃ w6 : World, w6 = w5.alloc (.cells #[.iface Tb xb] 67) := ⟨_, rfl⟩
      rw [← hw6] at P6 E6 V6 C6 hl6
      have hw6' := Lib.hid hw6.symm
      replace hw6 := Lib.hid hw6
      clear hb6 hB6
      go_wp2_with fail
      rw [hw6'.out]
      go_loopg [4] 0 (fun k v wr => v = .slice (some ⟨w5.heap.size, 0, none⟩) 1 1 ∧ wr = w6)
      case atStart => exact ⟨rfl, rfl⟩
      case round =>
        obtain ⟨rfl, rfl⟩ := hrel
        have kk := Lib.hid (kq.out _ P6.out.self)
        go_wp2_with fail
        refine kk.out.mono ?_
        rintro en w7 ⟨rfl, n7, hw7⟩
        have P7 : Par g tb tc ts q w w7 := by rw [hw7]; exact P6.out.drewN n7
        have E7 : ExV (g + 1) w7 e' (.iface T x) := E6.out.same fun b h1 h2 => by rw [hw7]; rfl
        have V7 : ExV (g + 1) w7 b (.iface Tb xb) := V6.out.same fun b h1 h2 => by rw [hw7]; rfl
        have C7 : w7.cell? ⟨w5.heap.size, 0, none⟩ = some (.iface Tb xb) := by rw [hw7]; exact C6.out
        have hl7 : w5.heap.size < w7.heap.size := by rw [hw7]; exact hl6
        replace hw7 := Lib.hid hw7
        replace P7 := Lib.hid P7
        replace E7 := Lib.hid E7
        replace V7 := Lib.hid V7
        replace C7 := Lib.hid C7
        go_wp2_with fail
        refine (kn.out _ P7.out.self).mono ?_
        rintro en w8 ⟨⟨pl, rfl⟩, hP8⟩
        have P8 := Lib.hid (P7.out.trans hP8)
        have E8 := Lib.hid (hP8.keep E7.out)
        have V8 := Lib.hid (hP8.keep V7.out)
        have C8 := Lib.hid ((cell_of_eq (hP8.2.2.1 w5.heap.size hl7 (by omega)) 0).trans C7.out)
        clear hP8
        go_wp2
        go_roundg m
        case rel => exact ⟨q + 1, .pick e' b, _, _, rfl, P8.out, ⟨_, _, _, _, rfl, by omega, C8.out, E8.out, V8.out⟩, hp.out⟩
        case measure => omega
    · obtain ⟨rfl, rfl⟩ := pPicks_off hk7 hp
      have ek : (M.kindAt ts p == 7) = false := by rw [beq_eq_false_iff_ne]; exact hk7
      replace kk := Lib.hid kk
      replace hk7 := Lib.hid hk7
      replace hP := Lib.hid hP
      replace hE := Lib.hid hE
      go_wp2_with fail
      refine kk.out.mono ?_
      rintro en w3 ⟨rfl, n3, hw3⟩
      have P3 : Par g tb tc ts p w w3 := by rw [hw3]; exact hP.out.drewN n3
      have E3 : ExV (g + 1) w3 e' (.iface T x) := hE.out.same fun b h1 h2 => by rw [hw3]; rfl
      replace hw3 := Lib.hid hw3
      replace P3 := Lib.hid P3
      replace E3 := Lib.hid E3
      go_wp2
      go_ret
      exact ⟨_, rfl, E3.out, P3.out⟩
end Go.Proofs.YtaplaoelamnoiaaGreatDoor
