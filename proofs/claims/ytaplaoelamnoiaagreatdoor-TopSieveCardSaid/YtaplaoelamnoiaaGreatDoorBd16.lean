/- Texts that lie in one file: what is plain, rows, boxes, squares, and what is known of a world. No condition. -/
import Derived.Test.YtaplaoelamnoiaaGreatDoorBd11
/- The method flat of a function at one argument. Condition: as in TrFlat. -/
namespace Go.Proofs.YtaplaoelamnoiaaGreatDoor
open Go.RowKit

/-- A box whose block is known whole, beside nodes. -/
def Kp (B N : Nat) (vs : Array Value) (t : TypeId) (w W : World) : Prop := Fr B w W ∧ W.heap[N]? = some (.cells vs t (0, 0)) ∧ B ≤ W.heap.size
theorem Kp.fr {B N : Nat} {vs : Array Value} {t : TypeId} {w W W' : World} (h : Kp B N vs t w W) (k : Fr B W W') (ht : t ≠ 76) : Kp B N vs t w W' :=
  ⟨h.1.trans k, k.cells h.2.1 ht, Nat.le_trans h.2.2 k.1.size⟩
theorem Kp.alloc {B N : Nat} {vs : Array Value} {t : TypeId} {w W : World} (h : Kp B N vs t w W) (ht : t ≠ 76) (o : Obj) : Kp B N vs t w (W.alloc o) :=
  h.fr (Fr.of_below ((Below.refl _ W).alloc (Nat.le_refl _) o) h.2.2) ht
theorem Kp.cell {B N : Nat} {vs : Array Value} {t : TypeId} {w W : World} (h : Kp B N vs t w W) (j : Nat) (v : Value) (hv : vs[j]? = some v) : W.cell? ⟨N, j, none⟩ = some v := by
  rw [cell_of_row W N j vs t (0, 0) h.2.1]
  exact hv
theorem ExRow.alloc {g : Nat} {w0 w : World} {A : Option Addr} {es : List Ex} (h : ExRow g w0 w A es) (o : Obj) : ExRow g w0 (w.alloc o) A es := h.fr (B := w.heap.size) (Fr.of_below ((Below.refl _ w).alloc (Nat.le_refl _) o) (Nat.le_refl _))
theorem exrow_new {g : Nat} {w0 : World} (X : World) {T : TypeId} {x : Value} {e : Ex} (h : ExV g w0 e (.iface T x)) : ExRow g w0 (X.alloc (.cells #[.iface T x] 67)) (some ⟨X.heap.size, 0, none⟩) [e] := by
  intro i e' he
  cases i with
  | succ i => simp at he
  | zero =>
    simp at he
    subst he
    exact ⟨X.heap.size, #[.iface T x], (0, 0), T, x, rfl, heap_alloc_new X _, rfl, h⟩
theorem nd_cells2 (w : World) (x : Nd) (sv : Value) (t : TypeId) (o : Obj) (b : Nat) (hb : b = w.heap.size) : ∀ j u, (x.cells sv)[j]? = some u → ((w.alloc (.cells #[.int .i64 x.op, .int .i64 x.ao, .int .i64 x.af, .int .i64 x.ag, .int .i64 x.n, sv, .string x.text] t)).alloc o).cell? ⟨b, j, none⟩ = some u := fun j u h => by
  have e : ((w.alloc (.cells #[.int .i64 x.op, .int .i64 x.ao, .int .i64 x.af, .int .i64 x.ag, .int .i64 x.n, sv, .string x.text] t)).alloc o).heap[b]? = (w.alloc (.cells #[.int .i64 x.op, .int .i64 x.ao, .int .i64 x.af, .int .i64 x.ag, .int .i64 x.n, sv, .string x.text] t)).heap[b]? := heap_alloc_old _ _ (by rw [hb]; simp)
  exact (cell_of_eq e j).trans (nd_cells w x sv t b hb j u h)

theorem Nds.dalloc {B : Nat} {w : World} {v : Value} {l : List Nd} (h : Nds B w.drew v l) (o : Obj) : Nds B (w.alloc o).drew v l := h.alloc o
theorem exrow_dnew {g : Nat} {w0 : World} (X : World) {T : TypeId} {x : Value} {e : Ex} (h : ExV g w0 e (.iface T x)) : ExRow g w0 (X.alloc (.cells #[.iface T x] 67)).drew (some ⟨X.heap.size, 0, none⟩) [e] := exrow_new X.drew h

theorem bx6 {B N : Nat} {v0 v1 v2 v3 v4 v5 : Value} {t : TypeId} {w W : World} (h : Kp B N #[v0, v1, v2, v3, v4, v5] t w W) : W.cell? ⟨N, 0, none⟩ = some v0 ∧ W.cell? ⟨N, 1, none⟩ = some v1 ∧ W.cell? ⟨N, 2, none⟩ = some v2 ∧ W.cell? ⟨N, 3, none⟩ = some v3 ∧ W.cell? ⟨N, 4, none⟩ = some v4 ∧ W.cell? ⟨N, 5, none⟩ = some v5 ∧ Kp B N #[v0, v1, v2, v3, v4, v5] t w W :=
  ⟨h.cell 0 _ rfl, h.cell 1 _ rfl, h.cell 2 _ rfl, h.cell 3 _ rfl, h.cell 4 _ rfl, h.cell 5 _ rfl, h⟩
theorem sK6 {B N : Nat} {v0 v1 v2 v3 v4 v5 : Value} {t : TypeId} {w W : World} (h : W.cell? ⟨N, 0, none⟩ = some v0 ∧ W.cell? ⟨N, 1, none⟩ = some v1 ∧ W.cell? ⟨N, 2, none⟩ = some v2 ∧ W.cell? ⟨N, 3, none⟩ = some v3 ∧ W.cell? ⟨N, 4, none⟩ = some v4 ∧ W.cell? ⟨N, 5, none⟩ = some v5 ∧ Kp B N #[v0, v1, v2, v3, v4, v5] t w W) : Kp B N #[v0, v1, v2, v3, v4, v5] t w W := h.2.2.2.2.2.2
theorem sB6 {B N : Nat} {v0 v1 v2 v3 v4 v5 : Value} {t : TypeId} {w W : World} (h : W.cell? ⟨N, 0, none⟩ = some v0 ∧ W.cell? ⟨N, 1, none⟩ = some v1 ∧ W.cell? ⟨N, 2, none⟩ = some v2 ∧ W.cell? ⟨N, 3, none⟩ = some v3 ∧ W.cell? ⟨N, 4, none⟩ = some v4 ∧ W.cell? ⟨N, 5, none⟩ = some v5 ∧ Kp B N #[v0, v1, v2, v3, v4, v5] t w W) : B ≤ W.heap.size := h.2.2.2.2.2.2.2.2
theorem sL6 {B N : Nat} {v0 v1 v2 v3 v4 v5 : Value} {t : TypeId} {w W : World} (h : W.cell? ⟨N, 0, none⟩ = some v0 ∧ W.cell? ⟨N, 1, none⟩ = some v1 ∧ W.cell? ⟨N, 2, none⟩ = some v2 ∧ W.cell? ⟨N, 3, none⟩ = some v3 ∧ W.cell? ⟨N, 4, none⟩ = some v4 ∧ W.cell? ⟨N, 5, none⟩ = some v5 ∧ Kp B N #[v0, v1, v2, v3, v4, v5] t w W) : Below B w W := h.2.2.2.2.2.2.1.1
theorem sF6 {B N : Nat} {v0 v1 v2 v3 v4 v5 : Value} {t : TypeId} {w W : World} (h : W.cell? ⟨N, 0, none⟩ = some v0 ∧ W.cell? ⟨N, 1, none⟩ = some v1 ∧ W.cell? ⟨N, 2, none⟩ = some v2 ∧ W.cell? ⟨N, 3, none⟩ = some v3 ∧ W.cell? ⟨N, 4, none⟩ = some v4 ∧ W.cell? ⟨N, 5, none⟩ = some v5 ∧ Kp B N #[v0, v1, v2, v3, v4, v5] t w W) : Fr B w W := h.2.2.2.2.2.2.1

set_option maxRecDepth 20000 in
set_option maxHeartbeats 16000000 in
theorem flat_one (o f q : Int) (r : Ex) (hr : FlatOk r) : FlatOk (.one o f q r) := by
  intro g w0 w T x v l hx hb hN hl
  obtain ⟨vr, e, hR⟩ := hx
  cases e
  show Calls Tryz.prog 265 _ w _
  obtain ⟨a, c, rfl⟩ := hN.view
  obtain ⟨Tr, xr, rfl⟩ := hR.face
  have hs := hb.size
  have hl1 : l.length < 1000 := by simp only [M.flat, List.length_cons] at hl; omega
  have hl2 : (l ++ [(⟨6, o, f, q, 0, [], ⟨#[]⟩⟩ : Nd)]).length + ([] : List Nd).length ≤ 1000 := by simp; omega
  have hl3 : (l ++ [(⟨6, o, f, q, 0, [], ⟨#[]⟩⟩ : Nd)]).length + ([r].flatMap M.flat).length ≤ 1000 := by simp [M.flat] at hl ⊢; omega
  have hb1 : Below w.heap.size w (w.alloc (.cells #[.int .i64 o, .int .i64 f, .int .i64 q, .int .i64 0, .slice none 0 0, .iface Tr xr] 128)).drew := ((Below.refl _ w).alloc (Nat.le_refl _) _).drew
  have N1 : Nds w0.heap.size (w.alloc (.cells #[.int .i64 o, .int .i64 f, .int .i64 q, .int .i64 0, .slice none 0 0, .iface Tr xr] 128)).drew (.slice a l.length c) l := hN.below hb1
  have K1 : Kp w0.heap.size w.heap.size #[.int .i64 o, .int .i64 f, .int .i64 q, .int .i64 0, .slice none 0 0, .iface Tr xr] 128 w (w.alloc (.cells #[.int .i64 o, .int .i64 f, .int .i64 q, .int .i64 0, .slice none 0 0, .iface Tr xr] 128)).drew := ⟨Fr.of_below hb1 hs, heap_alloc_new w _, Nat.le_trans hs hb1.size⟩
  have hFr : ∀ e ∈ [r], FlatOk e := by intro e he; simp at he; subst he; exact hr
  have hFn : ∀ e ∈ ([] : List Ex), FlatOk e := by intro e he; simp at he
  replace hb := Lib.hid hb
  clear hl hb1 hN
  obtain ⟨W1, hW1⟩ : ∃ W1 : World, W1 = w.alloc (.cells #[.int .i64 o, .int .i64 f, .int .i64 q, .int .i64 0, .slice none 0 0, .iface Tr xr] 128) := ⟨_, rfl⟩
  rw [← hW1] at N1 K1
  have hW1' := Lib.hid hW1.symm
  replace hW1 := Lib.hid hW1
  go_enter Tryz.func265, Tryz.ntmps265
  go_upto_region 1 with fail
  rw [hW1'.out]
  generalize hN : w.heap.size = N at *
  have S1 := bx6 K1
  go_region_held3 (fun W => W.cell? ⟨N, 0, none⟩ = some (.int .i64 o) ∧ W.cell? ⟨N, 1, none⟩ = some (.int .i64 f) ∧ W.cell? ⟨N, 2, none⟩ = some (.int .i64 q) ∧ W.cell? ⟨N, 3, none⟩ = some (.int .i64 0) ∧ W.cell? ⟨N, 4, none⟩ = some (.slice none 0 0) ∧ W.cell? ⟨N, 5, none⟩ = some (.iface Tr xr) ∧ Kp w0.heap.size N #[.int .i64 o, .int .i64 f, .int .i64 q, .int .i64 0, .slice none 0 0, .iface Tr xr] 128 w W)
    (first | (with_reducible assumption) | (exact bx6 (Kp.fr (sK6 (by with_reducible assumption)) hF (by decide))) | (exact bx6 (Kp.alloc (sK6 (by with_reducible assumption)) (by decide) _)))
    (first
      | (refine step_app_N (o := { dst := some 10, op := .call { callee := .builtin .append, args := #[.tmp 5, .tmp 9], argTypes := #[50, 50] }, type := 50, pos := "tree.go:62", after := _, guard := none }) rfl (.tmp 5) (.tmp 9) rfl w0.heap.size (.slice a l.length c) l ⟨6, o, f, q, 0, [], ⟨#[]⟩⟩ (.slice none 0 0) _ rfl (by (with_reducible first | assumption | exact Nds.alloc (by assumption) _ | exact Nds.alloc (Nds.alloc (by assumption) _) _ | exact Nds.dalloc (by assumption) _ | exact Nds.alloc (Nds.dalloc (by assumption) _) _ | exact Nds.dalloc (Nds.dalloc (by assumption) _) _)) rfl (by with_reducible first | exact nd_cells _ ⟨6, o, f, q, 0, [], ⟨#[]⟩⟩ (.slice none 0 0) 76 _ (by simp) | exact nd_cells2 _ ⟨6, o, f, q, 0, [], ⟨#[]⟩⟩ (.slice none 0 0) 76 _ _ (by simp)) (Own.nil _ _) (by omega) (sB6 (by with_reducible assumption)) ?_; intro a3 c3 w3 N3 hF; (try (have R : ExRow g w0 w3 (some ⟨_, 0, none⟩) [r] := ExRow.fr (by (with_reducible first | assumption | exact ExRow.alloc (by assumption) _ | exact ExRow.alloc (ExRow.alloc (by assumption) _) _ | exact exrow_new _ hR | exact exrow_dnew _ hR | exact ExRow.alloc (exrow_new _ hR) _ | exact ExRow.alloc (ExRow.alloc (exrow_new _ hR) _) _)) hF)); (try simp only [World.size_alloc] at R))
      | (go_at_call_of 262 (Value.slice none 0 0); refine (flats_any g w0 _ none 0 _ (l ++ [⟨6, o, f, q, 0, [], ⟨#[]⟩⟩]) [] (ExRow.nil _ _ _ _) hFn (hb.out.trans (sL6 (by with_reducible assumption))) (by (with_reducible first | assumption | exact Nds.alloc (by assumption) _ | exact Nds.alloc (Nds.alloc (by assumption) _) _ | exact Nds.dalloc (by assumption) _ | exact Nds.alloc (Nds.dalloc (by assumption) _) _ | exact Nds.dalloc (Nds.dalloc (by assumption) _) _)) hl2).mono ?_; rintro en w4 ⟨v4, rfl, N4, hF⟩; rw [List.flatMap_nil, List.append_nil] at N4; obtain ⟨a4, c4, rfl⟩ := N4.view; simp only [List.length_append, List.length_singleton] at N4; (try (have R : ExRow g w0 w4 (some ⟨_, 0, none⟩) [r] := ExRow.fr (by (with_reducible first | assumption | exact ExRow.alloc (by assumption) _ | exact ExRow.alloc (ExRow.alloc (by assumption) _) _ | exact exrow_new _ hR | exact exrow_dnew _ hR | exact ExRow.alloc (exrow_new _ hR) _ | exact ExRow.alloc (ExRow.alloc (exrow_new _ hR) _) _)) hF)); (try simp only [World.size_alloc] at R))
      | (go_at_call 266; refine (node_any o f q 6 _).mono ?_; rintro en w2 ⟨rfl, hb2⟩; have hF := Fr.of_below hb2 (sB6 (by with_reducible assumption)); have N2 : Nds w0.heap.size w2 (.slice a l.length c) l := Nds.below (by (with_reducible first | assumption | exact Nds.alloc (by assumption) _ | exact Nds.alloc (Nds.alloc (by assumption) _) _ | exact Nds.dalloc (by assumption) _ | exact Nds.alloc (Nds.dalloc (by assumption) _) _ | exact Nds.dalloc (Nds.dalloc (by assumption) _) _)) hb2; (try (have R : ExRow g w0 w2 (some ⟨_, 0, none⟩) [r] := ExRow.fr (by (with_reducible first | assumption | exact ExRow.alloc (by assumption) _ | exact ExRow.alloc (ExRow.alloc (by assumption) _) _ | exact exrow_new _ hR | exact exrow_dnew _ hR | exact ExRow.alloc (exrow_new _ hR) _ | exact ExRow.alloc (ExRow.alloc (exrow_new _ hR) _) _)) hF)); (try simp only [World.size_alloc] at R))
      | (go_at_call 262; refine (flats_any g w0 _ (some ⟨_, 0, none⟩) 1 _ (l ++ [⟨6, o, f, q, 0, [], ⟨#[]⟩⟩]) [r] (by (with_reducible first | assumption | exact ExRow.alloc (by assumption) _ | exact ExRow.alloc (ExRow.alloc (by assumption) _) _ | exact exrow_new _ hR | exact exrow_dnew _ hR | exact ExRow.alloc (exrow_new _ hR) _ | exact ExRow.alloc (ExRow.alloc (exrow_new _ hR) _) _)) hFr (hb.out.trans (sL6 (by with_reducible assumption))) (by (with_reducible first | assumption | exact Nds.alloc (by assumption) _ | exact Nds.alloc (Nds.alloc (by assumption) _) _ | exact Nds.dalloc (by assumption) _ | exact Nds.alloc (Nds.dalloc (by assumption) _) _ | exact Nds.dalloc (Nds.dalloc (by assumption) _) _)) hl3).mono ?_; rintro en w5 ⟨v5, rfl, N5, hF⟩; obtain ⟨a5, c5, rfl⟩ := N5.view))
  all_goals (go_wp2; go_ret; exact ⟨_, rfl, by simpa [M.flat] using N5, sF6 (by with_reducible assumption)⟩)
end Go.Proofs.YtaplaoelamnoiaaGreatDoor

/- The method flat of a function at two arguments. Condition: as in TrFlat. -/
namespace Go.Proofs.YtaplaoelamnoiaaGreatDoor
open Go.RowKit

theorem bx7 {B N : Nat} {v0 v1 v2 v3 v4 v5 v6 : Value} {t : TypeId} {w W : World} (h : Kp B N #[v0, v1, v2, v3, v4, v5, v6] t w W) : W.cell? ⟨N, 0, none⟩ = some v0 ∧ W.cell? ⟨N, 1, none⟩ = some v1 ∧ W.cell? ⟨N, 2, none⟩ = some v2 ∧ W.cell? ⟨N, 3, none⟩ = some v3 ∧ W.cell? ⟨N, 4, none⟩ = some v4 ∧ W.cell? ⟨N, 5, none⟩ = some v5 ∧ W.cell? ⟨N, 6, none⟩ = some v6 ∧ Kp B N #[v0, v1, v2, v3, v4, v5, v6] t w W :=
  ⟨h.cell 0 _ rfl, h.cell 1 _ rfl, h.cell 2 _ rfl, h.cell 3 _ rfl, h.cell 4 _ rfl, h.cell 5 _ rfl, h.cell 6 _ rfl, h⟩
theorem sK7 {B N : Nat} {v0 v1 v2 v3 v4 v5 v6 : Value} {t : TypeId} {w W : World} (h : W.cell? ⟨N, 0, none⟩ = some v0 ∧ W.cell? ⟨N, 1, none⟩ = some v1 ∧ W.cell? ⟨N, 2, none⟩ = some v2 ∧ W.cell? ⟨N, 3, none⟩ = some v3 ∧ W.cell? ⟨N, 4, none⟩ = some v4 ∧ W.cell? ⟨N, 5, none⟩ = some v5 ∧ W.cell? ⟨N, 6, none⟩ = some v6 ∧ Kp B N #[v0, v1, v2, v3, v4, v5, v6] t w W) : Kp B N #[v0, v1, v2, v3, v4, v5, v6] t w W := h.2.2.2.2.2.2.2
theorem sB7 {B N : Nat} {v0 v1 v2 v3 v4 v5 v6 : Value} {t : TypeId} {w W : World} (h : W.cell? ⟨N, 0, none⟩ = some v0 ∧ W.cell? ⟨N, 1, none⟩ = some v1 ∧ W.cell? ⟨N, 2, none⟩ = some v2 ∧ W.cell? ⟨N, 3, none⟩ = some v3 ∧ W.cell? ⟨N, 4, none⟩ = some v4 ∧ W.cell? ⟨N, 5, none⟩ = some v5 ∧ W.cell? ⟨N, 6, none⟩ = some v6 ∧ Kp B N #[v0, v1, v2, v3, v4, v5, v6] t w W) : B ≤ W.heap.size := h.2.2.2.2.2.2.2.2.2
theorem sL7 {B N : Nat} {v0 v1 v2 v3 v4 v5 v6 : Value} {t : TypeId} {w W : World} (h : W.cell? ⟨N, 0, none⟩ = some v0 ∧ W.cell? ⟨N, 1, none⟩ = some v1 ∧ W.cell? ⟨N, 2, none⟩ = some v2 ∧ W.cell? ⟨N, 3, none⟩ = some v3 ∧ W.cell? ⟨N, 4, none⟩ = some v4 ∧ W.cell? ⟨N, 5, none⟩ = some v5 ∧ W.cell? ⟨N, 6, none⟩ = some v6 ∧ Kp B N #[v0, v1, v2, v3, v4, v5, v6] t w W) : Below B w W := h.2.2.2.2.2.2.2.1.1
theorem sF7 {B N : Nat} {v0 v1 v2 v3 v4 v5 v6 : Value} {t : TypeId} {w W : World} (h : W.cell? ⟨N, 0, none⟩ = some v0 ∧ W.cell? ⟨N, 1, none⟩ = some v1 ∧ W.cell? ⟨N, 2, none⟩ = some v2 ∧ W.cell? ⟨N, 3, none⟩ = some v3 ∧ W.cell? ⟨N, 4, none⟩ = some v4 ∧ W.cell? ⟨N, 5, none⟩ = some v5 ∧ W.cell? ⟨N, 6, none⟩ = some v6 ∧ Kp B N #[v0, v1, v2, v3, v4, v5, v6] t w W) : Fr B w W := h.2.2.2.2.2.2.2.1

theorem nd_cells3 (w : World) (x : Nd) (sv : Value) (t : TypeId) (o o' : Obj) (b : Nat) (hb : b = w.heap.size) : ∀ j u, (x.cells sv)[j]? = some u → (((w.alloc (.cells #[.int .i64 x.op, .int .i64 x.ao, .int .i64 x.af, .int .i64 x.ag, .int .i64 x.n, sv, .string x.text] t)).alloc o).alloc o').cell? ⟨b, j, none⟩ = some u := fun j u h => by
  have e : (((w.alloc (.cells #[.int .i64 x.op, .int .i64 x.ao, .int .i64 x.af, .int .i64 x.ag, .int .i64 x.n, sv, .string x.text] t)).alloc o).alloc o').heap[b]? = ((w.alloc (.cells #[.int .i64 x.op, .int .i64 x.ao, .int .i64 x.af, .int .i64 x.ag, .int .i64 x.n, sv, .string x.text] t)).alloc o).heap[b]? := heap_alloc_old _ _ (by rw [hb]; simp; omega)
  exact (cell_of_eq e j).trans (nd_cells2 w x sv t o b hb j u h)
theorem exrow_newb {g : Nat} {w0 : World} (X : World) {T : TypeId} {x : Value} {e : Ex} {b : Nat} (hb : b = X.heap.size) (h : ExV g w0 e (.iface T x)) : ExRow g w0 (X.alloc (.cells #[.iface T x] 67)) (some ⟨b, 0, none⟩) [e] := by
  subst hb
  exact exrow_new X h
theorem ExRow.dalloc {g : Nat} {w0 w : World} {A : Option Addr} {es : List Ex} (h : ExRow g w0 w.drew A es) (o : Obj) : ExRow g w0 (w.alloc o).drew A es := h.alloc o
/-- tree.all at one expression, the nodes told by letters. -/
theorem all_one (g : Nat) (w0 : World) (e : Ex) (he : FlatOk e) (L M' : List Nd) (hM : M' = L ++ M.flat e) (n : Nat) (hn : n = M'.length) (hl : n ≤ 1000) (W : World) (b c : Nat) (v : Value) (hE : ExRow g w0 W (some ⟨b, 0, none⟩) [e]) (hb : Below w0.heap.size w0 W) (hN : Nds w0.heap.size W v L) :
    Calls Tryz.prog 262 #[v, .slice (some ⟨b, 0, none⟩) 1 c] W fun en w' => ∃ a' c', en = .returned (.slice a' n c') ∧ Nds w0.heap.size w' (.slice a' n c') M' ∧ Fr w0.heap.size W w' := by
  have e1 : L ++ [e].flatMap M.flat = M' := by rw [hM]; simp
  have h := flats_any g w0 W (some ⟨b, 0, none⟩) c v L [e] hE (by intro e' h'; simp at h'; subst h'; exact he) hb hN (by rw [← List.length_append, e1]; omega)
  rw [e1] at h
  refine h.mono ?_
  rintro en w' ⟨v', rfl, h1, h2⟩
  obtain ⟨a', c', rfl⟩ := h1.view
  rw [← hn] at h1 ⊢
  exact ⟨a', c', rfl, h1, h2⟩
theorem all_none (g : Nat) (w0 : World) (L : List Nd) (n : Nat) (hn : n = L.length) (hl : n ≤ 1000) (W : World) (v : Value) (hb : Below w0.heap.size w0 W) (hN : Nds w0.heap.size W v L) :
    Calls Tryz.prog 262 #[v, .slice none 0 0] W fun en w' => ∃ a' c', en = .returned (.slice a' n c') ∧ Nds w0.heap.size w' (.slice a' n c') L ∧ Fr w0.heap.size W w' := by
  have e1 : L ++ ([] : List Ex).flatMap M.flat = L := by simp
  have h := flats_any g w0 W none 0 v L [] (ExRow.nil _ _ _ _) (by intro e' h'; simp at h') hb hN (by rw [← List.length_append, e1]; omega)
  rw [e1] at h
  refine h.mono ?_
  rintro en w' ⟨v', rfl, h1, h2⟩
  obtain ⟨a', c', rfl⟩ := h1.view
  rw [← hn] at h1 ⊢
  exact ⟨a', c', rfl, h1, h2⟩

set_option maxRecDepth 20000 in
set_option maxHeartbeats 16000000 in
theorem flat_two (le : Ex) (o f q : Int) (r : Ex) (hle : FlatOk le) (hr : FlatOk r) : FlatOk (.two le o f q r) := by
  intro g w0 w T x v l hx hb hN hl
  obtain ⟨vl, vr, e, hL, hR⟩ := hx
  cases e
  show Calls Tryz.prog 267 _ w _
  obtain ⟨a, c, rfl⟩ := hN.view
  obtain ⟨Tl, xl, rfl⟩ := hL.face
  obtain ⟨Tr, xr, rfl⟩ := hR.face
  have hs := hb.size
  simp only [M.flat, List.length_cons, List.length_append] at hl
  obtain ⟨L3, e3⟩ : ∃ L3, L3 = l ++ [(⟨7, o, f, q, 0, [], ⟨#[]⟩⟩ : Nd)] := ⟨_, rfl⟩
  obtain ⟨L4, e4⟩ : ∃ L4, L4 = L3 ++ M.flat le := ⟨_, rfl⟩
  obtain ⟨L6, e6⟩ : ∃ L6, L6 = L4 ++ M.flat r := ⟨_, rfl⟩
  obtain ⟨n4, h4⟩ : ∃ n4, n4 = L4.length := ⟨_, rfl⟩
  obtain ⟨n6, h6⟩ : ∃ n6, n6 = L6.length := ⟨_, rfl⟩
  have hn3 : L3.length = l.length + 1 := by rw [e3]; simp
  have hn4 : n4 ≤ 1000 := by rw [h4, e4, List.length_append, hn3]; omega
  have hn6 : n6 ≤ 1000 := by rw [h6, e6, e4, List.length_append, List.length_append, hn3]; omega
  have hfin : L6 = l ++ M.flat (.two le o f q r) := by rw [e6, e4, e3]; simp [M.flat]
  have hl1 : l.length < 1000 := by omega
  have kA := all_one g w0 le hle L3 L4 e4 n4 h4 hn4
  have kB := all_none g w0 L4 n4 h4 hn4
  have kC := all_one g w0 r hr L4 L6 e6 n6 h6 hn6
  have hb1 : Below w.heap.size w (w.alloc (.cells #[.iface Tl xl, .int .i64 o, .int .i64 f, .int .i64 q, .int .i64 0, .slice none 0 0, .iface Tr xr] 130)).drew := ((Below.refl _ w).alloc (Nat.le_refl _) _).drew
  have N1 : Nds w0.heap.size (w.alloc (.cells #[.iface Tl xl, .int .i64 o, .int .i64 f, .int .i64 q, .int .i64 0, .slice none 0 0, .iface Tr xr] 130)).drew (.slice a l.length c) l := hN.below hb1
  have K1 : Kp w0.heap.size w.heap.size #[.iface Tl xl, .int .i64 o, .int .i64 f, .int .i64 q, .int .i64 0, .slice none 0 0, .iface Tr xr] 130 w (w.alloc (.cells #[.iface Tl xl, .int .i64 o, .int .i64 f, .int .i64 q, .int .i64 0, .slice none 0 0, .iface Tr xr] 130)).drew := ⟨Fr.of_below hb1 hs, heap_alloc_new w _, Nat.le_trans hs hb1.size⟩
  replace hb := Lib.hid hb
  replace kA := Lib.hid kA
  replace kB := Lib.hid kB
  replace kC := Lib.hid kC
  replace e3 := Lib.hid e3
  replace hfin := Lib.hid hfin
  clear hl hb1 hN e4 e6 h4 h6 hn3 hn4 hn6 hle hr
  obtain ⟨W1, hW1⟩ : ∃ W1 : World, W1 = w.alloc (.cells #[.iface Tl xl, .int .i64 o, .int .i64 f, .int .i64 q, .int .i64 0, .slice none 0 0, .iface Tr xr] 130) := ⟨_, rfl⟩
  rw [← hW1] at N1 K1
  have hW1' := Lib.hid hW1.symm
  replace hW1 := Lib.hid hW1
  go_enter Tryz.func267, Tryz.ntmps267
  go_upto_region 1 with fail
  rw [hW1'.out]
  generalize hN : w.heap.size = N at *
  have S1 := bx7 K1
  go_region_held3 (fun W => W.cell? ⟨N, 0, none⟩ = some (.iface Tl xl) ∧ W.cell? ⟨N, 1, none⟩ = some (.int .i64 o) ∧ W.cell? ⟨N, 2, none⟩ = some (.int .i64 f) ∧ W.cell? ⟨N, 3, none⟩ = some (.int .i64 q) ∧ W.cell? ⟨N, 4, none⟩ = some (.int .i64 0) ∧ W.cell? ⟨N, 5, none⟩ = some (.slice none 0 0) ∧ W.cell? ⟨N, 6, none⟩ = some (.iface Tr xr) ∧ Kp w0.heap.size N #[.iface Tl xl, .int .i64 o, .int .i64 f, .int .i64 q, .int .i64 0, .slice none 0 0, .iface Tr xr] 130 w W)
    (first | (with_reducible assumption) | (exact bx7 (Kp.fr (sK7 (by with_reducible assumption)) hF (by decide))) | (exact bx7 (Kp.alloc (sK7 (by with_reducible assumption)) (by decide) _)))
    (first
      | (go_at_call 266; refine (node_any o f q 7 _).mono ?_; rintro en w2 ⟨rfl, hb2⟩; have hF := Fr.of_below hb2 (sB7 (by with_reducible assumption)); have N2 : Nds w0.heap.size w2 (.slice a l.length c) l := Nds.below (by (first | (with_reducible first | assumption | exact Nds.alloc (by assumption) _ | exact Nds.alloc (Nds.alloc (by assumption) _) _ | exact Nds.dalloc (by assumption) _ | exact Nds.alloc (Nds.dalloc (by assumption) _) _ | exact Nds.dalloc (Nds.dalloc (by assumption) _) _) | (with_reducible exact Nds.alloc (Nds.alloc (Nds.alloc (by assumption) _) _) _))) hb2; (try (have R : ExRow g w0 w2 (some ⟨_, 0, none⟩) [r] := ExRow.fr (by (first | (with_reducible first | assumption | exact ExRow.alloc (by assumption) _ | exact ExRow.alloc (ExRow.alloc (by assumption) _) _ | exact exrow_new _ hR | exact exrow_dnew _ hR | exact ExRow.alloc (exrow_new _ hR) _ | exact ExRow.alloc (ExRow.alloc (exrow_new _ hR) _) _) | (with_reducible exact ExRow.dalloc (exrow_dnew _ hR) _) | (with_reducible exact ExRow.dalloc (by assumption) _))) hF)); (try simp only [World.size_alloc] at R); (try (have Q : ExRow g w0 w2 (some ⟨_, 0, none⟩) [le] := ExRow.fr (by (first | (with_reducible first | assumption | exact ExRow.alloc (by assumption) _ | exact ExRow.alloc (ExRow.alloc (by assumption) _) _ | exact exrow_new _ hL | exact exrow_dnew _ hL | exact ExRow.alloc (exrow_new _ hL) _ | exact ExRow.alloc (ExRow.alloc (exrow_new _ hL) _) _) | (with_reducible exact ExRow.dalloc (exrow_dnew _ hL) _) | (with_reducible exact ExRow.dalloc (by assumption) _))) hF)); (try simp only [World.size_alloc] at Q))
      | (refine step_app_N (o := { dst := some 10, op := .call { callee := .builtin .append, args := #[.tmp 5, .tmp 9], argTypes := #[50, 50] }, type := 50, pos := "tree.go:66", after := _, guard := none }) rfl (.tmp 5) (.tmp 9) rfl w0.heap.size (.slice a l.length c) l ⟨7, o, f, q, 0, [], ⟨#[]⟩⟩ (.slice none 0 0) _ rfl (by (first | (with_reducible first | assumption | exact Nds.alloc (by assumption) _ | exact Nds.alloc (Nds.alloc (by assumption) _) _ | exact Nds.dalloc (by assumption) _ | exact Nds.alloc (Nds.dalloc (by assumption) _) _ | exact Nds.dalloc (Nds.dalloc (by assumption) _) _) | (with_reducible exact Nds.alloc (Nds.alloc (Nds.alloc (by assumption) _) _) _))) rfl (by with_reducible first | exact nd_cells _ ⟨7, o, f, q, 0, [], ⟨#[]⟩⟩ (.slice none 0 0) 76 _ (by simp) | exact nd_cells2 _ ⟨7, o, f, q, 0, [], ⟨#[]⟩⟩ (.slice none 0 0) 76 _ _ (by simp) | exact nd_cells3 _ ⟨7, o, f, q, 0, [], ⟨#[]⟩⟩ (.slice none 0 0) 76 _ _ _ (by simp)) (Own.nil _ _) (by omega) (sB7 (by with_reducible assumption)) ?_; intro a3 c3 w3 N3 hF; rw [← e3.out] at N3; (try (have R : ExRow g w0 w3 (some ⟨_, 0, none⟩) [r] := ExRow.fr (by (first | (with_reducible first | assumption | exact ExRow.alloc (by assumption) _ | exact ExRow.alloc (ExRow.alloc (by assumption) _) _ | exact exrow_new _ hR | exact exrow_dnew _ hR | exact ExRow.alloc (exrow_new _ hR) _ | exact ExRow.alloc (ExRow.alloc (exrow_new _ hR) _) _) | (with_reducible exact ExRow.dalloc (exrow_dnew _ hR) _) | (with_reducible exact ExRow.dalloc (by assumption) _))) hF)); (try simp only [World.size_alloc] at R); (try (have Q : ExRow g w0 w3 (some ⟨_, 0, none⟩) [le] := ExRow.fr (by (first | (with_reducible first | assumption | exact ExRow.alloc (by assumption) _ | exact ExRow.alloc (ExRow.alloc (by assumption) _) _ | exact exrow_new _ hL | exact exrow_dnew _ hL | exact ExRow.alloc (exrow_new _ hL) _ | exact ExRow.alloc (ExRow.alloc (exrow_new _ hL) _) _) | (with_reducible exact ExRow.dalloc (exrow_dnew _ hL) _) | (with_reducible exact ExRow.dalloc (by assumption) _))) hF)); (try simp only [World.size_alloc] at Q))
      | (go_at_call_of 262 (Value.slice none 0 0); refine (kB.out _ _ (hb.out.trans (sL7 (by with_reducible assumption))) (by (first | (with_reducible first | assumption | exact Nds.alloc (by assumption) _ | exact Nds.alloc (Nds.alloc (by assumption) _) _ | exact Nds.dalloc (by assumption) _ | exact Nds.alloc (Nds.dalloc (by assumption) _) _ | exact Nds.dalloc (Nds.dalloc (by assumption) _) _) | (with_reducible exact Nds.alloc (Nds.alloc (Nds.alloc (by assumption) _) _) _)))).mono ?_; rintro en w5 ⟨a5, c5, rfl, N5, hF⟩; (try (have R : ExRow g w0 w5 (some ⟨_, 0, none⟩) [r] := ExRow.fr (by (first | (with_reducible first | assumption | exact ExRow.alloc (by assumption) _ | exact ExRow.alloc (ExRow.alloc (by assumption) _) _ | exact exrow_new _ hR | exact exrow_dnew _ hR | exact ExRow.alloc (exrow_new _ hR) _ | exact ExRow.alloc (ExRow.alloc (exrow_new _ hR) _) _) | (with_reducible exact ExRow.dalloc (exrow_dnew _ hR) _) | (with_reducible exact ExRow.dalloc (by assumption) _))) hF)); (try simp only [World.size_alloc] at R); (try (have Q : ExRow g w0 w5 (some ⟨_, 0, none⟩) [le] := ExRow.fr (by (first | (with_reducible first | assumption | exact ExRow.alloc (by assumption) _ | exact ExRow.alloc (ExRow.alloc (by assumption) _) _ | exact exrow_new _ hL | exact exrow_dnew _ hL | exact ExRow.alloc (exrow_new _ hL) _ | exact ExRow.alloc (ExRow.alloc (exrow_new _ hL) _) _) | (with_reducible exact ExRow.dalloc (exrow_dnew _ hL) _) | (with_reducible exact ExRow.dalloc (by assumption) _))) hF)); (try simp only [World.size_alloc] at Q))
      | (go_at_call 262; refine (kA.out _ _ _ _ (by (first | (with_reducible first | assumption | exact ExRow.alloc (by assumption) _ | exact ExRow.alloc (ExRow.alloc (by assumption) _) _ | exact exrow_new _ hL | exact exrow_dnew _ hL | exact ExRow.alloc (exrow_new _ hL) _ | exact ExRow.alloc (ExRow.alloc (exrow_new _ hL) _) _) | (with_reducible exact exrow_newb _ (by simp) hL) | (with_reducible exact ExRow.alloc (exrow_newb _ (by simp) hL) _))) (hb.out.trans (sL7 (by with_reducible assumption))) (by (first | (with_reducible first | assumption | exact Nds.alloc (by assumption) _ | exact Nds.alloc (Nds.alloc (by assumption) _) _ | exact Nds.dalloc (by assumption) _ | exact Nds.alloc (Nds.dalloc (by assumption) _) _ | exact Nds.dalloc (Nds.dalloc (by assumption) _) _) | (with_reducible exact Nds.alloc (Nds.alloc (Nds.alloc (by assumption) _) _) _)))).mono ?_; rintro en w4 ⟨a4, c4, rfl, N4, hF⟩; (try (have R : ExRow g w0 w4 (some ⟨_, 0, none⟩) [r] := ExRow.fr (by (first | (with_reducible first | assumption | exact ExRow.alloc (by assumption) _ | exact ExRow.alloc (ExRow.alloc (by assumption) _) _ | exact exrow_new _ hR | exact exrow_dnew _ hR | exact ExRow.alloc (exrow_new _ hR) _ | exact ExRow.alloc (ExRow.alloc (exrow_new _ hR) _) _) | (with_reducible exact ExRow.dalloc (exrow_dnew _ hR) _) | (with_reducible exact ExRow.dalloc (by assumption) _))) hF)); (try simp only [World.size_alloc] at R); (try (have Q : ExRow g w0 w4 (some ⟨_, 0, none⟩) [le] := ExRow.fr (by (first | (with_reducible first | assumption | exact ExRow.alloc (by assumption) _ | exact ExRow.alloc (ExRow.alloc (by assumption) _) _ | exact exrow_new _ hL | exact exrow_dnew _ hL | exact ExRow.alloc (exrow_new _ hL) _ | exact ExRow.alloc (ExRow.alloc (exrow_new _ hL) _) _) | (with_reducible exact ExRow.dalloc (exrow_dnew _ hL) _) | (with_reducible exact ExRow.dalloc (by assumption) _))) hF)); (try simp only [World.size_alloc] at Q))
      | (go_at_call 262; refine (kC.out _ _ _ _ (by (first | (with_reducible first | assumption | exact ExRow.alloc (by assumption) _ | exact ExRow.alloc (ExRow.alloc (by assumption) _) _ | exact exrow_new _ hR | exact exrow_dnew _ hR | exact ExRow.alloc (exrow_new _ hR) _ | exact ExRow.alloc (ExRow.alloc (exrow_new _ hR) _) _) | (with_reducible exact exrow_newb _ (by simp) hR) | (with_reducible exact ExRow.alloc (exrow_newb _ (by simp) hR) _))) (hb.out.trans (sL7 (by with_reducible assumption))) (by (first | (with_reducible first | assumption | exact Nds.alloc (by assumption) _ | exact Nds.alloc (Nds.alloc (by assumption) _) _ | exact Nds.dalloc (by assumption) _ | exact Nds.alloc (Nds.dalloc (by assumption) _) _ | exact Nds.dalloc (Nds.dalloc (by assumption) _) _) | (with_reducible exact Nds.alloc (Nds.alloc (Nds.alloc (by assumption) _) _) _)))).mono ?_; rintro en w6 ⟨a6, c6, rfl, N6, hF⟩))
  all_goals (go_wp2; go_ret; exact ⟨_, rfl, by rw [← hfin.out]; exact N6, sF7 (by with_reducible assumption)⟩)
end Go.Proofs.YtaplaoelamnoiaaGreatDoor
