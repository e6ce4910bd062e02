/- Texts that lie in one file: what is plain, rows, boxes, squares, and what is known of a world. No condition. -/
import Derived.Test.YtaplaoelamnoiaaGreatDoorBg08
import Derived.BigQuiet
import Derived.Tactics
import Derived.Tactics2
import Derived.Defers
import Derived.Recover
import Derived.Laws.Pointers
/- The method flat of a function at one argument. Condition: as in TrFlat. -/
namespace Go.Proofs.YtaplaoelamnoiaaGreatDoor
open Go.RowKit

/-- A box whose block is known whole, beside nodes. -/
def Kp (B N : Nat) (vs : Array Value) (t : TypeId) (w W : World) : Prop := Fr B w W ∧ W.heap[N]? = some (.cells vs t (0, 0)) ∧ B ≤ W.heap.size
theorem Kp.fr {B N : Nat} {vs : Array Value} {t : TypeId} {w W W' : World} (h : Kp B N vs t w W) (k : Fr B W W') (ht : t ≠ 76) : Kp B N vs t w W' :=
  ⟨h.1.trans k, k.cells h.2.1 ht, Nat.le_trans h.2.2 k.1.size⟩
theorem Kp.alloc {B N : Nat} {vs : Array Value} {t : TypeId} {w W : World} (h : Kp B N vs t w W) (ht : t ≠ 76) (o : Obj) : Kp B N vs t w (W.alloc o) :=
  h.fr (Fr.of_below ((Below.refl _ W).alloc (Nat.le_refl _) o) h.2.2) ht
theorem Kp.cell {B N : Nat} {vs : Array Value} {t : TypeId} {w W : World} (h : Kp B N vs t w W) (j : Nat) (v : Value) (hv : vs[j]? = some v) : W.cell? ⟨N, j, none⟩ = some v := by
  rw [cell_of_row W N j vs t (0, 0) h.2.1]
  exact hv
theorem ExRow.alloc {g : Nat} {w0 w : World} {A : Option Addr} {es : List Ex} (h : ExRow g w0 w A es) (o : Obj) : ExRow g w0 (w.alloc o) A es := h.fr (B := w.heap.size) (Fr.of_below ((Below.refl _ w).alloc (Nat.le_refl _) o) (Nat.le_refl _))
theorem exrow_new {g : Nat} {w0 : World} (X : World) {T : TypeId} {x : Value} {e : Ex} (h : ExV g w0 e (.iface T x)) : ExRow g w0 (X.alloc (.cells #[.iface T x] 67)) (some ⟨X.heap.size, 0, none⟩) [e] := by
  intro i e' he
  cases i with
  | succ i => simp at he
  | zero =>
    simp at he
    subst he
    exact ⟨X.heap.size, #[.iface T x], (0, 0), T, x, rfl, heap_alloc_new X _, rfl, h⟩
theorem nd_cells2 (w : World) (x : Nd) (sv : Value) (t : TypeId) (o : Obj) (b : Nat) (hb : b = w.heap.size) : ∀ j u, (x.cells sv)[j]? = some u → ((w.alloc (.cells #[.int .i64 x.op, .int .i64 x.ao, .int .i64 x.af, .int .i64 x.ag, .int .i64 x.n, sv, .string x.text] t)).alloc o).cell? ⟨b, j, none⟩ = some u := fun j u h => by
  have e : ((w.alloc (.cells #[.int .i64 x.op, .int .i64 x.ao, .int .i64 x.af, .int .i64 x.ag, .int .i64 x.n, sv, .string x.text] t)).alloc o).heap[b]? = (w.alloc (.cells #[.int .i64 x.op, .int .i64 x.ao, .int .i64 x.af, .int .i64 x.ag, .int .i64 x.n, sv, .string x.text] t)).heap[b]? := heap_alloc_old _ _ (by rw [hb]; simp)
  exact (cell_of_eq e j).trans (nd_cells w x sv t b hb j u h)

theorem Nds.dalloc {B : Nat} {w : World} {v : Value} {l : List Nd} (h : Nds B w.drew v l) (o : Obj) : Nds B (w.alloc o).drew v l := h.alloc o
theorem exrow_dnew {g : Nat} {w0 : World} (X : World) {T : TypeId} {x : Value} {e : Ex} (h : ExV g w0 e (.iface T x)) : ExRow g w0 (X.alloc (.cells #[.iface T x] 67)).drew (some ⟨X.heap.size, 0, none⟩) [e] := exrow_new X.drew h

theorem bx6 {B N : Nat} {v0 v1 v2 v3 v4 v5 : Value} {t : TypeId} {w W : World} (h : Kp B N #[v0, v1, v2, v3, v4, v5] t w W) : W.cell? ⟨N, 0, none⟩ = some v0 ∧ W.cell? ⟨N, 1, none⟩ = some v1 ∧ W.cell? ⟨N, 2, none⟩ = some v2 ∧ W.cell? ⟨N, 3, none⟩ = some v3 ∧ W.cell? ⟨N, 4, none⟩ = some v4 ∧ W.cell? ⟨N, 5, none⟩ = some v5 ∧ Kp B N #[v0, v1, v2, v3, v4, v5] t w W :=
  ⟨h.cell 0 _ rfl, h.cell 1 _ rfl, h.cell 2 _ rfl, h.cell 3 _ rfl, h.cell 4 _ rfl, h.cell 5 _ rfl, h⟩
theorem sK6 {B N : Nat} {v0 v1 v2 v3 v4 v5 : Value} {t : TypeId} {w W : World} (h : W.cell? ⟨N, 0, none⟩ = some v0 ∧ W.cell? ⟨N, 1, none⟩ = some v1 ∧ W.cell? ⟨N, 2, none⟩ = some v2 ∧ W.cell? ⟨N, 3, none⟩ = some v3 ∧ W.cell? ⟨N, 4, none⟩ = some v4 ∧ W.cell? ⟨N, 5, none⟩ = some v5 ∧ Kp B N #[v0, v1, v2, v3, v4, v5] t w W) : Kp B N #[v0, v1, v2, v3, v4, v5] t w W := h.2.2.2.2.2.2
theorem sB6 {B N : Nat} {v0 v1 v2 v3 v4 v5 : Value} {t : TypeId} {w W : World} (h : W.cell? ⟨N, 0, none⟩ = some v0 ∧ W.cell? ⟨N, 1, none⟩ = some v1 ∧ W.cell? ⟨N, 2, none⟩ = some v2 ∧ W.cell? ⟨N, 3, none⟩ = some v3 ∧ W.cell? ⟨N, 4, none⟩ = some v4 ∧ W.cell? ⟨N, 5, none⟩ = some v5 ∧ Kp B N #[v0, v1, v2, v3, v4, v5] t w W) : B ≤ W.heap.size := h.2.2.2.2.2.2.2.2
theorem sL6 {B N : Nat} {v0 v1 v2 v3 v4 v5 : Value} {t : TypeId} {w W : World} (h : W.cell? ⟨N, 0, none⟩ = some v0 ∧ W.cell? ⟨N, 1, none⟩ = some v1 ∧ W.cell? ⟨N, 2, none⟩ = some v2 ∧ W.cell? ⟨N, 3, none⟩ = some v3 ∧ W.cell? ⟨N, 4, none⟩ = some v4 ∧ W.cell? ⟨N, 5, none⟩ = some v5 ∧ Kp B N #[v0, v1, v2, v3, v4, v5] t w W) : Below B w W := h.2.2.2.2.2.2.1.1
theorem sF6 {B N : Nat} {v0 v1 v2 v3 v4 v5 : Value} {t : TypeId} {w W : World} (h : W.cell? ⟨N, 0, none⟩ = some v0 ∧ W.cell? ⟨N, 1, none⟩ = some v1 ∧ W.cell? ⟨N, 2, none⟩ = some v2 ∧ W.cell? ⟨N, 3, none⟩ = some v3 ∧ W.cell? ⟨N, 4, none⟩ = some v4 ∧ W.cell? ⟨N, 5, none⟩ = some v5 ∧ Kp B N #[v0, v1, v2, v3, v4, v5] t w W) : Fr B w W := h.2.2.2.2.2.2.1

set_option maxRecDepth 20000 in
set_option maxHeartbeats 16000000 in
theorem flat_one (o f q : Int) (r : Ex) (hr : FlatOk r) : FlatOk (.one o f q r) := by
  intro g w0 w T x v l hx hb hN hl
  obtain ⟨vr, e, hR⟩ := hx
  cases e
  show Calls Tryz.prog 265 _ w _
  obtain ⟨a, c, rfl⟩ := hN.view
  obtain ⟨Tr, xr, rfl⟩ := hR.face
  have hs := hb.size
  have hl1 : l.length < 1000 := by simp only [M.flat, List.length_cons] at hl; omega
  have hl2 : (l ++ [(⟨6, o, f, q, 0, [], ⟨#[]⟩⟩ : Nd)]).length + ([] : List Nd).length ≤ 1000 := by simp; omega
  have hl3 : (l ++ [(⟨6, o, f, q, 0, [], ⟨#[]⟩⟩ : Nd)]).length + ([r].flatMap M.flat).length ≤ 1000 := by simp [M.flat] at hl ⊢; omega
  have hb1 : Below w.heap.size w (w.alloc (.cells #[.int .i64 o, .int .i64 f, .int .i64 q, .int .i64 0, .slice none 0 0, .iface Tr xr] 128)).drew := ((Below.refl _ w).alloc (Nat.le_refl _) _).drew
  have N1 : Nds w0.heap.size (w.alloc (.cells #[.int .i64 o, .int .i64 f, .int .i64 q, .int .i64 0, .slice none 0 0, .iface Tr xr] 128)).drew (.slice a l.length c) l := hN.below hb1
  have K1 : Kp w0.heap.size w.heap.size #[.int .i64 o, .int .i64 f, .int .i64 q, .int .i64 0, .slice none 0 0, .iface Tr xr] 128 w (w.alloc (.cells #[.int .i64 o, .int .i64 f, .int .i64 q, .int .i64 0, .slice none 0 0, .iface Tr xr] 128)).drew := ⟨Fr.of_below hb1 hs, heap_alloc_new w _, Nat.le_trans hs hb1.size⟩
  have hFr : ∀ e ∈ [r], FlatOk e := by intro e he; simp at he; subst he; exact hr
  have hFn : ∀ e ∈ ([] : List Ex), FlatOk e := by intro e he; simp at he
  replace hb := Lib.hid hb
  clear hl hb1 hN
  obtain ⟨W1, hW1⟩ : ∃ W1 : World, W1 = w.alloc (.cells #[.int .i64 o, .int .i64 f, .int .i64 q, .int .i64 0, .slice none 0 0, .iface Tr xr] 128) := ⟨_, rfl⟩
  rw [← hW1] at N1 K1
  have hW1' := Lib.hid hW1.symm
  replace hW1 := Lib.hid hW1
  go_enter Tryz.func265, Tryz.ntmps265
  go_upto_region 1 with fail
  rw [hW1'.out]
  generalize hN : w.heap.size = N at *
  have S1 := bx6 K1
  go_region_held3 (fun W => W.cell? ⟨N, 0, none⟩ = some (.int .i64 o) ∧ W.cell? ⟨N, 1, none⟩ = some (.int .i64 f) ∧ W.cell? ⟨N, 2, none⟩ = some (.int .i64 q) ∧ W.cell? ⟨N, 3, none⟩ = some (.int .i64 0) ∧ W.cell? ⟨N, 4, none⟩ = some (.slice none 0 0) ∧ W.cell? ⟨N, 5, none⟩ = some (.iface Tr xr) ∧ Kp w0.heap.size N #[.int .i64 o, .int .i64 f, .int .i64 q, .int .i64 0, .slice none 0 0, .iface Tr xr] 128 w W)
    (first | (with_reducible assumption) | (exact bx6 (Kp.fr (sK6 (by with_reducible assumption)) hF (by decide))) | (exact bx6 (Kp.alloc (sK6 (by with_reducible assumption)) (by decide) _)))
    (first
      | (refine step_app_N (o := { dst := some 10, op := .call { callee := .builtin .append, args := #[.tmp 5, .tmp 9], argTypes := #[50, 50] }, type := 50, pos := "tree.go:62", after := _, guard := none }) rfl (.tmp 5) (.tmp 9) rfl w0.heap.size (.slice a l.length c) l ⟨6, o, f, q, 0, [], ⟨#[]⟩⟩ (.slice none 0 0) _ rfl (by (with_reducible first | assumption | exact Nds.alloc (by assumption) _ | exact Nds.alloc (Nds.alloc (by assumption) _) _ | exact Nds.dalloc (by assumption) _ | exact Nds.alloc (Nds.dalloc (by assumption) _) _ | exact Nds.dalloc (Nds.dalloc (by assumption) _) _)) rfl (by with_reducible first | exact nd_cells _ ⟨6, o, f, q, 0, [], ⟨#[]⟩⟩ (.slice none 0 0) 76 _ (by simp) | exact nd_cells2 _ ⟨6, o, f, q, 0, [], ⟨#[]⟩⟩ (.slice none 0 0) 76 _ _ (by simp)) (Own.nil _ _) (by omega) (sB6 (by with_reducible assumption)) ?_; intro a3 c3 w3 N3 hF; (try (have R : ExRow g w0 w3 (some ⟨_, 0, none⟩) [r] := ExRow.fr (by (with_reducible first | assumption | exact ExRow.alloc (by assumption) _ | exact ExRow.alloc (ExRow.alloc (by assumption) _) _ | exact exrow_new _ hR | exact exrow_dnew _ hR | exact ExRow.alloc (exrow_new _ hR) _ | exact ExRow.alloc (ExRow.alloc (exrow_new _ hR) _) _)) hF)); (try simp only [World.size_alloc] at R))
      | (go_at_call_of 262 (Value.slice none 0 0); refine (flats_any g w0 _ none 0 _ (l ++ [⟨6, o, f, q, 0, [], ⟨#[]⟩⟩]) [] (ExRow.nil _ _ _ _) hFn (hb.out.trans (sL6 (by with_reducible assumption))) (by (with_reducible first | assumption | exact Nds.alloc (by assumption) _ | exact Nds.alloc (Nds.alloc (by assumption) _) _ | exact Nds.dalloc (by assumption) _ | exact Nds.alloc (Nds.dalloc (by assumption) _) _ | exact Nds.dalloc (Nds.dalloc (by assumption) _) _)) hl2).mono ?_; rintro en w4 ⟨v4, rfl, N4, hF⟩; rw [List.flatMap_nil, List.append_nil] at N4; obtain ⟨a4, c4, rfl⟩ := N4.view; simp only [List.length_append, List.length_singleton] at N4; (try (have R : ExRow g w0 w4 (some ⟨_, 0, none⟩) [r] := ExRow.fr (by (with_reducible first | assumption | exact ExRow.alloc (by assumption) _ | exact ExRow.alloc (ExRow.alloc (by assumption) _) _ | exact exrow_new _ hR | exact exrow_dnew _ hR | exact ExRow.alloc (exrow_new _ hR) _ | exact ExRow.alloc (ExRow.alloc (exrow_new _ hR) _) _)) hF)); (try simp only [World.size_alloc] at R))
      | (go_at_call 266; refine (node_any o f q 6 _).mono ?_; rintro en w2 ⟨rfl, hb2⟩; have hF := Fr.of_below hb2 (sB6 (by with_reducible assumption)); have N2 : Nds w0.heap.size w2 (.slice a l.length c) l := Nds.below (by (with_reducible first | assumption | exact Nds.alloc (by assumption) _ | exact Nds.alloc (Nds.alloc (by assumption) _) _ | exact Nds.dalloc (by assumption) _ | exact Nds.alloc (Nds.dalloc (by assumption) _) _ | exact Nds.dalloc (Nds.dalloc (by assumption) _) _)) hb2; (try (have R : ExRow g w0 w2 (some ⟨_, 0, none⟩) [r] := ExRow.fr (by (with_reducible first | assumption | exact ExRow.alloc (by assumption) _ | exact ExRow.alloc (ExRow.alloc (by assumption) _) _ | exact exrow_new _ hR | exact exrow_dnew _ hR | exact ExRow.alloc (exrow_new _ hR) _ | exact ExRow.alloc (ExRow.alloc (exrow_new _ hR) _) _)) hF)); (try simp only [World.size_alloc] at R))
      | (go_at_call 262; refine (flats_any g w0 _ (some ⟨_, 0, none⟩) 1 _ (l ++ [⟨6, o, f, q, 0, [], ⟨#[]⟩⟩]) [r] (by (with_reducible first | assumption | exact ExRow.alloc (by assumption) _ | exact ExRow.alloc (ExRow.alloc (by assumption) _) _ | exact exrow_new _ hR | exact exrow_dnew _ hR | exact ExRow.alloc (exrow_new _ hR) _ | exact ExRow.alloc (ExRow.alloc (exrow_new _ hR) _) _)) hFr (hb.out.trans (sL6 (by with_reducible assumption))) (by (with_reducible first | assumption | exact Nds.alloc (by assumption) _ | exact Nds.alloc (Nds.alloc (by assumption) _) _ | exact Nds.dalloc (by assumption) _ | exact Nds.alloc (Nds.dalloc (by assumption) _) _ | exact Nds.dalloc (Nds.dalloc (by assumption) _) _)) hl3).mono ?_; rintro en w5 ⟨v5, rfl, N5, hF⟩; obtain ⟨a5, c5, rfl⟩ := N5.view))
  all_goals (go_wp2; go_ret; exact ⟨_, rfl, by simpa [M.flat] using N5, sF6 (by with_reducible assumption)⟩)
end Go.Proofs.YtaplaoelamnoiaaGreatDoor

/- The method flat of a function at two arguments. Condition: as in TrFlat. -/
namespace Go.Proofs.YtaplaoelamnoiaaGreatDoor
open Go.RowKit

theorem bx7 {B N : Nat} {v0 v1 v2 v3 v4 v5 v6 : Value} {t : TypeId} {w W : World} (h : Kp B N #[v0, v1, v2, v3, v4, v5, v6] t w W) : W.cell? ⟨N, 0, none⟩ = some v0 ∧ W.cell? ⟨N, 1, none⟩ = some v1 ∧ W.cell? ⟨N, 2, none⟩ = some v2 ∧ W.cell? ⟨N, 3, none⟩ = some v3 ∧ W.cell? ⟨N, 4, none⟩ = some v4 ∧ W.cell? ⟨N, 5, none⟩ = some v5 ∧ W.cell? ⟨N, 6, none⟩ = some v6 ∧ Kp B N #[v0, v1, v2, v3, v4, v5, v6] t w W :=
  ⟨h.cell 0 _ rfl, h.cell 1 _ rfl, h.cell 2 _ rfl, h.cell 3 _ rfl, h.cell 4 _ rfl, h.cell 5 _ rfl, h.cell 6 _ rfl, h⟩
theorem sK7 {B N : Nat} {v0 v1 v2 v3 v4 v5 v6 : Value} {t : TypeId} {w W : World} (h : W.cell? ⟨N, 0, none⟩ = some v0 ∧ W.cell? ⟨N, 1, none⟩ = some v1 ∧ W.cell? ⟨N, 2, none⟩ = some v2 ∧ W.cell? ⟨N, 3, none⟩ = some v3 ∧ W.cell? ⟨N, 4, none⟩ = some v4 ∧ W.cell? ⟨N, 5, none⟩ = some v5 ∧ W.cell? ⟨N, 6, none⟩ = some v6 ∧ Kp B N #[v0, v1, v2, v3, v4, v5, v6] t w W) : Kp B N #[v0, v1, v2, v3, v4, v5, v6] t w W := h.2.2.2.2.2.2.2
theorem sB7 {B N : Nat} {v0 v1 v2 v3 v4 v5 v6 : Value} {t : TypeId} {w W : World} (h : W.cell? ⟨N, 0, none⟩ = some v0 ∧ W.cell? ⟨N, 1, none⟩ = some v1 ∧ W.cell? ⟨N, 2, none⟩ = some v2 ∧ W.cell? ⟨N, 3, none⟩ = some v3 ∧ W.cell? ⟨N, 4, none⟩ = some v4 ∧ W.cell? ⟨N, 5, none⟩ = some v5 ∧ W.cell? ⟨N, 6, none⟩ = some v6 ∧ Kp B N #[v0, v1, v2, v3, v4, v5, v6] t w W) : B ≤ W.heap.size := h.2.2.2.2.2.2.2.2.2
theorem sL7 {B N : Nat} {v0 v1 v2 v3 v4 v5 v6 : Value} {t : TypeId} {w W : World} (h : W.cell? ⟨N, 0, none⟩ = some v0 ∧ W.cell? ⟨N, 1, none⟩ = some v1 ∧ W.cell? ⟨N, 2, none⟩ = some v2 ∧ W.cell? ⟨N, 3, none⟩ = some v3 ∧ W.cell? ⟨N, 4, none⟩ = some v4 ∧ W.cell? ⟨N, 5, none⟩ = some v5 ∧ W.cell? ⟨N, 6, none⟩ = some v6 ∧ Kp B N #[v0, v1, v2, v3, v4, v5, v6] t w W) : Below B w W := h.2.2.2.2.2.2.2.1.1
theorem sF7 {B N : Nat} {v0 v1 v2 v3 v4 v5 v6 : Value} {t : TypeId} {w W : World} (h : W.cell? ⟨N, 0, none⟩ = some v0 ∧ W.cell? ⟨N, 1, none⟩ = some v1 ∧ W.cell? ⟨N, 2, none⟩ = some v2 ∧ W.cell? ⟨N, 3, none⟩ = some v3 ∧ W.cell? ⟨N, 4, none⟩ = some v4 ∧ W.cell? ⟨N, 5, none⟩ = some v5 ∧ W.cell? ⟨N, 6, none⟩ = some v6 ∧ Kp B N #[v0, v1, v2, v3, v4, v5, v6] t w W) : Fr B w W := h.2.2.2.2.2.2.2.1

theorem nd_cells3 (w : World) (x : Nd) (sv : Value) (t : TypeId) (o o' : Obj) (b : Nat) (hb : b = w.heap.size) : ∀ j u, (x.cells sv)[j]? = some u → (((w.alloc (.cells #[.int .i64 x.op, .int .i64 x.ao, .int .i64 x.af, .int .i64 x.ag, .int .i64 x.n, sv, .string x.text] t)).alloc o).alloc o').cell? ⟨b, j, none⟩ = some u := fun j u h => by
  have e : (((w.alloc (.cells #[.int .i64 x.op, .int .i64 x.ao, .int .i64 x.af, .int .i64 x.ag, .int .i64 x.n, sv, .string x.text] t)).alloc o).alloc o').heap[b]? = ((w.alloc (.cells #[.int .i64 x.op, .int .i64 x.ao, .int .i64 x.af, .int .i64 x.ag, .int .i64 x.n, sv, .string x.text] t)).alloc o).heap[b]? := heap_alloc_old _ _ (by rw [hb]; simp; omega)
  exact (cell_of_eq e j).trans (nd_cells2 w x sv t o b hb j u h)
theorem exrow_newb {g : Nat} {w0 : World} (X : World) {T : TypeId} {x : Value} {e : Ex} {b : Nat} (hb : b = X.heap.size) (h : ExV g w0 e (.iface T x)) : ExRow g w0 (X.alloc (.cells #[.iface T x] 67)) (some ⟨b, 0, none⟩) [e] := by
  subst hb
  exact exrow_new X h
theorem ExRow.dalloc {g : Nat} {w0 w : World} {A : Option Addr} {es : List Ex} (h : ExRow g w0 w.drew A es) (o : Obj) : ExRow g w0 (w.alloc o).drew A es := h.alloc o
/-- tree.all at one expression, the nodes told by letters. -/
theorem all_one (g : Nat) (w0 : World) (e : Ex) (he : FlatOk e) (L M' : List Nd) (hM : M' = L ++ M.flat e) (n : Nat) (hn : n = M'.length) (hl : n ≤ 1000) (W : World) (b c : Nat) (v : Value) (hE : ExRow g w0 W (some ⟨b, 0, none⟩) [e]) (hb : Below w0.heap.size w0 W) (hN : Nds w0.heap.size W v L) :
    Calls Tryz.prog 262 #[v, .slice (some ⟨b, 0, none⟩) 1 c] W fun en w' => ∃ a' c', en = .returned (.slice a' n c') ∧ Nds w0.heap.size w' (.slice a' n c') M' ∧ Fr w0.heap.size W w' := by
  have e1 : L ++ [e].flatMap M.flat = M' := by rw [hM]; simp
  have h := flats_any g w0 W (some ⟨b, 0, none⟩) c v L [e] hE (by intro e' h'; simp at h'; subst h'; exact he) hb hN (by rw [← List.length_append, e1]; omega)
  rw [e1] at h
  refine h.mono ?_
  rintro en w' ⟨v', rfl, h1, h2⟩
  obtain ⟨a', c', rfl⟩ := h1.view
  rw [← hn] at h1 ⊢
  exact ⟨a', c', rfl, h1, h2⟩
theorem all_none (g : Nat) (w0 : World) (L : List Nd) (n : Nat) (hn : n = L.length) (hl : n ≤ 1000) (W : World) (v : Value) (hb : Below w0.heap.size w0 W) (hN : Nds w0.heap.size W v L) :
    Calls Tryz.prog 262 #[v, .slice none 0 0] W fun en w' => ∃ a' c', en = .returned (.slice a' n c') ∧ Nds w0.heap.size w' (.slice a' n c') L ∧ Fr w0.heap.size W w' := by
  have e1 : L ++ ([] : List Ex).flatMap M.flat = L := by simp
  have h := flats_any g w0 W none 0 v L [] (ExRow.nil _ _ _ _) (by intro e' h'; simp at h') hb hN (by rw [← List.length_append, e1]; omega)
  rw [e1] at h
  refine h.mono ?_
  rintro en w' ⟨v', rfl, h1, h2⟩
  obtain ⟨a', c', rfl⟩ := h1.view
  rw [← hn] at h1 ⊢
  exact ⟨a', c', rfl, h1, h2⟩

set_option maxRecDepth 20000 in
set_option maxHeartbeats 16000000 in
theorem flat_two (le : Ex) (o f q : Int) (r : Ex) (hle : FlatOk le) (hr : FlatOk r) : FlatOk (.two le o f q r) := by
  intro g w0 w T x v l hx hb hN hl
  obtain ⟨vl, vr, e, hL, hR⟩ := hx
  cases e
  show Calls Tryz.prog 267 _ w _
  obtain ⟨a, c, rfl⟩ := hN.view
  obtain ⟨Tl, xl, rfl⟩ := hL.face
  obtain ⟨Tr, xr, rfl⟩ := hR.face
  have hs := hb.size
  simp only [M.flat, List.length_cons, List.length_append] at hl
  obtain ⟨L3, e3⟩ : ∃ L3, L3 = l ++ [(⟨7, o, f, q, 0, [], ⟨#[]⟩⟩ : Nd)] := ⟨_, rfl⟩
  obtain ⟨L4, e4⟩ : ∃ L4, L4 = L3 ++ M.flat le := ⟨_, rfl⟩
  obtain ⟨L6, e6⟩ : ∃ L6, L6 = L4 ++ M.flat r := ⟨_, rfl⟩
  obtain ⟨n4, h4⟩ : ∃ n4, n4 = L4.length := ⟨_, rfl⟩
  obtain ⟨n6, h6⟩ : ∃ n6, n6 = L6.length := ⟨_, rfl⟩
  have hn3 : L3.length = l.length + 1 := by rw [e3]; simp
  have hn4 : n4 ≤ 1000 := by rw [h4, e4, List.length_append, hn3]; omega
  have hn6 : n6 ≤ 1000 := by rw [h6, e6, e4, List.length_append, List.length_append, hn3]; omega
  have hfin : L6 = l ++ M.flat (.two le o f q r) := by rw [e6, e4, e3]; simp [M.flat]
  have hl1 : l.length < 1000 := by omega
  have kA := all_one g w0 le hle L3 L4 e4 n4 h4 hn4
  have kB := all_none g w0 L4 n4 h4 hn4
  have kC := all_one g w0 r hr L4 L6 e6 n6 h6 hn6
  have hb1 : Below w.heap.size w (w.alloc (.cells #[.iface Tl xl, .int .i64 o, .int .i64 f, .int .i64 q, .int .i64 0, .slice none 0 0, .iface Tr xr] 130)).drew := ((Below.refl _ w).alloc (Nat.le_refl _) _).drew
  have N1 : Nds w0.heap.size (w.alloc (.cells #[.iface Tl xl, .int .i64 o, .int .i64 f, .int .i64 q, .int .i64 0, .slice none 0 0, .iface Tr xr] 130)).drew (.slice a l.length c) l := hN.below hb1
  have K1 : Kp w0.heap.size w.heap.size #[.iface Tl xl, .int .i64 o, .int .i64 f, .int .i64 q, .int .i64 0, .slice none 0 0, .iface Tr xr] 130 w (w.alloc (.cells #[.iface Tl xl, .int .i64 o, .int .i64 f, .int .i64 q, .int .i64 0, .slice none 0 0, .iface Tr xr] 130)).drew := ⟨Fr.of_below hb1 hs, heap_alloc_new w _, Nat.le_trans hs hb1.size⟩
  replace hb := Lib.hid hb
  replace kA := Lib.hid kA
  replace kB := Lib.hid kB
  replace kC := Lib.hid kC
  replace e3 := Lib.hid e3
  replace hfin := Lib.hid hfin
  clear hl hb1 hN e4 e6 h4 h6 hn3 hn4 hn6 hle hr
  obtain ⟨W1, hW1⟩ : ∃ W1 : World, W1 = w.alloc (.cells #[.iface Tl xl, .int .i64 o, .int .i64 f, .int .i64 q, .int .i64 0, .slice none 0 0, .iface Tr xr] 130) := ⟨_, rfl⟩
  rw [← hW1] at N1 K1
  have hW1' := Lib.hid hW1.symm
  replace hW1 := Lib.hid hW1
  go_enter Tryz.func267, Tryz.ntmps267
  go_upto_region 1 with fail
  rw [hW1'.out]
  generalize hN : w.heap.size = N at *
  have S1 := bx7 K1
  go_region_held3 (fun W => W.cell? ⟨N, 0, none⟩ = some (.iface Tl xl) ∧ W.cell? ⟨N, 1, none⟩ = some (.int .i64 o) ∧ W.cell? ⟨N, 2, none⟩ = some (.int .i64 f) ∧ W.cell? ⟨N, 3, none⟩ = some (.int .i64 q) ∧ W.cell? ⟨N, 4, none⟩ = some (.int .i64 0) ∧ W.cell? ⟨N, 5, none⟩ = some (.slice none 0 0) ∧ W.cell? ⟨N, 6, none⟩ = some (.iface Tr xr) ∧ Kp w0.heap.size N #[.iface Tl xl, .int .i64 o, .int .i64 f, .int .i64 q, .int .i64 0, .slice none 0 0, .iface Tr xr] 130 w W)
    (first | (with_reducible assumption) | (exact bx7 (Kp.fr (sK7 (by with_reducible assumption)) hF (by decide))) | (exact bx7 (Kp.alloc (sK7 (by with_reducible assumption)) (by decide) _)))
    (first
      | (go_at_call 266; refine (node_any o f q 7 _).mono ?_; rintro en w2 ⟨rfl, hb2⟩; have hF := Fr.of_below hb2 (sB7 (by with_reducible assumption)); have N2 : Nds w0.heap.size w2 (.slice a l.length c) l := Nds.below (by (first | (with_reducible first | assumption | exact Nds.alloc (by assumption) _ | exact Nds.alloc (Nds.alloc (by assumption) _) _ | exact Nds.dalloc (by assumption) _ | exact Nds.alloc (Nds.dalloc (by assumption) _) _ | exact Nds.dalloc (Nds.dalloc (by assumption) _) _) | (with_reducible exact Nds.alloc (Nds.alloc (Nds.alloc (by assumption) _) _) _))) hb2; (try (have R : ExRow g w0 w2 (some ⟨_, 0, none⟩) [r] := ExRow.fr (by (first | (with_reducible first | assumption | exact ExRow.alloc (by assumption) _ | exact ExRow.alloc (ExRow.alloc (by assumption) _) _ | exact exrow_new _ hR | exact exrow_dnew _ hR | exact ExRow.alloc (exrow_new _ hR) _ | exact ExRow.alloc (ExRow.alloc (exrow_new _ hR) _) _) | (with_reducible exact ExRow.dalloc (exrow_dnew _ hR) _) | (with_reducible exact ExRow.dalloc (by assumption) _))) hF)); (try simp only [World.size_alloc] at R); (try (have Q : ExRow g w0 w2 (some ⟨_, 0, none⟩) [le] := ExRow.fr (by (first | (with_reducible first | assumption | exact ExRow.alloc (by assumption) _ | exact ExRow.alloc (ExRow.alloc (by assumption) _) _ | exact exrow_new _ hL | exact exrow_dnew _ hL | exact ExRow.alloc (exrow_new _ hL) _ | exact ExRow.alloc (ExRow.alloc (exrow_new _ hL) _) _) | (with_reducible exact ExRow.dalloc (exrow_dnew _ hL) _) | (with_reducible exact ExRow.dalloc (by assumption) _))) hF)); (try simp only [World.size_alloc] at Q))
      | (refine step_app_N (o := { dst := some 10, op := .call { callee := .builtin .append, args := #[.tmp 5, .tmp 9], argTypes := #[50, 50] }, type := 50, pos := "tree.go:66", after := _, guard := none }) rfl (.tmp 5) (.tmp 9) rfl w0.heap.size (.slice a l.length c) l ⟨7, o, f, q, 0, [], ⟨#[]⟩⟩ (.slice none 0 0) _ rfl (by (first | (with_reducible first | assumption | exact Nds.alloc (by assumption) _ | exact Nds.alloc (Nds.alloc (by assumption) _) _ | exact Nds.dalloc (by assumption) _ | exact Nds.alloc (Nds.dalloc (by assumption) _) _ | exact Nds.dalloc (Nds.dalloc (by assumption) _) _) | (with_reducible exact Nds.alloc (Nds.alloc (Nds.alloc (by assumption) _) _) _))) rfl (by with_reducible first | exact nd_cells _ ⟨7, o, f, q, 0, [], ⟨#[]⟩⟩ (.slice none 0 0) 76 _ (by simp) | exact nd_cells2 _ ⟨7, o, f, q, 0, [], ⟨#[]⟩⟩ (.slice none 0 0) 76 _ _ (by simp) | exact nd_cells3 _ ⟨7, o, f, q, 0, [], ⟨#[]⟩⟩ (.slice none 0 0) 76 _ _ _ (by simp)) (Own.nil _ _) (by omega) (sB7 (by with_reducible assumption)) ?_; intro a3 c3 w3 N3 hF; rw [← e3.out] at N3; (try (have R : ExRow g w0 w3 (some ⟨_, 0, none⟩) [r] := ExRow.fr (by (first | (with_reducible first | assumption | exact ExRow.alloc (by assumption) _ | exact ExRow.alloc (ExRow.alloc (by assumption) _) _ | exact exrow_new _ hR | exact exrow_dnew _ hR | exact ExRow.alloc (exrow_new _ hR) _ | exact ExRow.alloc (ExRow.alloc (exrow_new _ hR) _) _) | (with_reducible exact ExRow.dalloc (exrow_dnew _ hR) _) | (with_reducible exact ExRow.dalloc (by assumption) _))) hF)); (try simp only [World.size_alloc] at R); (try (have Q : ExRow g w0 w3 (some ⟨_, 0, none⟩) [le] := ExRow.fr (by (first | (with_reducible first | assumption | exact ExRow.alloc (by assumption) _ | exact ExRow.alloc (ExRow.alloc (by assumption) _) _ | exact exrow_new _ hL | exact exrow_dnew _ hL | exact ExRow.alloc (exrow_new _ hL) _ | exact ExRow.alloc (ExRow.alloc (exrow_new _ hL) _) _) | (with_reducible exact ExRow.dalloc (exrow_dnew _ hL) _) | (with_reducible exact ExRow.dalloc (by assumption) _))) hF)); (try simp only [World.size_alloc] at Q))
      | (go_at_call_of 262 (Value.slice none 0 0); refine (kB.out _ _ (hb.out.trans (sL7 (by with_reducible assumption))) (by (first | (with_reducible first | assumption | exact Nds.alloc (by assumption) _ | exact Nds.alloc (Nds.alloc (by assumption) _) _ | exact Nds.dalloc (by assumption) _ | exact Nds.alloc (Nds.dalloc (by assumption) _) _ | exact Nds.dalloc (Nds.dalloc (by assumption) _) _) | (with_reducible exact Nds.alloc (Nds.alloc (Nds.alloc (by assumption) _) _) _)))).mono ?_; rintro en w5 ⟨a5, c5, rfl, N5, hF⟩; (try (have R : ExRow g w0 w5 (some ⟨_, 0, none⟩) [r] := ExRow.fr (by (first | (with_reducible first | assumption | exact ExRow.alloc (by assumption) _ | exact ExRow.alloc (ExRow.alloc (by assumption) _) _ | exact exrow_new _ hR | exact exrow_dnew _ hR | exact ExRow.alloc (exrow_new _ hR) _ | exact ExRow.alloc (ExRow.alloc (exrow_new _ hR) _) _) | (with_reducible exact ExRow.dalloc (exrow_dnew _ hR) _) | (with_reducible exact ExRow.dalloc (by assumption) _))) hF)); (try simp only [World.size_alloc] at R); (try (have Q : ExRow g w0 w5 (some ⟨_, 0, none⟩) [le] := ExRow.fr (by (first | (with_reducible first | assumption | exact ExRow.alloc (by assumption) _ | exact ExRow.alloc (ExRow.alloc (by assumption) _) _ | exact exrow_new _ hL | exact exrow_dnew _ hL | exact ExRow.alloc (exrow_new _ hL) _ | exact ExRow.alloc (ExRow.alloc (exrow_new _ hL) _) _) | (with_reducible exact ExRow.dalloc (exrow_dnew _ hL) _) | (with_reducible exact ExRow.dalloc (by assumption) _))) hF)); (try simp only [World.size_alloc] at Q))
      | (go_at_call 262; refine (kA.out _ _ _ _ (by (first | (with_reducible first | assumption | exact ExRow.alloc (by assumption) _ | exact ExRow.alloc (ExRow.alloc (by assumption) _) _ | exact exrow_new _ hL | exact exrow_dnew _ hL | exact ExRow.alloc (exrow_new _ hL) _ | exact ExRow.alloc (ExRow.alloc (exrow_new _ hL) _) _) | (with_reducible exact exrow_newb _ (by simp) hL) | (with_reducible exact ExRow.alloc (exrow_newb _ (by simp) hL) _))) (hb.out.trans (sL7 (by with_reducible assumption))) (by (first | (with_reducible first | assumption | exact Nds.alloc (by assumption) _ | exact Nds.alloc (Nds.alloc (by assumption) _) _ | exact Nds.dalloc (by assumption) _ | exact Nds.alloc (Nds.dalloc (by assumption) _) _ | exact Nds.dalloc (Nds.dalloc (by assumption) _) _) | (with_reducible exact Nds.alloc (Nds.alloc (Nds.alloc (by assumption) _) _) _)))).mono ?_; rintro en w4 ⟨a4, c4, rfl, N4, hF⟩; (try (have R : ExRow g w0 w4 (some ⟨_, 0, none⟩) [r] := ExRow.fr (by (first | (with_reducible first | assumption | exact ExRow.alloc (by assumption) _ | exact ExRow.alloc (ExRow.alloc (by assumption) _) _ | exact exrow_new _ hR | exact exrow_dnew _ hR | exact ExRow.alloc (exrow_new _ hR) _ | exact ExRow.alloc (ExRow.alloc (exrow_new _ hR) _) _) | (with_reducible exact ExRow.dalloc (exrow_dnew _ hR) _) | (with_reducible exact ExRow.dalloc (by assumption) _))) hF)); (try simp only [World.size_alloc] at R); (try (have Q : ExRow g w0 w4 (some ⟨_, 0, none⟩) [le] := ExRow.fr (by (first | (with_reducible first | assumption | exact ExRow.alloc (by assumption) _ | exact ExRow.alloc (ExRow.alloc (by assumption) _) _ | exact exrow_new _ hL | exact exrow_dnew _ hL | exact ExRow.alloc (exrow_new _ hL) _ | exact ExRow.alloc (ExRow.alloc (exrow_new _ hL) _) _) | (with_reducible exact ExRow.dalloc (exrow_dnew _ hL) _) | (with_reducible exact ExRow.dalloc (by assumption) _))) hF)); (try simp only [World.size_alloc] at Q))
      | (go_at_call 262; refine (kC.out _ _ _ _ (by (first | (with_reducible first | assumption | exact ExRow.alloc (by assumption) _ | exact ExRow.alloc (ExRow.alloc (by assumption) _) _ | exact exrow_new _ hR | exact exrow_dnew _ hR | exact ExRow.alloc (exrow_new _ hR) _ | exact ExRow.alloc (ExRow.alloc (exrow_new _ hR) _) _) | (with_reducible exact exrow_newb _ (by simp) hR) | (with_reducible exact ExRow.alloc (exrow_newb _ (by simp) hR) _))) (hb.out.trans (sL7 (by with_reducible assumption))) (by (first | (with_reducible first | assumption | exact Nds.alloc (by assumption) _ | exact Nds.alloc (Nds.alloc (by assumption) _) _ | exact Nds.dalloc (by assumption) _ | exact Nds.alloc (Nds.dalloc (by assumption) _) _ | exact Nds.dalloc (Nds.dalloc (by assumption) _) _) | (with_reducible exact Nds.alloc (Nds.alloc (Nds.alloc (by assumption) _) _) _)))).mono ?_; rintro en w6 ⟨a6, c6, rfl, N6, hF⟩))
  all_goals (go_wp2; go_ret; exact ⟨_, rfl, by rw [← hfin.out]; exact N6, sF7 (by with_reducible assumption)⟩)
end Go.Proofs.YtaplaoelamnoiaaGreatDoor

/- The parser's method line, and the methods flat of whole expressions. Condition: the parser and its words lie. -/
namespace Go.Proofs.YtaplaoelamnoiaaGreatDoor
open Go.RowKit

set_option maxRecDepth 20000 in
set_option maxHeartbeats 4000000 in
theorem line_any (g tb tc : Nat) (ts : List Tok) (w : World) (h : Par g tb tc ts 0 w w) (h1 : 1 < ts.length) (hn : M.kindAt ts 0 = 3 → M.kindAt ts 1 ≠ 10) (n : Nat) (e : Ex) (j : Nat) (he : M.pExpr ts n 0 = some (e, j)) :
    Calls Tryz.prog 26 #[.pointer (some ⟨g, 0, none⟩)] w fun en w' => ∃ v, en = .returned v ∧ ExV (g + 1) w' e v ∧ Par g tb tc ts j w w' := by
  have ke := fun W (hW : Par g tb tc ts 0 W W) => rc_pExpr ts n g tb tc 0 W hW e j he
  obtain ⟨⟨⟨a, b, c⟩, d⟩, hta, -⟩ := id h
  have e0 : M.kindAt ts 0 = (ts[0]'(by omega)).kind := by unfold M.kindAt; rw [List.getElem?_eq_getElem (by omega)]
  have e1 : M.kindAt ts 1 = (ts[1]'h1).kind := by unfold M.kindAt; rw [List.getElem?_eq_getElem h1]
  obtain ⟨t0, -⟩ := hta 0 (ts[0]'(by omega)) (List.getElem?_eq_getElem (by omega))
  obtain ⟨t1, -⟩ := hta 1 (ts[1]'h1) (List.getElem?_eq_getElem h1)
  rw [← e0] at t0
  rw [← e1] at t1
  rw [Nat.zero_mul] at t0
  rw [Nat.one_mul] at t1
  generalize M.kindAt ts 0 = k0 at *
  generalize M.kindAt ts 1 = k1 at *
  have z1 : (1 : Int) < ((ts.length : Nat) : Int) := by omega
  have z0 : (0 : Int) < ((ts.length : Nat) : Int) := by omega
  have z2 : decide ((1 : Int) < ((ts.length : Nat) : Int)) = true := decide_eq_true z1
  replace ke := Lib.hid ke
  replace h := Lib.hid h
  replace hta := Lib.hid hta
  replace h1 := Lib.hid h1
  clear e0 e1 he
  by_cases hk : k0 = 3
  · have hk1 : (k1 == 10) = false := by rw [beq_eq_false_iff_ne]; exact hn hk
    subst hk
    replace hn := Lib.hid hn
    go_enter Tryz.func26, Tryz.ntmps26
    go_wp2_with fail
    refine (ke.out _ h.out).mono ?_
    rintro en w5 ⟨v, rfl, hv, hP5⟩
    obtain ⟨T, x, rfl⟩ := hv.face
    replace hv := Lib.hid hv
    replace hP5 := Lib.hid hP5
    go_wp2
    go_ret
    exact ⟨_, rfl, hv.out, hP5.out⟩
  · have hk1 : (k0 == 3) = false := by rw [beq_eq_false_iff_ne]; exact hk
    replace hn := Lib.hid hn
    replace hk := Lib.hid hk
    go_enter Tryz.func26, Tryz.ntmps26
    go_wp2_with fail
    refine (ke.out _ h.out).mono ?_
    rintro en w5 ⟨v, rfl, hv, hP5⟩
    obtain ⟨T, x, rfl⟩ := hv.face
    replace hv := Lib.hid hv
    replace hP5 := Lib.hid hP5
    go_wp2
    go_ret
    exact ⟨_, rfl, hv.out, hP5.out⟩

/-- Expressions that are small enough for what is shown here. -/
def Ex.small : Ex → Prop
  | .nums l => l.length < 100000
  | .name _ => True
  | .one _ _ _ r => r.small
  | .two l _ _ _ r => l.small ∧ r.small
  | .pick _ _ => False
theorem flat_any : ∀ e : Ex, e.small → FlatOk e
  | .nums l, h => flat_nums l h
  | .name s, _ => flat_name s
  | .one o f g r, h => flat_one o f g r (flat_any r h)
  | .two l o f g r, h => flat_two l o f g r (flat_any l h.1) (flat_any r h.2)
  | .pick _ _, h => False.elim h
end Go.Proofs.YtaplaoelamnoiaaGreatDoor

/- The call tree.Parse: good words that are an expression. Condition: the library's tables are laid; the words lie. -/
namespace Go.Proofs.YtaplaoelamnoiaaGreatDoor
open Go.RowKit

theorem parseIdle (a b c : Value) (w : World) :
    CallsD Tryz.prog 25 #[a, b, c] .returning w fun e u' w' => e = .returned (.tuple #[]) ∧ u' = .returning ∧ w' = w := by
  refine callsD_of_wpS Tryz.func25 rfl fun c₀ cs hu => ?_
  apply wpS_seq
  generalize hy : (Code.block 0 _) = y
  apply wpS_region
  simp [wpOpsS, go_sem, recoverD, hu, Tryz.ntmps25, Exit.thenS]
  rw [show (#[a, b, c] ++ (Array.replicate 11 undef).setIfInBounds 3 Value.nilIface : Array Value) = #[a, b, c, undef, undef, undef, .nilIface, undef, undef, undef, undef, undef, undef, undef] from rfl]
  subst hy
  refine wpS_of_wp ?_
  go_wp2
  cases c₀
  simp_all [bodyPostS, results, Tryz.results25]

theorem exV_meth {B : Nat} {w : World} {e : Ex} {T : TypeId} {x : Value} (h : ExV B w e (.iface T x)) : ∀ (n : Nat), n ≠ 0 → ∀ W : World, (method n T x "ravelin/tree.flat").run Tryz.prog W = .ok (M.flatFn e, x) W := by
  intro n hn W
  cases e with
  | nums l => obtain ⟨sv, hv, -⟩ := h; cases hv; exact meth_nums n hn _ W
  | name s => cases h; exact meth_name n hn _ W
  | one o f g r => obtain ⟨vr, hv, -⟩ := h; cases hv; exact meth_one n hn _ _ _ _ _ _ W
  | two l o f g r => obtain ⟨vl, vr, hv, -⟩ := h; cases hv; exact meth_two n hn _ _ _ _ _ _ _ W
  | pick e b => obtain ⟨ve, vb, a, c, hv, -⟩ := h; cases hv; exact meth_pick n hn _ _ W

theorem Nds.same {B : Nat} {w w' : World} {v : Value} {l : List Nd} (h : Nds B w v l) (hh : ∀ b, B ≤ b → b < w.heap.size → w'.heap[b]? = w.heap[b]?) : Nds B w' v l := by
  obtain ⟨ls, h1, h2, h3⟩ := h
  exact ⟨ls, h1, ownE_same h2 hh, fun p hp => ownE_same (h3 p hp) hh⟩
theorem Nds.low {B B' : Nat} {w : World} {v : Value} {l : List Nd} (h : Nds B w v l) (hB : B' ≤ B) : Nds B' w v l := by
  obtain ⟨ls, h1, h2, h3⟩ := h
  refine ⟨ls, h1, ?_, fun p hp => (h3 p hp).low hB⟩
  obtain ⟨hl, h⟩ := h2
  refine ⟨hl, ?_⟩
  rcases h with h | ⟨g, cap, cur, hv, hg, hrest⟩
  · exact .inl h
  · exact .inr ⟨g, cap, cur, hv, by omega, hrest⟩

set_option maxRecDepth 20000 in
set_option maxHeartbeats 8000000 in
theorem parse_any (ts : List Tok) (tb tc : Nat) (w : World) (hW : TokAt tb ts w) (hT : Tz w) (h8 : 8 ≤ w.heap.size) (htb : tb < w.heap.size) (htc : ts.length ≤ tc) (hg : ∀ t ∈ ts, t.good) (hl : ts.length < 200) (h1 : 1 < ts.length) (hn : M.kindAt ts 0 = 3 → M.kindAt ts 1 ≠ 10)
    (n : Nat) (e : Ex) (he : M.pExpr ts n 0 = some (e, ts.length)) (hf : FlatOk e) (h4 : (M.flat e).length ≤ 400) :
    Calls Tryz.prog 20 #[.slice (some ⟨tb, 0, none⟩) ts.length tc] w fun en w' => ∃ v, en = .returned (.tuple #[v, .int .i64 0, .nilIface]) ∧ Nds w.heap.size w' v (M.flat e) ∧ Below w.heap.size w w' := by
  obtain ⟨L, hL⟩ : ∃ L, L = M.flat e := ⟨_, rfl⟩
  rw [← hL] at h4 ⊢
  replace hL := Lib.hid hL
  have hmf : ∀ (fn : Fn) (first cap : Array Value) (w : World), (Instr.makeFunc fn first cap).run Tryz.prog w = .ok (.func fn first cap) w := fun _ _ _ _ => rfl
  have hA := boxC_alloc w #[.slice none 0 0] 50
  have hB := boxC_alloc (w.alloc (.cells #[.slice none 0 0] 50)) #[.int .i64 0] 3
  have hC := boxC_alloc ((w.alloc (.cells #[.slice none 0 0] 50)).alloc (.cells #[.int .i64 0] 3)) #[.nilIface] 29
  simp only [World.size_alloc] at hB hC
  obtain ⟨W, hWe⟩ : ∃ W : World, W = ((w.alloc (.cells #[.slice none 0 0] 50)).alloc (.cells #[.int .i64 0] 3)).alloc (.cells #[.nilIface] 29) := ⟨_, rfl⟩
  have hb0 : Below w.heap.size w W := by rw [hWe]; exact (((Below.refl _ w).alloc (Nat.le_refl _) _).alloc (by simp) _).alloc (by simp; omega) _
  have hsW : W.heap.size = w.heap.size + 1 + 1 + 1 := by rw [hWe]; simp
  have hA4 : BoxC w.heap.size [.slice none 0 0] W := hA.same (by rw [hWe]; exact (heap_alloc_old _ _ (by simp; omega)).trans (heap_alloc_old _ _ (by simp)))
  have hB4 : BoxC (w.heap.size + 1) [.int .i64 0] W := hB.same (by rw [hWe]; exact heap_alloc_old _ _ (by simp))
  rw [← hWe] at hC
  have hTW := hW.same (hb0.block tb htb)
  have hTz := hT.below hb0 h8
  have e1 : decide (200 < ((ts.length : Nat) : Int)) = false := decide_eq_false (by omega)
  replace hA4 := Lib.hid hA4
  replace hB4 := Lib.hid hB4
  replace hC := Lib.hid hC
  replace hb0 := Lib.hid hb0
  replace hsW := Lib.hid hsW
  replace hTW := Lib.hid hTW
  replace hTz := Lib.hid hTz
  replace hW := Lib.hid hW
  replace hT := Lib.hid hT
  have hWe' := Lib.hid hWe.symm
  replace hWe := Lib.hid hWe
  replace htc := Lib.hid htc
  clear hA hB
  go_enter_defers Tryz.func20, Tryz.ntmps20
  go_wp2
  rw [hWe'.out]
  go_loopw [16] (fun v wr => ∃ i : Nat, v = .int .i64 i ∧ i ≤ ts.length ∧ Below W.heap.size W wr) (fun v _ => ts.length - (intOf v).toNat)
  case atStart => exact ⟨0, rfl, Nat.zero_le _, Below.refl _ _⟩
  case round =>
    obtain ⟨i, rfl, hi, hb⟩ := hrel
    by_cases hlt : i < ts.length
    case pos =>
      have z1 : ((i : Nat) : Int) < ((ts.length : Nat) : Int) := by omega
      have z2 : ((i : Nat) : Int) + 1 ≤ ((tc : Nat) : Int) := by have := htc.out; omega
      have z3 : (0 : Int) ≤ ((i : Nat) : Int) + 1 := by omega
      have z4 : (0 : Int) ≤ ((i : Nat) : Int) := by omega
      have z5 : (((i : Nat) : Int) + 1).toNat = i + 1 := by omega
      have z6 : i + 1 - i = 1 := by omega
      have ks := fun c => spell_any ts[i] tb (i * 5) c wr (hg _ (List.getElem_mem hlt)) (hTz.out.below hb (by have := hsW.out; omega)) (by have := hb.size; have := hsW.out; omega) (fun j u hj => by
        obtain ⟨a0, a1, a2, a3, a4⟩ := (hTW.out.same (hb.block tb (by have := hsW.out; omega))) i _ (List.getElem?_eq_getElem hlt)
        match j, hj with
        | 0, hj => cases hj; exact a0
        | 1, hj => cases hj; exact a1
        | 2, hj => cases hj; exact a2
        | 3, hj => cases hj; exact a3
        | 4, hj => cases hj; exact a4
        | j + 5, hj => cases hj)
      replace ks := Lib.hid ks
      replace hb := Lib.hid hb
      go_wp2_with fail
      refine (ks.out _).mono ?_
      rintro en w2 ⟨x, rfl, hb2⟩
      replace hb2 := Lib.hid hb2
      go_wp2
      go_roundw
      case rel => exact ⟨i + 1, by simp, hlt, hb.out.trans (hb2.out.mono hb.out.size)⟩
      case measure => simp [intOf]; omega
    case neg =>
      have hie : i = ts.length := by omega
      subst hie
      have hPB := boxC_alloc wr #[.slice (some ⟨tb, 0, none⟩) ts.length tc, .int .i64 0, .int .i64 0] 65
      have hbp : Below wr.heap.size wr (wr.alloc (.cells #[.slice (some ⟨tb, 0, none⟩) ts.length tc, .int .i64 0, .int .i64 0] 65)) := (Below.refl _ wr).alloc (Nat.le_refl _) _
      have hszr := hb.size
      have hbW : Below w.heap.size w wr := hb0.out.trans (hb.mono (by have := hsW.out; omega))
      have htr : tb < wr.heap.size := by have := hsW.out; omega
      have hTr := hTW.out.same (hb.block tb (by have := hsW.out; omega))
      obtain ⟨w4, hw4⟩ : ∃ w4 : World, w4 = wr.alloc (.cells #[.slice (some ⟨tb, 0, none⟩) ts.length tc, .int .i64 0, .int .i64 0] 65) := ⟨_, rfl⟩
      have hs4 : w4.heap.size = wr.heap.size + 1 := by rw [hw4]; simp
      rw [← hw4] at hPB hbp
      have hP : Par wr.heap.size tb tc ts 0 w4 w4 := Par.start ⟨⟨(hPB 0 _ rfl).1, (hPB 1 _ rfl).1, (hPB 2 _ rfl).1⟩, (hPB 1 _ rfl).2⟩ (hTr.same (hbp.block tb htr)) htr (by omega)
      have kl := line_any wr.heap.size tb tc ts w4 hP h1 hn n e _ he
      have A4 : BoxC w.heap.size [.slice none 0 0] w4 := hA4.out.same ((hbp.block _ (by have := hsW.out; omega)).trans (hb.block _ (by have := hsW.out; omega)))
      have B4 : BoxC (w.heap.size + 1) [.int .i64 0] w4 := hB4.out.same ((hbp.block _ (by have := hsW.out; omega)).trans (hb.block _ (by have := hsW.out; omega)))
      have C4 : BoxC (w.heap.size + 1 + 1) [.nilIface] w4 := hC.out.same ((hbp.block _ (by have := hsW.out; omega)).trans (hb.block _ (by have := hsW.out; omega)))
      have hb4 : Below w.heap.size w w4 := hbW.trans (hbp.mono (by have := hsW.out; omega))
      have hgN : w.heap.size + 1 + 1 < wr.heap.size := by have := hsW.out; omega
      have e2 : decide (((ts.length : Nat) : Int) < ((ts.length : Nat) : Int)) = false := decide_eq_false (by omega)
      replace kl := Lib.hid kl
      replace hb := Lib.hid hb
      replace hPB := Lib.hid hPB
      replace hbp := Lib.hid hbp
      replace hbW := Lib.hid hbW
      replace hTr := Lib.hid hTr
      replace hP := Lib.hid hP
      replace A4 := Lib.hid A4
      replace B4 := Lib.hid B4
      replace C4 := Lib.hid C4
      replace hb4 := Lib.hid hb4
      replace hs4 := Lib.hid hs4
      replace hgN := Lib.hid hgN
      replace hszr := Lib.hid hszr
      have hw4' := Lib.hid hw4.symm
      replace hw4 := Lib.hid hw4
      go_wp2_with fail
      rw [hw4'.out]
      refine kl.out.mono ?_
      rintro en w6 ⟨v, rfl, hv, hP6⟩
      obtain ⟨T, x, rfl⟩ := hv.face
      have kf := fun W hb hN => hf (wr.heap.size + 1) w6 W T x (.slice none 0 0) [] hv hb hN (by rw [← hL.out]; simp; omega)
      obtain ⟨⟨⟨p0, p1, p2⟩, q1⟩, -⟩ := id hP6
      have A6 := A4.out.same (hP6.2.2.1 w.heap.size (by have := hs4.out; have := hgN.out; omega) (by have := hgN.out; omega))
      have B6 := B4.out.same (hP6.2.2.1 (w.heap.size + 1) (by have := hs4.out; have := hgN.out; omega) (by have := hgN.out; omega))
      have C6 := C4.out.same (hP6.2.2.1 (w.heap.size + 1 + 1) (by have := hs4.out; have := hgN.out; omega) (by have := hgN.out; omega))
      have hb6 : Below w.heap.size w w6 := hb4.out.trans (hP6.2.2.2.1.mono (by have := hgN.out; omega))
      have hs6 : wr.heap.size < w6.heap.size := hP6.1.lt
      replace hv := Lib.hid hv
      replace kf := Lib.hid kf
      replace hP6 := Lib.hid hP6
      replace A6 := Lib.hid A6
      replace B6 := Lib.hid B6
      replace C6 := Lib.hid C6
      replace hb6 := Lib.hid hb6
      replace hs6 := Lib.hid hs6
      replace hl := Lib.hid hl
      replace he := Lib.hid he
      replace h4 := Lib.hid h4
      replace hf := Lib.hid hf
      cases e with
      | nums l =>
        obtain ⟨sv, hve, -⟩ := hv.out
        cases hve
        have hm := meth_nums
        go_wp2_with fail
        refine (kf.out _ (Below.refl _ _) (Nds.nil _ _)).mono ?_
        rintro en w7 ⟨v7, rfl, N7, F7⟩
        rw [List.nil_append, ← hL.out] at N7
        obtain ⟨av, cv, rfl⟩ := N7.view
        have hs7 := F7.1.size
        obtain ⟨a0, y0⟩ := (A6.out.same (F7.1.block _ (by have := hs6.out; have := hgN.out; omega))) 0 _ rfl
        obtain ⟨a1, y1⟩ := (B6.out.same (F7.1.block _ (by have := hs6.out; have := hgN.out; omega))) 0 _ rfl
        obtain ⟨a2, y2⟩ := (C6.out.same (F7.1.block _ (by have := hs6.out; have := hgN.out; omega))) 0 _ rfl
        have hb7 : Below w.heap.size w w7 := hb6.out.trans (F7.1.mono (by have := hs6.out; have := hgN.out; omega))
        have hg6 : w.heap.size + 1 + 1 < w6.heap.size := by have := hs6.out; have := hgN.out; omega
        clear p0 p1 p2 q1 F7
        replace N7 := Lib.hid N7
        replace hb7 := Lib.hid hb7
        replace hs7 := Lib.hid hs7
        go_wp2
        refine leaves_cons (f := 25) (args := #[.pointer (some ⟨w.heap.size, 0, none⟩), .pointer (some ⟨w.heap.size + 1, 0, none⟩), .pointer (some ⟨w.heap.size + 1 + 1, 0, none⟩)]) (by simp) (by simp [go_sem]) ?_
        refine (parseIdle _ _ _ _).mono ?_
        rintro e u' w'' ⟨rfl, rfl, rfl⟩
        have s0 : (((w7.setCell ⟨w.heap.size, 0, none⟩ (.slice av L.length cv)).setCell ⟨w.heap.size + 1, 0, none⟩ (.int .i64 0)).setCell ⟨w.heap.size + 1 + 1, 0, none⟩ .nilIface).cell? ⟨w.heap.size, 0, none⟩ = some (.slice av L.length cv) := by
          rw [World.cell?_setCell_other _ _ _ _ (by simp), World.cell?_setCell_other _ _ _ _ (by simp)]; exact World.cell?_setCell_same' _ _ _ (by rw [a0]; rfl)
        have s1 : (((w7.setCell ⟨w.heap.size, 0, none⟩ (.slice av L.length cv)).setCell ⟨w.heap.size + 1, 0, none⟩ (.int .i64 0)).setCell ⟨w.heap.size + 1 + 1, 0, none⟩ .nilIface).cell? ⟨w.heap.size + 1, 0, none⟩ = some (.int .i64 0) := by
          rw [World.cell?_setCell_other _ _ _ _ (by simp)]; exact World.cell?_setCell_same' _ _ _ (by rw [World.cell?_setCell_other _ _ _ _ (by simp), a1]; rfl)
        have s2 : (((w7.setCell ⟨w.heap.size, 0, none⟩ (.slice av L.length cv)).setCell ⟨w.heap.size + 1, 0, none⟩ (.int .i64 0)).setCell ⟨w.heap.size + 1 + 1, 0, none⟩ .nilIface).cell? ⟨w.heap.size + 1 + 1, 0, none⟩ = some .nilIface :=
          World.cell?_setCell_same' _ _ _ (by rw [World.cell?_setCell_other _ _ _ _ (by simp), World.cell?_setCell_other _ _ _ _ (by simp), a2]; rfl)
        have hfin : Nds w.heap.size (((w7.setCell ⟨w.heap.size, 0, none⟩ (.slice av L.length cv)).setCell ⟨w.heap.size + 1, 0, none⟩ (.int .i64 0)).setCell ⟨w.heap.size + 1 + 1, 0, none⟩ .nilIface) (.slice av L.length cv) L ∧ Below w.heap.size w (((w7.setCell ⟨w.heap.size, 0, none⟩ (.slice av L.length cv)).setCell ⟨w.heap.size + 1, 0, none⟩ (.int .i64 0)).setCell ⟨w.heap.size + 1 + 1, 0, none⟩ .nilIface) := by
          refine ⟨?_, ((hb7.out.setCell (Nat.le_refl _) _).setCell (Nat.le_succ _) _).setCell (by show w.heap.size ≤ w.heap.size + 1 + 1; omega) _⟩
          refine (N7.out.same fun b h1 h2 => ?_).low (by omega)
          rw [Below.heap_setCell _ _ _ b (by show b ≠ w.heap.size + 1 + 1; omega), Below.heap_setCell _ _ _ b (by show b ≠ w.heap.size + 1; omega), Below.heap_setCell _ _ _ b (by show b ≠ w.heap.size; omega)]
        clear a0 a1 a2 y0 y1 y2 N7 hb7
        generalize ((w7.setCell ⟨w.heap.size, 0, none⟩ (.slice av L.length cv)).setCell ⟨w.heap.size + 1, 0, none⟩ (.int .i64 0)).setCell ⟨w.heap.size + 1 + 1, 0, none⟩ .nilIface = w9 at *
        simp only [Leaves, settle]
        refine ⟨.tuple #[.slice av L.length cv, .int .i64 0, .nilIface], by simp [results, Tryz.results20, go_sem, s0, s1, s2], _, rfl, hfin.1, hfin.2⟩
      | name s =>
        have hve := hv.out
        injection hve with hv1 hv2
        subst hv1
        subst hv2
        have hm := meth_name
        go_wp2_with fail
        refine (kf.out _ (Below.refl _ _) (Nds.nil _ _)).mono ?_
        rintro en w7 ⟨v7, rfl, N7, F7⟩
        rw [List.nil_append, ← hL.out] at N7
        obtain ⟨av, cv, rfl⟩ := N7.view
        have hs7 := F7.1.size
        obtain ⟨a0, y0⟩ := (A6.out.same (F7.1.block _ (by have := hs6.out; have := hgN.out; omega))) 0 _ rfl
        obtain ⟨a1, y1⟩ := (B6.out.same (F7.1.block _ (by have := hs6.out; have := hgN.out; omega))) 0 _ rfl
        obtain ⟨a2, y2⟩ := (C6.out.same (F7.1.block _ (by have := hs6.out; have := hgN.out; omega))) 0 _ rfl
        have hb7 : Below w.heap.size w w7 := hb6.out.trans (F7.1.mono (by have := hs6.out; have := hgN.out; omega))
        have hg6 : w.heap.size + 1 + 1 < w6.heap.size := by have := hs6.out; have := hgN.out; omega
        clear p0 p1 p2 q1 F7
        replace N7 := Lib.hid N7
        replace hb7 := Lib.hid hb7
        replace hs7 := Lib.hid hs7
        go_wp2
        refine leaves_cons (f := 25) (args := #[.pointer (some ⟨w.heap.size, 0, none⟩), .pointer (some ⟨w.heap.size + 1, 0, none⟩), .pointer (some ⟨w.heap.size + 1 + 1, 0, none⟩)]) (by simp) (by simp [go_sem]) ?_
        refine (parseIdle _ _ _ _).mono ?_
        rintro e u' w'' ⟨rfl, rfl, rfl⟩
        have s0 : (((w7.setCell ⟨w.heap.size, 0, none⟩ (.slice av L.length cv)).setCell ⟨w.heap.size + 1, 0, none⟩ (.int .i64 0)).setCell ⟨w.heap.size + 1 + 1, 0, none⟩ .nilIface).cell? ⟨w.heap.size, 0, none⟩ = some (.slice av L.length cv) := by
          rw [World.cell?_setCell_other _ _ _ _ (by simp), World.cell?_setCell_other _ _ _ _ (by simp)]; exact World.cell?_setCell_same' _ _ _ (by rw [a0]; rfl)
        have s1 : (((w7.setCell ⟨w.heap.size, 0, none⟩ (.slice av L.length cv)).setCell ⟨w.heap.size + 1, 0, none⟩ (.int .i64 0)).setCell ⟨w.heap.size + 1 + 1, 0, none⟩ .nilIface).cell? ⟨w.heap.size + 1, 0, none⟩ = some (.int .i64 0) := by
          rw [World.cell?_setCell_other _ _ _ _ (by simp)]; exact World.cell?_setCell_same' _ _ _ (by rw [World.cell?_setCell_other _ _ _ _ (by simp), a1]; rfl)
        have s2 : (((w7.setCell ⟨w.heap.size, 0, none⟩ (.slice av L.length cv)).setCell ⟨w.heap.size + 1, 0, none⟩ (.int .i64 0)).setCell ⟨w.heap.size + 1 + 1, 0, none⟩ .nilIface).cell? ⟨w.heap.size + 1 + 1, 0, none⟩ = some .nilIface :=
          World.cell?_setCell_same' _ _ _ (by rw [World.cell?_setCell_other _ _ _ _ (by simp), World.cell?_setCell_other _ _ _ _ (by simp), a2]; rfl)
        have hfin : Nds w.heap.size (((w7.setCell ⟨w.heap.size, 0, none⟩ (.slice av L.length cv)).setCell ⟨w.heap.size + 1, 0, none⟩ (.int .i64 0)).setCell ⟨w.heap.size + 1 + 1, 0, none⟩ .nilIface) (.slice av L.length cv) L ∧ Below w.heap.size w (((w7.setCell ⟨w.heap.size, 0, none⟩ (.slice av L.length cv)).setCell ⟨w.heap.size + 1, 0, none⟩ (.int .i64 0)).setCell ⟨w.heap.size + 1 + 1, 0, none⟩ .nilIface) := by
          refine ⟨?_, ((hb7.out.setCell (Nat.le_refl _) _).setCell (Nat.le_succ _) _).setCell (by show w.heap.size ≤ w.heap.size + 1 + 1; omega) _⟩
          refine (N7.out.same fun b h1 h2 => ?_).low (by omega)
          rw [Below.heap_setCell _ _ _ b (by show b ≠ w.heap.size + 1 + 1; omega), Below.heap_setCell _ _ _ b (by show b ≠ w.heap.size + 1; omega), Below.heap_setCell _ _ _ b (by show b ≠ w.heap.size; omega)]
        clear a0 a1 a2 y0 y1 y2 N7 hb7
        generalize ((w7.setCell ⟨w.heap.size, 0, none⟩ (.slice av L.length cv)).setCell ⟨w.heap.size + 1, 0, none⟩ (.int .i64 0)).setCell ⟨w.heap.size + 1 + 1, 0, none⟩ .nilIface = w9 at *
        simp only [Leaves, settle]
        refine ⟨.tuple #[.slice av L.length cv, .int .i64 0, .nilIface], by simp [results, Tryz.results20, go_sem, s0, s1, s2], _, rfl, hfin.1, hfin.2⟩
      | one o f q r =>
        obtain ⟨vr, hve, -⟩ := hv.out
        cases hve
        have hm := meth_one
        go_wp2_with fail
        refine (kf.out _ (Below.refl _ _) (Nds.nil _ _)).mono ?_
        rintro en w7 ⟨v7, rfl, N7, F7⟩
        rw [List.nil_append, ← hL.out] at N7
        obtain ⟨av, cv, rfl⟩ := N7.view
        have hs7 := F7.1.size
        obtain ⟨a0, y0⟩ := (A6.out.same (F7.1.block _ (by have := hs6.out; have := hgN.out; omega))) 0 _ rfl
        obtain ⟨a1, y1⟩ := (B6.out.same (F7.1.block _ (by have := hs6.out; have := hgN.out; omega))) 0 _ rfl
        obtain ⟨a2, y2⟩ := (C6.out.same (F7.1.block _ (by have := hs6.out; have := hgN.out; omega))) 0 _ rfl
        have hb7 : Below w.heap.size w w7 := hb6.out.trans (F7.1.mono (by have := hs6.out; have := hgN.out; omega))
        have hg6 : w.heap.size + 1 + 1 < w6.heap.size := by have := hs6.out; have := hgN.out; omega
        clear p0 p1 p2 q1 F7
        replace N7 := Lib.hid N7
        replace hb7 := Lib.hid hb7
        replace hs7 := Lib.hid hs7
        go_wp2
        refine leaves_cons (f := 25) (args := #[.pointer (some ⟨w.heap.size, 0, none⟩), .pointer (some ⟨w.heap.size + 1, 0, none⟩), .pointer (some ⟨w.heap.size + 1 + 1, 0, none⟩)]) (by simp) (by simp [go_sem]) ?_
        refine (parseIdle _ _ _ _).mono ?_
        rintro e u' w'' ⟨rfl, rfl, rfl⟩
        have s0 : (((w7.setCell ⟨w.heap.size, 0, none⟩ (.slice av L.length cv)).setCell ⟨w.heap.size + 1, 0, none⟩ (.int .i64 0)).setCell ⟨w.heap.size + 1 + 1, 0, none⟩ .nilIface).cell? ⟨w.heap.size, 0, none⟩ = some (.slice av L.length cv) := by
          rw [World.cell?_setCell_other _ _ _ _ (by simp), World.cell?_setCell_other _ _ _ _ (by simp)]; exact World.cell?_setCell_same' _ _ _ (by rw [a0]; rfl)
        have s1 : (((w7.setCell ⟨w.heap.size, 0, none⟩ (.slice av L.length cv)).setCell ⟨w.heap.size + 1, 0, none⟩ (.int .i64 0)).setCell ⟨w.heap.size + 1 + 1, 0, none⟩ .nilIface).cell? ⟨w.heap.size + 1, 0, none⟩ = some (.int .i64 0) := by
          rw [World.cell?_setCell_other _ _ _ _ (by simp)]; exact World.cell?_setCell_same' _ _ _ (by rw [World.cell?_setCell_other _ _ _ _ (by simp), a1]; rfl)
        have s2 : (((w7.setCell ⟨w.heap.size, 0, none⟩ (.slice av L.length cv)).setCell ⟨w.heap.size + 1, 0, none⟩ (.int .i64 0)).setCell ⟨w.heap.size + 1 + 1, 0, none⟩ .nilIface).cell? ⟨w.heap.size + 1 + 1, 0, none⟩ = some .nilIface :=
          World.cell?_setCell_same' _ _ _ (by rw [World.cell?_setCell_other _ _ _ _ (by simp), World.cell?_setCell_other _ _ _ _ (by simp), a2]; rfl)
        have hfin : Nds w.heap.size (((w7.setCell ⟨w.heap.size, 0, none⟩ (.slice av L.length cv)).setCell ⟨w.heap.size + 1, 0, none⟩ (.int .i64 0)).setCell ⟨w.heap.size + 1 + 1, 0, none⟩ .nilIface) (.slice av L.length cv) L ∧ Below w.heap.size w (((w7.setCell ⟨w.heap.size, 0, none⟩ (.slice av L.length cv)).setCell ⟨w.heap.size + 1, 0, none⟩ (.int .i64 0)).setCell ⟨w.heap.size + 1 + 1, 0, none⟩ .nilIface) := by
          refine ⟨?_, ((hb7.out.setCell (Nat.le_refl _) _).setCell (Nat.le_succ _) _).setCell (by show w.heap.size ≤ w.heap.size + 1 + 1; omega) _⟩
          refine (N7.out.same fun b h1 h2 => ?_).low (by omega)
          rw [Below.heap_setCell _ _ _ b (by show b ≠ w.heap.size + 1 + 1; omega), Below.heap_setCell _ _ _ b (by show b ≠ w.heap.size + 1; omega), Below.heap_setCell _ _ _ b (by show b ≠ w.heap.size; omega)]
        clear a0 a1 a2 y0 y1 y2 N7 hb7
        generalize ((w7.setCell ⟨w.heap.size, 0, none⟩ (.slice av L.length cv)).setCell ⟨w.heap.size + 1, 0, none⟩ (.int .i64 0)).setCell ⟨w.heap.size + 1 + 1, 0, none⟩ .nilIface = w9 at *
        simp only [Leaves, settle]
        refine ⟨.tuple #[.slice av L.length cv, .int .i64 0, .nilIface], by simp [results, Tryz.results20, go_sem, s0, s1, s2], _, rfl, hfin.1, hfin.2⟩
      | two l' o f q r =>
        obtain ⟨vl, vr, hve, -⟩ := hv.out
        cases hve
        have hm := meth_two
        go_wp2_with fail
        refine (kf.out _ (Below.refl _ _) (Nds.nil _ _)).mono ?_
        rintro en w7 ⟨v7, rfl, N7, F7⟩
        rw [List.nil_append, ← hL.out] at N7
        obtain ⟨av, cv, rfl⟩ := N7.view
        have hs7 := F7.1.size
        obtain ⟨a0, y0⟩ := (A6.out.same (F7.1.block _ (by have := hs6.out; have := hgN.out; omega))) 0 _ rfl
        obtain ⟨a1, y1⟩ := (B6.out.same (F7.1.block _ (by have := hs6.out; have := hgN.out; omega))) 0 _ rfl
        obtain ⟨a2, y2⟩ := (C6.out.same (F7.1.block _ (by have := hs6.out; have := hgN.out; omega))) 0 _ rfl
        have hb7 : Below w.heap.size w w7 := hb6.out.trans (F7.1.mono (by have := hs6.out; have := hgN.out; omega))
        have hg6 : w.heap.size + 1 + 1 < w6.heap.size := by have := hs6.out; have := hgN.out; omega
        clear p0 p1 p2 q1 F7
        replace N7 := Lib.hid N7
        replace hb7 := Lib.hid hb7
        replace hs7 := Lib.hid hs7
        go_wp2
        refine leaves_cons (f := 25) (args := #[.pointer (some ⟨w.heap.size, 0, none⟩), .pointer (some ⟨w.heap.size + 1, 0, none⟩), .pointer (some ⟨w.heap.size + 1 + 1, 0, none⟩)]) (by simp) (by simp [go_sem]) ?_
        refine (parseIdle _ _ _ _).mono ?_
        rintro e u' w'' ⟨rfl, rfl, rfl⟩
        have s0 : (((w7.setCell ⟨w.heap.size, 0, none⟩ (.slice av L.length cv)).setCell ⟨w.heap.size + 1, 0, none⟩ (.int .i64 0)).setCell ⟨w.heap.size + 1 + 1, 0, none⟩ .nilIface).cell? ⟨w.heap.size, 0, none⟩ = some (.slice av L.length cv) := by
          rw [World.cell?_setCell_other _ _ _ _ (by simp), World.cell?_setCell_other _ _ _ _ (by simp)]; exact World.cell?_setCell_same' _ _ _ (by rw [a0]; rfl)
        have s1 : (((w7.setCell ⟨w.heap.size, 0, none⟩ (.slice av L.length cv)).setCell ⟨w.heap.size + 1, 0, none⟩ (.int .i64 0)).setCell ⟨w.heap.size + 1 + 1, 0, none⟩ .nilIface).cell? ⟨w.heap.size + 1, 0, none⟩ = some (.int .i64 0) := by
          rw [World.cell?_setCell_other _ _ _ _ (by simp)]; exact World.cell?_setCell_same' _ _ _ (by rw [World.cell?_setCell_other _ _ _ _ (by simp), a1]; rfl)
        have s2 : (((w7.setCell ⟨w.heap.size, 0, none⟩ (.slice av L.length cv)).setCell ⟨w.heap.size + 1, 0, none⟩ (.int .i64 0)).setCell ⟨w.heap.size + 1 + 1, 0, none⟩ .nilIface).cell? ⟨w.heap.size + 1 + 1, 0, none⟩ = some .nilIface :=
          World.cell?_setCell_same' _ _ _ (by rw [World.cell?_setCell_other _ _ _ _ (by simp), World.cell?_setCell_other _ _ _ _ (by simp), a2]; rfl)
        have hfin : Nds w.heap.size (((w7.setCell ⟨w.heap.size, 0, none⟩ (.slice av L.length cv)).setCell ⟨w.heap.size + 1, 0, none⟩ (.int .i64 0)).setCell ⟨w.heap.size + 1 + 1, 0, none⟩ .nilIface) (.slice av L.length cv) L ∧ Below w.heap.size w (((w7.setCell ⟨w.heap.size, 0, none⟩ (.slice av L.length cv)).setCell ⟨w.heap.size + 1, 0, none⟩ (.int .i64 0)).setCell ⟨w.heap.size + 1 + 1, 0, none⟩ .nilIface) := by
          refine ⟨?_, ((hb7.out.setCell (Nat.le_refl _) _).setCell (Nat.le_succ _) _).setCell (by show w.heap.size ≤ w.heap.size + 1 + 1; omega) _⟩
          refine (N7.out.same fun b h1 h2 => ?_).low (by omega)
          rw [Below.heap_setCell _ _ _ b (by show b ≠ w.heap.size + 1 + 1; omega), Below.heap_setCell _ _ _ b (by show b ≠ w.heap.size + 1; omega), Below.heap_setCell _ _ _ b (by show b ≠ w.heap.size; omega)]
        clear a0 a1 a2 y0 y1 y2 N7 hb7
        generalize ((w7.setCell ⟨w.heap.size, 0, none⟩ (.slice av L.length cv)).setCell ⟨w.heap.size + 1, 0, none⟩ (.int .i64 0)).setCell ⟨w.heap.size + 1 + 1, 0, none⟩ .nilIface = w9 at *
        simp only [Leaves, settle]
        refine ⟨.tuple #[.slice av L.length cv, .int .i64 0, .nilIface], by simp [results, Tryz.results20, go_sem, s0, s1, s2], _, rfl, hfin.1, hfin.2⟩
      | pick e' b' =>
        obtain ⟨ve, vb, pa, pc, hve, -⟩ := hv.out
        cases hve
        have hm := meth_pick
        go_wp2_with fail
        refine (kf.out _ (Below.refl _ _) (Nds.nil _ _)).mono ?_
        rintro en w7 ⟨v7, rfl, N7, F7⟩
        rw [List.nil_append, ← hL.out] at N7
        obtain ⟨av, cv, rfl⟩ := N7.view
        have hs7 := F7.1.size
        obtain ⟨a0, y0⟩ := (A6.out.same (F7.1.block _ (by have := hs6.out; have := hgN.out; omega))) 0 _ rfl
        obtain ⟨a1, y1⟩ := (B6.out.same (F7.1.block _ (by have := hs6.out; have := hgN.out; omega))) 0 _ rfl
        obtain ⟨a2, y2⟩ := (C6.out.same (F7.1.block _ (by have := hs6.out; have := hgN.out; omega))) 0 _ rfl
        have hb7 : Below w.heap.size w w7 := hb6.out.trans (F7.1.mono (by have := hs6.out; have := hgN.out; omega))
        have hg6 : w.heap.size + 1 + 1 < w6.heap.size := by have := hs6.out; have := hgN.out; omega
        clear p0 p1 p2 q1 F7
        replace N7 := Lib.hid N7
        replace hb7 := Lib.hid hb7
        replace hs7 := Lib.hid hs7
        go_wp2
        refine leaves_cons (f := 25) (args := #[.pointer (some ⟨w.heap.size, 0, none⟩), .pointer (some ⟨w.heap.size + 1, 0, none⟩), .pointer (some ⟨w.heap.size + 1 + 1, 0, none⟩)]) (by simp) (by simp [go_sem]) ?_
        refine (parseIdle _ _ _ _).mono ?_
        rintro e u' w'' ⟨rfl, rfl, rfl⟩
        have s0 : (((w7.setCell ⟨w.heap.size, 0, none⟩ (.slice av L.length cv)).setCell ⟨w.heap.size + 1, 0, none⟩ (.int .i64 0)).setCell ⟨w.heap.size + 1 + 1, 0, none⟩ .nilIface).cell? ⟨w.heap.size, 0, none⟩ = some (.slice av L.length cv) := by
          rw [World.cell?_setCell_other _ _ _ _ (by simp), World.cell?_setCell_other _ _ _ _ (by simp)]; exact World.cell?_setCell_same' _ _ _ (by rw [a0]; rfl)
        have s1 : (((w7.setCell ⟨w.heap.size, 0, none⟩ (.slice av L.length cv)).setCell ⟨w.heap.size + 1, 0, none⟩ (.int .i64 0)).setCell ⟨w.heap.size + 1 + 1, 0, none⟩ .nilIface).cell? ⟨w.heap.size + 1, 0, none⟩ = some (.int .i64 0) := by
          rw [World.cell?_setCell_other _ _ _ _ (by simp)]; exact World.cell?_setCell_same' _ _ _ (by rw [World.cell?_setCell_other _ _ _ _ (by simp), a1]; rfl)
        have s2 : (((w7.setCell ⟨w.heap.size, 0, none⟩ (.slice av L.length cv)).setCell ⟨w.heap.size + 1, 0, none⟩ (.int .i64 0)).setCell ⟨w.heap.size + 1 + 1, 0, none⟩ .nilIface).cell? ⟨w.heap.size + 1 + 1, 0, none⟩ = some .nilIface :=
          World.cell?_setCell_same' _ _ _ (by rw [World.cell?_setCell_other _ _ _ _ (by simp), World.cell?_setCell_other _ _ _ _ (by simp), a2]; rfl)
        have hfin : Nds w.heap.size (((w7.setCell ⟨w.heap.size, 0, none⟩ (.slice av L.length cv)).setCell ⟨w.heap.size + 1, 0, none⟩ (.int .i64 0)).setCell ⟨w.heap.size + 1 + 1, 0, none⟩ .nilIface) (.slice av L.length cv) L ∧ Below w.heap.size w (((w7.setCell ⟨w.heap.size, 0, none⟩ (.slice av L.length cv)).setCell ⟨w.heap.size + 1, 0, none⟩ (.int .i64 0)).setCell ⟨w.heap.size + 1 + 1, 0, none⟩ .nilIface) := by
          refine ⟨?_, ((hb7.out.setCell (Nat.le_refl _) _).setCell (Nat.le_succ _) _).setCell (by show w.heap.size ≤ w.heap.size + 1 + 1; omega) _⟩
          refine (N7.out.same fun b h1 h2 => ?_).low (by omega)
          rw [Below.heap_setCell _ _ _ b (by show b ≠ w.heap.size + 1 + 1; omega), Below.heap_setCell _ _ _ b (by show b ≠ w.heap.size + 1; omega), Below.heap_setCell _ _ _ b (by show b ≠ w.heap.size; omega)]
        clear a0 a1 a2 y0 y1 y2 N7 hb7
        generalize ((w7.setCell ⟨w.heap.size, 0, none⟩ (.slice av L.length cv)).setCell ⟨w.heap.size + 1, 0, none⟩ (.int .i64 0)).setCell ⟨w.heap.size + 1 + 1, 0, none⟩ .nilIface = w9 at *
        simp only [Leaves, settle]
        refine ⟨.tuple #[.slice av L.length cv, .int .i64 0, .nilIface], by simp [results, Tryz.results20, go_sem, s0, s1, s2], _, rfl, hfin.1, hfin.2⟩
end Go.Proofs.YtaplaoelamnoiaaGreatDoor
