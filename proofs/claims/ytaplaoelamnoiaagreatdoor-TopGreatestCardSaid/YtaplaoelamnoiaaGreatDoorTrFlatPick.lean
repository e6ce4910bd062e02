/- The method flat of a pick with one subscript; every expression's method flat. Condition: as in TrFlat. -/
import Derived.Test.YtaplaoelamnoiaaGreatDoorBg14
import Derived.Laws.Append
namespace Go.Proofs.YtaplaoelamnoiaaGreatDoor
open Go.RowKit

theorem Tryz.infoExpr : (Tryz.prog.info? 67).map (fun i => (i.zero, i.size, i.bytes)) = some (some .nilIface, 1, 16) := by kernel_rfl
/-- Two expressions in a row, the second appended to the first. -/
theorem step_app_X {w : World} {ops : Array Oper} {o : Oper} {a : Act} {K : Act → World → Prop} {Q : Exit → Act → World → Prop} {E : Prop} (hgd : o.guard = none) (s x : Operand) (ho : o.op = .call { callee := .builtin .append, args := #[s, x], argTypes := #[123, 123] })
    (g : Nat) (w0 : World) (e1 e2 : Ex) (b1 : Nat) (A2 : Addr) (c : Nat) (vb : Value) (hs : a.eval s = .slice (some ⟨b1, 0, none⟩) 1 1) (hx : a.eval x = .slice (some A2) 1 c)
    (h1 : ExRow g w0 w (some ⟨b1, 0, none⟩) [e1]) (h2 : w.cell? A2 = some vb) (h3 : ExV g w0 e2 vb)
    (h : ∀ c' w', ExRow g w0 w' (some ⟨w.heap.size, 0, none⟩) [e1, e2] → Below w.heap.size w w' → K (a.put o.dst (.slice (some ⟨w.heap.size, 0, none⟩) 2 c')) w') :
    if Region.wanted o (yielded ops a.tmps) = true then Oper.wp Tryz.prog o a w K Q else E := by
  have hw : Region.wanted o (yielded ops a.tmps) = true := by simp [Region.wanted, hgd]
  rw [if_pos hw]
  obtain ⟨i0, hi, hz0, hz1, hz2⟩ := info_parts Tryz.infoExpr
  obtain ⟨b, cur, fz, T1, x1, hb, hcur, hcx, hx1⟩ := h1 0 e1 rfl
  obtain ⟨T2, x2, rfl⟩ := h3.face
  injection hb with hb
  injection hb with hb
  subst hb
  have hce := cell_of_expr hcur hcx
  have hr := run_append_grow (P := Tryz.prog) w 123 o.type 67 i0 .nilIface Tryz.underlying123 hi hz0 ⟨b1, 0, none⟩ 1 1 [.iface T1 x1] (by rw [hz1]; rfl)
    (by intro j v hj; match j, hj with | 0, hj => simp at hj; subst hj; rw [Addr.add_lit]; exact hce) A2 1 c [.iface T2 x2] (by rw [hz1]; rfl)
    (by intro j v hj; match j, hj with | 0, hj => simp at hj; subst hj; exact h2) (by omega) (by omega) (by rw [hz2]; exact growslice_fits (by omega) (by omega))
  have hk := h (grownCap w (1 + 1) 1 67) (w.drew.alloc (.cells ([Value.iface T1 x1].toArray ++ [Value.iface T2 x2].toArray ++ Builtin.zeroCells Value.nilIface.cells (grownCap w (1 + 1) 1 67 - (1 + 1))) 67)) (by
    intro i e he
    match i, he with
    | 0, he =>
      simp at he
      subst he
      exact ⟨w.heap.size, _, (0, 0), T1, x1, rfl, heap_alloc_new w.drew _, (Array.getElem?_append_left (by simp)).trans rfl, hx1⟩
    | 1, he =>
      simp at he
      subst he
      exact ⟨w.heap.size, _, (0, 0), T2, x2, rfl, heap_alloc_new w.drew _, (Array.getElem?_append_left (by simp)).trans rfl, h3⟩
    | i + 2, he => simp at he) (((Below.refl w.heap.size w).drew).alloc (Nat.le_refl _) _)
  unfold Oper.wp execOp
  simp only [ho, resolve, invoke, builtin, Sem.run_bind, Sem.run_pure, Result.andThen_ok, List.map_toArray, List.map_cons, List.map_nil, hs, hx, hr]
  exact hk

theorem bx2 {B N : Nat} {v0 v1 : Value} {t : TypeId} {w W : World} (h : Kp B N #[v0, v1] t w W) : W.cell? ⟨N, 0, none⟩ = some v0 ∧ W.cell? ⟨N, 1, none⟩ = some v1 ∧ Kp B N #[v0, v1] t w W := ⟨h.cell 0 _ rfl, h.cell 1 _ rfl, h⟩
theorem sK2 {B N : Nat} {v0 v1 : Value} {t : TypeId} {w W : World} (h : W.cell? ⟨N, 0, none⟩ = some v0 ∧ W.cell? ⟨N, 1, none⟩ = some v1 ∧ Kp B N #[v0, v1] t w W) : Kp B N #[v0, v1] t w W := h.2.2
theorem sB2 {B N : Nat} {v0 v1 : Value} {t : TypeId} {w W : World} (h : W.cell? ⟨N, 0, none⟩ = some v0 ∧ W.cell? ⟨N, 1, none⟩ = some v1 ∧ Kp B N #[v0, v1] t w W) : B ≤ W.heap.size := h.2.2.2.2
theorem sL2 {B N : Nat} {v0 v1 : Value} {t : TypeId} {w W : World} (h : W.cell? ⟨N, 0, none⟩ = some v0 ∧ W.cell? ⟨N, 1, none⟩ = some v1 ∧ Kp B N #[v0, v1] t w W) : Below B w W := h.2.2.1.1
theorem sF2 {B N : Nat} {v0 v1 : Value} {t : TypeId} {w W : World} (h : W.cell? ⟨N, 0, none⟩ = some v0 ∧ W.cell? ⟨N, 1, none⟩ = some v1 ∧ Kp B N #[v0, v1] t w W) : Fr B w W := h.2.2.1
theorem all_pair (g : Nat) (w0 : World) (e b : Ex) (he : FlatOk e) (hb' : FlatOk b) (L M' : List Nd) (hM : M' = L ++ (M.flat e ++ M.flat b)) (n : Nat) (hn : n = M'.length) (hl : n ≤ 1000) (W : World) (A c : Nat) (v : Value) (hE : ExRow g w0 W (some ⟨A, 0, none⟩) [e, b]) (hb : Below w0.heap.size w0 W) (hN : Nds w0.heap.size W v L) :
    Calls Tryz.prog 262 #[v, .slice (some ⟨A, 0, none⟩) 2 c] W fun en w' => ∃ a' c', en = .returned (.slice a' n c') ∧ Nds w0.heap.size w' (.slice a' n c') M' ∧ Fr w0.heap.size W w' := by
  have e1 : L ++ [e, b].flatMap M.flat = M' := by rw [hM]; simp
  have h := flats_any g w0 W (some ⟨A, 0, none⟩) c v L [e, b] hE (by intro e' h'; simp at h'; rcases h' with rfl | rfl <;> assumption) hb hN (by rw [← List.length_append, e1]; omega)
  rw [e1] at h
  refine h.mono ?_
  rintro en w' ⟨v', rfl, h1, h2⟩
  obtain ⟨a', c', rfl⟩ := h1.view
  rw [← hn] at h1 ⊢
  exact ⟨a', c', rfl, h1, h2⟩

set_option maxRecDepth 20000 in
set_option maxHeartbeats 16000000 in
theorem flat_pick (e b : Ex) (he : FlatOk e) (hb' : FlatOk b) : FlatOk (.pick e b) := by
  intro g w0 w T x v l hx hb hN hl
  obtain ⟨ve, vb, A2, c2, e0, hgA, hA, hE, hB⟩ := hx
  cases e0
  show Calls Tryz.prog 268 _ w _
  obtain ⟨a, c, rfl⟩ := hN.view
  obtain ⟨Te, xe, rfl⟩ := hE.face
  have hs := hb.size
  have hAl : A2 < w0.heap.size := World.block_lt_of_cell? _ _ hA
  have hAw : w.cell? ⟨A2, 0, none⟩ = some vb := (hb.cell hAl).trans hA
  simp only [M.flat, List.length_cons, List.length_append] at hl
  obtain ⟨L3, e3⟩ : ∃ L3, L3 = l ++ [(⟨8, 0, 0, 0, 1, [], ⟨#[]⟩⟩ : Nd)] := ⟨_, rfl⟩
  obtain ⟨L4, e4⟩ : ∃ L4, L4 = L3 ++ (M.flat e ++ M.flat b) := ⟨_, rfl⟩
  obtain ⟨n4, h4⟩ : ∃ n4, n4 = L4.length := ⟨_, rfl⟩
  have hn3 : L3.length = l.length + 1 := by rw [e3]; simp
  have hn4 : n4 ≤ 1000 := by rw [h4, e4, List.length_append, List.length_append, hn3]; omega
  have hfin : L4 = l ++ M.flat (.pick e b) := by rw [e4, e3]; simp [M.flat]
  have hl1 : l.length < 1000 := by omega
  have kA := all_pair g w0 e b he hb' L3 L4 e4 n4 h4 hn4
  have hb1 : Below w.heap.size w (w.alloc (.cells #[.iface Te xe, .slice (some ⟨A2, 0, none⟩) 1 c2] 147)).drew := ((Below.refl _ w).alloc (Nat.le_refl _) _).drew
  have N1 : Nds w0.heap.size (w.alloc (.cells #[.iface Te xe, .slice (some ⟨A2, 0, none⟩) 1 c2] 147)).drew (.slice a l.length c) l := hN.below hb1
  have K1 : Kp w0.heap.size w.heap.size #[.iface Te xe, .slice (some ⟨A2, 0, none⟩) 1 c2] 147 w (w.alloc (.cells #[.iface Te xe, .slice (some ⟨A2, 0, none⟩) 1 c2] 147)).drew := ⟨Fr.of_below hb1 hs, heap_alloc_new w _, Nat.le_trans hs hb1.size⟩
  have kc : ∀ W, Below w0.heap.size w W → W.cell? ⟨A2, 0, none⟩ = some vb := fun W h => (h.cell hAl).trans hAw
  replace hb := Lib.hid hb
  replace kA := Lib.hid kA
  replace kc := Lib.hid kc
  replace e3 := Lib.hid e3
  replace hfin := Lib.hid hfin
  replace hB := Lib.hid hB
  clear hl hb1 hN e4 h4 hn3 hn4 he hb' hA hAw hgA
  obtain ⟨W1, hW1⟩ : ∃ W1 : World, W1 = w.alloc (.cells #[.iface Te xe, .slice (some ⟨A2, 0, none⟩) 1 c2] 147) := ⟨_, rfl⟩
  rw [← hW1] at N1 K1
  have hW1' := Lib.hid hW1.symm
  replace hW1 := Lib.hid hW1
  go_enter Tryz.func268, Tryz.ntmps268
  go_upto_region 1 with fail
  rw [hW1'.out]
  generalize hN : w.heap.size = N at *
  have S1 := bx2 K1
  go_region_held3 (fun W => W.cell? ⟨N, 0, none⟩ = some (.iface Te xe) ∧ W.cell? ⟨N, 1, none⟩ = some (.slice (some ⟨A2, 0, none⟩) 1 c2) ∧ Kp w0.heap.size N #[.iface Te xe, .slice (some ⟨A2, 0, none⟩) 1 c2] 147 w W)
    (first | (with_reducible assumption) | (exact bx2 (Kp.fr (sK2 (by with_reducible assumption)) hF (by decide))) | (exact bx2 (Kp.alloc (sK2 (by with_reducible assumption)) (by decide) _)))
    (first
      | (refine step_app_N (o := { dst := some 11, op := .call { callee := .builtin .append, args := #[.tmp 5, .tmp 10], argTypes := #[50, 50] }, type := 50, pos := "tree.go:70", after := _, guard := none }) rfl (.tmp 5) (.tmp 10) rfl w0.heap.size (.slice a l.length c) l ⟨8, 0, 0, 0, 1, [], ⟨#[]⟩⟩ (.slice none 0 0) _ rfl (by (first | (with_reducible first | assumption | exact Nds.alloc (by assumption) _ | exact Nds.alloc (Nds.alloc (by assumption) _) _ | exact Nds.dalloc (by assumption) _ | exact Nds.alloc (Nds.dalloc (by assumption) _) _ | exact Nds.dalloc (Nds.dalloc (by assumption) _) _) | (with_reducible exact Nds.alloc (Nds.alloc (Nds.alloc (by assumption) _) _) _))) rfl (by first | exact nd_cells _ ⟨8, 0, 0, 0, 1, [], ⟨#[]⟩⟩ (.slice none 0 0) 76 _ (by simp) | exact nd_cells2 _ ⟨8, 0, 0, 0, 1, [], ⟨#[]⟩⟩ (.slice none 0 0) 76 _ _ (by simp) | exact nd_cells3 _ ⟨8, 0, 0, 0, 1, [], ⟨#[]⟩⟩ (.slice none 0 0) 76 _ _ _ (by simp)) (Own.nil _ _) (by omega) (sB2 (by with_reducible assumption)) ?_; intro a3 c3 w3 N3 hF; rw [← e3.out] at N3; (try (have R : ExRow g w0 w3 (some ⟨_, 0, none⟩) [e] := ExRow.fr (by (first | (with_reducible first | assumption | exact ExRow.alloc (by assumption) _ | exact ExRow.alloc (ExRow.alloc (by assumption) _) _ | exact exrow_new _ hE | exact exrow_dnew _ hE | exact ExRow.alloc (exrow_new _ hE) _ | exact ExRow.alloc (ExRow.alloc (exrow_new _ hE) _) _) | (with_reducible exact ExRow.dalloc (by assumption) _) | (with_reducible exact ExRow.dalloc (exrow_dnew _ hE) _) | (with_reducible exact exrow_newb _ (by simp) hE) | (with_reducible exact ExRow.alloc (exrow_newb _ (by simp) hE) _))) hF)); (try simp only [World.size_alloc] at R); (try (have R2 : ExRow g w0 w3 (some ⟨_, 0, none⟩) [e, b] := ExRow.fr (by (first | (with_reducible first | assumption | exact ExRow.alloc (by assumption) _ | exact ExRow.alloc (ExRow.alloc (by assumption) _) _) | (with_reducible exact ExRow.dalloc (by assumption) _))) hF)); (try simp only [World.size_alloc] at R2))
      | (refine step_app_X (o := { dst := some 17, op := .call { callee := .builtin .append, args := #[.tmp 14, .tmp 16], argTypes := #[123, 123] }, type := 123, pos := "tree.go:70", after := _, guard := none }) rfl (.tmp 14) (.tmp 16) rfl g w0 e b _ ⟨A2, 0, none⟩ c2 vb rfl rfl (by (first | (with_reducible first | assumption | exact ExRow.alloc (by assumption) _ | exact ExRow.alloc (ExRow.alloc (by assumption) _) _ | exact exrow_new _ hE | exact exrow_dnew _ hE | exact ExRow.alloc (exrow_new _ hE) _ | exact ExRow.alloc (ExRow.alloc (exrow_new _ hE) _) _) | (with_reducible exact ExRow.dalloc (by assumption) _) | (with_reducible exact ExRow.dalloc (exrow_dnew _ hE) _) | (with_reducible exact exrow_newb _ (by simp) hE) | (with_reducible exact ExRow.alloc (exrow_newb _ (by simp) hE) _))) (kc.out _ (sL2 (by with_reducible assumption))) hB.out ?_; intro c4 w4 R2 hb2; have hF := Fr.of_below hb2 (sB2 (by with_reducible assumption)); (try simp only [World.size_alloc] at R2); (try (have N4 : Nds w0.heap.size w4 (.slice a l.length c) l := Nds.below (by (first | (with_reducible first | assumption | exact Nds.alloc (by assumption) _ | exact Nds.alloc (Nds.alloc (by assumption) _) _ | exact Nds.dalloc (by assumption) _ | exact Nds.alloc (Nds.dalloc (by assumption) _) _ | exact Nds.dalloc (Nds.dalloc (by assumption) _) _) | (with_reducible exact Nds.alloc (Nds.alloc (Nds.alloc (by assumption) _) _) _))) hb2)); (try (have N4 : Nds w0.heap.size w4 (.slice _ (l.length + 1) _) L3 := Nds.below (by (first | (with_reducible first | assumption | exact Nds.alloc (by assumption) _ | exact Nds.alloc (Nds.alloc (by assumption) _) _ | exact Nds.dalloc (by assumption) _ | exact Nds.alloc (Nds.dalloc (by assumption) _) _ | exact Nds.dalloc (Nds.dalloc (by assumption) _) _) | (with_reducible exact Nds.alloc (Nds.alloc (Nds.alloc (by assumption) _) _) _))) hb2)))
      | (go_at_call 262; refine (kA.out _ _ _ _ (by (first | (with_reducible first | assumption | exact ExRow.alloc (by assumption) _ | exact ExRow.alloc (ExRow.alloc (by assumption) _) _) | (with_reducible exact ExRow.dalloc (by assumption) _))) (hb.out.trans (sL2 (by with_reducible assumption))) (by (first | (with_reducible first | assumption | exact Nds.alloc (by assumption) _ | exact Nds.alloc (Nds.alloc (by assumption) _) _ | exact Nds.dalloc (by assumption) _ | exact Nds.alloc (Nds.dalloc (by assumption) _) _ | exact Nds.dalloc (Nds.dalloc (by assumption) _) _) | (with_reducible exact Nds.alloc (Nds.alloc (Nds.alloc (by assumption) _) _) _)))).mono ?_; rintro en w5 ⟨a5, c5, rfl, N5, hF⟩))
  all_goals (go_wp2; go_ret; exact ⟨_, rfl, by rw [← hfin.out]; exact N5, sF2 (by with_reducible assumption)⟩)
/-- Every expression whose numbers are few. -/
def Ex.few : Ex → Prop
  | .nums l => l.length < 100000
  | .name _ => True
  | .one _ _ _ r => r.few
  | .two l _ _ _ r => l.few ∧ r.few
  | .pick e b => e.few ∧ b.few
theorem flat_few : ∀ e : Ex, e.few → FlatOk e
  | .nums l, h => flat_nums l h
  | .name s, _ => flat_name s
  | .one o f g r, h => flat_one o f g r (flat_few r h)
  | .two l o f g r, h => flat_two l o f g r (flat_few l h.1) (flat_few r h.2)
  | .pick e b, h => flat_pick e b (flat_few e h.1) (flat_few b h.2)
end Go.Proofs.YtaplaoelamnoiaaGreatDoor
