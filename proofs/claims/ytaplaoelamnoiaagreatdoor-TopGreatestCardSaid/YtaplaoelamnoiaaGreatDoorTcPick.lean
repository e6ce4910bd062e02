/- The walker's method expression in tree.Check at a pick with one subscript. Condition: as in TcExpr. -/
import Derived.Test.YtaplaoelamnoiaaGreatDoorBg16
import Derived.Laws.Append
import Derived.Deep.RegionLaw
import Derived.LoopN
namespace Go.Proofs.YtaplaoelamnoiaaGreatDoor
open Go.RowKit

theorem Tryz.infoExprT : (Tryz.prog.info? 67).map (fun i => (i.zero, i.size, i.bytes)) = some (some .nilIface, 1, 16) := by kernel_rfl
/-- The first expression of a row. -/
theorem step_app_X1 {w : World} {ops : Array Oper} {o : Oper} {a : Act} {K : Act → World → Prop} {Q : Exit → Act → World → Prop} {E : Prop} (hgd : o.guard = none) (s x : Operand) (ho : o.op = .call { callee := .builtin .append, args := #[s, x], argTypes := #[123, 123] })
    (A2 : Addr) (c : Nat) (v : Value) (hs : a.eval s = .slice none 0 0) (hx : a.eval x = .slice (some A2) 1 c) (hc : w.cell? A2 = some v)
    (h : ∀ p c' w', Below w.heap.size w w' → K (a.put o.dst (.slice (some p) 1 c')) w') :
    if Region.wanted o (yielded ops a.tmps) = true then Oper.wp Tryz.prog o a w K Q else E := by
  have hw : Region.wanted o (yielded ops a.tmps) = true := by simp [Region.wanted, hgd]
  rw [if_pos hw]
  obtain ⟨i0, hi, hz0, hz1, hz2⟩ := info_parts Tryz.infoExprT
  have hr := run_append_nil (P := Tryz.prog) w 123 o.type 67 i0 .nilIface Tryz.underlying123 hi hz0 A2 1 c [v] (by rw [hz1]; rfl)
    (by intro j u hj; match j, hj with | 0, hj => simp at hj; subst hj; exact hc) (by omega) (by omega) (by rw [hz2]; omega)
  have hk := h ⟨w.heap.size, 0, none⟩ (grownCap w 1 0 67) (w.drew.alloc (.cells ([v].toArray ++ Builtin.zeroCells Value.nilIface.cells (grownCap w 1 0 67 - 1)) 67)) (((Below.refl w.heap.size w).drew).alloc (Nat.le_refl _) _)
  unfold Oper.wp execOp
  simp only [ho, resolve, invoke, builtin, Sem.run_bind, Sem.run_pure, Result.andThen_ok, List.map_toArray, List.map_cons, List.map_nil, hs, hx, hr]
  exact hk

set_option maxRecDepth 20000 in
set_option maxHeartbeats 16000000 in
theorem wex_pick (l r : Ex) (hg : (Ex.pick l r).good) (hlx : WexOk l) (hr : WexOk r) : WexOk (.pick l r) := by
  intro g tb tc T pre post w i j hE hi hj hsp hl
  have hnode : T[i]? = some (⟨8, 0, 0, 0, 1, [], ⟨#[]⟩⟩ : Nd) := by rw [hsp, hi, List.getElem?_append_right (Nat.le_refl _), Nat.sub_self]; rfl
  obtain ⟨a0, cc, t0, t1, t2, t3, t4, t5, t6, rn, on⟩ := hE.nodes.2 _ _ hnode
  have hlt : i < T.length := (List.getElem?_eq_some_iff.1 hnode).1
  obtain ⟨⟨c0, c1, -⟩, d1⟩ := id hE.1
  have kl := fun W hW => hlx g tb tc T (pre ++ [(⟨8, 0, 0, 0, 1, [], ⟨#[]⟩⟩ : Nd)]) (M.flat r ++ post) W (i + 1) (i + 1 + (M.flat l).length) hW (by rw [hi]; simp) rfl (by rw [hsp]; simp [M.flat]) hl
  have ke := fun W hW => hr g tb tc T (pre ++ (⟨8, 0, 0, 0, 1, [], ⟨#[]⟩⟩ : Nd) :: M.flat l) post W (i + 1 + (M.flat l).length) (i + 1 + (M.flat l).length + (M.flat r).length) hW (by rw [hi]; simp; omega) rfl (by rw [hsp]; simp [M.flat]) hl
  have ej : j = i + 1 + (M.flat l).length + (M.flat r).length := by rw [hj]; simp [M.flat]; omega
  obtain ⟨nl, hnl⟩ : ∃ nl, nl = T.length := ⟨_, rfl⟩
  rw [← hnl] at c0 hlt hl
  have kr := fun W hT h8 => right_any (.pick l r) hg a0 cc W hT h8
  dsimp only [M.node, List.length_nil] at kr t0 t1 t2 t3 t4 t5 t6
  replace ke := Lib.hid ke
  replace kl := Lib.hid kl
  replace hg := Lib.hid hg
  replace hj := ej
  clear ej
  have zge : decide (((nl : Nat) : Int) ≤ ((i : Nat) : Int)) = false := decide_eq_false (by omega)
  have zge2 : decide (nl ≤ i) = false := decide_eq_false (by omega)
  have z0 : (0 : Int) ≤ ((i : Nat) : Int) := by omega
  have z1 : ((i : Nat) : Int) < ((nl : Nat) : Int) := by omega
  have zz : ((i : Nat) : Int).toNat = i := by simp
  have hi4 : i ≤ 400 := by omega
  have gl := hE.glt
  have g8 : 8 ≤ g := hE.2.1.2.2
  have SS : w.drew.cell? ⟨g, 0, none⟩ = some (.slice (some ⟨tb, 0, none⟩) nl tc) ∧ w.drew.cell? ⟨g, 1, none⟩ = some (.int .i64 i) ∧ w.drew.cell? ⟨tb, i * 7, none⟩ = some (.int .i64 8) ∧ w.drew.cell? ⟨tb, i * 7 + 1, none⟩ = some (.int .i64 0) ∧ w.drew.cell? ⟨tb, i * 7 + 2, none⟩ = some (.int .i64 0) ∧ w.drew.cell? ⟨tb, i * 7 + 3, none⟩ = some (.int .i64 0) ∧ w.drew.cell? ⟨tb, i * 7 + 4, none⟩ = some (.int .i64 1) ∧ w.drew.cell? ⟨tb, i * 7 + 5, none⟩ = some (.slice a0 0 cc) ∧ w.drew.cell? ⟨tb, i * 7 + 6, none⟩ = some (.string ⟨#[]⟩) := ⟨c0, c1, t0, t1, t2, t3, t4, t5, t6⟩
  replace kr := Lib.hid kr
  replace hE := Lib.hid hE
  replace hnl := Lib.hid hnl
  replace hsp := Lib.hid hsp
  replace hi := Lib.hid hi
  replace hj := Lib.hid hj
  replace hnode := Lib.hid hnode
  replace rn := Lib.hid rn
  replace on := Lib.hid on
  replace d1 := Lib.hid d1
  clear c0 c1 t0 t1 t2 t3 t4 t5 t6
  go_enter Tryz.func66, Tryz.ntmps66
  go_upto_region 1 with fail
  go_region_held3 (fun W => W.cell? ⟨g, 0, none⟩ = some (.slice (some ⟨tb, 0, none⟩) nl tc) ∧ W.cell? ⟨g, 1, none⟩ = some (.int .i64 i) ∧ W.cell? ⟨tb, i * 7, none⟩ = some (.int .i64 8) ∧ W.cell? ⟨tb, i * 7 + 1, none⟩ = some (.int .i64 0) ∧ W.cell? ⟨tb, i * 7 + 2, none⟩ = some (.int .i64 0) ∧ W.cell? ⟨tb, i * 7 + 3, none⟩ = some (.int .i64 0) ∧ W.cell? ⟨tb, i * 7 + 4, none⟩ = some (.int .i64 1) ∧ W.cell? ⟨tb, i * 7 + 5, none⟩ = some (.slice a0 0 cc) ∧ W.cell? ⟨tb, i * 7 + 6, none⟩ = some (.string ⟨#[]⟩))
    (first | (with_reducible assumption) | (exact held9 hb (by with_reducible assumption)) | go_keep)
    ((go_at_call 65; refine (kr.out w.drew (show Tz w.drew from (hE.out.drewN 1).tz) (by show 8 ≤ w.heap.size; omega)).mono ?_; rintro en w2 ⟨rfl, hb⟩))
  have E2 := Lib.hid ((show WkAt g tb tc T i w w.drew from hE.out.drewN 1).step hb)
  have S2 := held9 hb SS
  have gl2 : g < w2.heap.size := E2.out.1.lt
  have tl2 : tb < w2.heap.size := World.block_lt_of_cell? _ _ S2.2.2.1
  have wl2 : w.heap.size ≤ w2.heap.size := E2.out.le
  have hS : ∀ (ob : Obj), (w2.alloc ob).cell? ⟨g, 0, none⟩ = some (.slice (some ⟨tb, 0, none⟩) nl tc) ∧ (w2.alloc ob).cell? ⟨g, 1, none⟩ = some (.int .i64 i) ∧ (w2.alloc ob).cell? ⟨tb, i * 7, none⟩ = some (.int .i64 8) ∧ (w2.alloc ob).cell? ⟨tb, i * 7 + 1, none⟩ = some (.int .i64 0) ∧ (w2.alloc ob).cell? ⟨tb, i * 7 + 2, none⟩ = some (.int .i64 0) ∧ (w2.alloc ob).cell? ⟨tb, i * 7 + 3, none⟩ = some (.int .i64 0) ∧ (w2.alloc ob).cell? ⟨tb, i * 7 + 4, none⟩ = some (.int .i64 1) ∧ (w2.alloc ob).cell? ⟨tb, i * 7 + 5, none⟩ = some (.slice a0 0 cc) ∧ (w2.alloc ob).cell? ⟨tb, i * 7 + 6, none⟩ = some (.string ⟨#[]⟩) := fun ob =>
    have eg : (w2.alloc ob).heap[g]? = w2.heap[g]? := heap_alloc_old _ _ gl2
    have et : (w2.alloc ob).heap[tb]? = w2.heap[tb]? := heap_alloc_old _ _ tl2
    ⟨(cell_of_eq eg _).trans S2.1, (cell_of_eq eg _).trans S2.2.1, (cell_of_eq et _).trans S2.2.2.1, (cell_of_eq et _).trans S2.2.2.2.1, (cell_of_eq et _).trans S2.2.2.2.2.1, (cell_of_eq et _).trans S2.2.2.2.2.2.1, (cell_of_eq et _).trans S2.2.2.2.2.2.2.1, (cell_of_eq et _).trans S2.2.2.2.2.2.2.2.1, (cell_of_eq et _).trans S2.2.2.2.2.2.2.2.2⟩
  clear hb SS
  obtain ⟨c0, c1, t0, t1, t2, t3, t4, t5, t6⟩ := S2
  obtain ⟨p0, p1, p2, p3, p4, p5, p6, p7, p8⟩ := hS (.cells #[.int .i64 0, .int .i64 0, .int .i64 0, .int .i64 0, .int .i64 0, .slice none 0 0, .string ⟨#[]⟩] 76)
  replace hS := Lib.hid hS
  go_wp2_with fail
  go_region
  have hb3 : Below w2.heap.size w2 (w2.alloc (.cells #[.int .i64 8, .int .i64 0, .int .i64 0, .int .i64 0, .int .i64 1, .slice a0 0 cc, .string ⟨#[]⟩] 76)).drew := ((Below.refl _ w2).alloc (Nat.le_refl _) _).drew
  have N3 : BoxC w2.heap.size [.int .i64 8, .int .i64 0, .int .i64 0, .int .i64 0, .int .i64 1, .slice a0 0 cc, .string ⟨#[]⟩] (w2.alloc (.cells #[.int .i64 8, .int .i64 0, .int .i64 0, .int .i64 0, .int .i64 1, .slice a0 0 cc, .string ⟨#[]⟩] 76)).drew := (boxC_alloc w2 #[.int .i64 8, .int .i64 0, .int .i64 0, .int .i64 0, .int .i64 1, .slice a0 0 cc, .string ⟨#[]⟩] 76).same rfl
  clear p0 p1 p2 p3 p4 p5 p6 p7 p8 t0 t1 t2 t3 t4 t5 t6 c0 c1 hS
  have E3 := E2.out.step hb3
  have ns3 : Hid (w2.heap.size < (w2.alloc (.cells #[.int .i64 8, .int .i64 0, .int .i64 0, .int .i64 0, .int .i64 1, .slice a0 0 cc, .string ⟨#[]⟩] 76)).drew.heap.size) := Lib.hid (by simp)
  generalize (w2.alloc (.cells #[.int .i64 8, .int .i64 0, .int .i64 0, .int .i64 0, .int .i64 1, .slice a0 0 cc, .string ⟨#[]⟩] 76)).drew = w3 at *
  obtain ⟨⟨c0, c1, -⟩, d1'⟩ := id E3.1
  have E4 := Lib.hid (E3.setAt (i + 1) (.int .i64 ((i : Nat) + 1 : Int)) (by simp))
  have ng : g ≠ w2.heap.size := by omega
  obtain ⟨y0, -⟩ := N3 0 _ rfl
  obtain ⟨y1, -⟩ := N3 1 _ rfl
  obtain ⟨y2, -⟩ := N3 2 _ rfl
  obtain ⟨y3, -⟩ := N3 3 _ rfl
  obtain ⟨y4, -⟩ := N3 4 _ rfl
  obtain ⟨y5, -⟩ := N3 5 _ rfl
  obtain ⟨y6, -⟩ := N3 6 _ rfl
  have N3x := Lib.hid N3
  clear hb3 E3 E2 N3
  have B3z : True := trivial
  clear B3z
  obtain ⟨w4, hw4⟩ : ∃ w4 : World, w4 = w3.setCell ⟨g, 1, none⟩ (.int .i64 ((i : Nat) + 1 : Int)) := ⟨_, rfl⟩
  have N4 : BoxC w2.heap.size [.int .i64 8, .int .i64 0, .int .i64 0, .int .i64 0, .int .i64 1, .slice a0 0 cc, .string ⟨#[]⟩] w4 := by rw [hw4]; exact N3x.out.far _ ng _
  have ns4 : Hid (w2.heap.size < w4.heap.size) := Lib.hid (by rw [hw4, World.size_setCell]; exact ns3.out)
  rw [← hw4] at E4
  have hw4' := Lib.hid hw4.symm
  replace hw4 := Lib.hid hw4
  replace N4 := Lib.hid N4
  go_wp2_with fail
  rw [hw4'.out]
  refine (kl.out _ E4.out.self).mono ?_
  rintro en w8 ⟨X8, x8, rfl, hP8⟩
  clear y0 y1 y2 y3 y4 y5 y6 c0 c1
  have E8 := Lib.hid (E4.out.trans hP8)
  have N8 := N4.out.but hP8.2.2.1 ns4.out (by omega)
  clear hP8
  obtain ⟨y0, -⟩ := N8 0 _ rfl
  obtain ⟨y1, -⟩ := N8 1 _ rfl
  obtain ⟨y2, -⟩ := N8 2 _ rfl
  obtain ⟨y3, -⟩ := N8 3 _ rfl
  obtain ⟨y4, -⟩ := N8 4 _ rfl
  obtain ⟨y5, -⟩ := N8 5 _ rfl
  obtain ⟨y6, -⟩ := N8 6 _ rfl
  clear N8
  clear y0 y1 y2 y3 y5 y6
  obtain ⟨PB, hPB⟩ : ∃ PB, PB = w8.heap.size := ⟨_, rfl⟩
  have hb9 := (Below.refl w8.heap.size w8).alloc (Nat.le_refl _) (.cells #[.iface X8 x8, .slice none 0 0] 147)
  have B9 := boxC_alloc w8 #[.iface X8 x8, .slice none 0 0] 147
  have E9 := E8.out.step hb9
  have n9 := (hb9.cell (p := ⟨w2.heap.size, 4, none⟩) (World.block_lt_of_cell? w8 _ y4)).trans y4
  have hgP : g ≠ w8.heap.size := by have := E8.out.le; omega
  have hPw : w.heap.size ≤ w8.heap.size := E8.out.le
  obtain ⟨w9, hw9⟩ : ∃ w9 : World, w9 = w8.alloc (.cells #[.iface X8 x8, .slice none 0 0] 147) := ⟨_, rfl⟩
  rw [← hw9] at hb9 B9 E9
  have s9 : w9.heap.size = w8.heap.size + 1 := by rw [hw9]; simp
  have hw9' := Lib.hid hw9.symm
  replace hw9 := Lib.hid hw9
  obtain ⟨y0, f0⟩ := B9 0 _ rfl
  obtain ⟨y1, f1⟩ := B9 1 _ rfl
  clear hb9 y4
  replace B9 := Lib.hid B9
  replace E9 := Lib.hid E9
  go_wp2
  rw [hw9'.out]
  have hgl : g < w8.heap.size := E8.out.1.lt
  have hPl : w8.heap.size < w9.heap.size := by omega
  clear n9
  refine wp_loop_rounds 2 ?_
  rw [rounds_succ]
  go_upto_region 27 with fail
  go_region_law (first
    | (go_simp; go_at_call 66; refine (ke.out _ (show WkAt g tb tc T (i + 1 + (M.flat l).length) _ w9.drew from (E9.out.drewN 1).self)).mono ?_; rintro en w10 ⟨X10, x10, rfl, hP10⟩; have z0 := (cell_of_eq (hP10.2.2.1 w8.heap.size (by show w8.heap.size < w9.drew.heap.size; exact hPl) (Ne.symm hgP)) 0).trans y0; have z1 := (cell_of_eq (hP10.2.2.1 w8.heap.size (by show w8.heap.size < w9.drew.heap.size; exact hPl) (Ne.symm hgP)) 1).trans y1; have g1 := (frozen_of_eq (hP10.2.2.1 w8.heap.size (by show w8.heap.size < w9.drew.heap.size; exact hPl) (Ne.symm hgP)) 1).trans f1; have z1x := ((push (start w10) (.cells #[.iface X10 x10] 67)).cell (p := ⟨w8.heap.size, 1, none⟩) (World.block_lt_of_cell? w10 _ z1)).trans z1; have hP := Lib.hid hP10; clear hP10)
    | (refine step_app_X1 rfl (.tmp 116) (.tmp 119) rfl ⟨w10.heap.size, 0, none⟩ 1 (.iface X10 x10) rfl rfl (boxC_alloc w10 #[.iface X10 x10] 67 0 _ rfl).1 ?_; intro p cp w11 hb11; have hal := push (start w10) (.cells #[.iface X10 x10] 67); have hl10 : w8.heap.size < w10.heap.size := World.block_lt_of_cell? w10 _ z1; have hl11 : w8.heap.size < (w10.alloc (.cells #[.iface X10 x10] 67)).heap.size := (by rw [World.size_alloc]; omega); have u0 := ((hb11.cell (p := ⟨w8.heap.size, 0, none⟩) hl11).trans (hal.cell (p := ⟨w8.heap.size, 0, none⟩) hl10)).trans z0; have u1 := ((hb11.cell (p := ⟨w8.heap.size, 1, none⟩) hl11).trans (hal.cell (p := ⟨w8.heap.size, 1, none⟩) hl10)).trans z1; have v1 := ((hb11.frozen (p := ⟨w8.heap.size, 1, none⟩) hl11).trans (hal.frozen (p := ⟨w8.heap.size, 1, none⟩) hl10)).trans g1; have hQ := Lib.hid ((hP.out.step hal).step hb11)))
  all_goals (go_wp2; rw [rounds_succ]; go_wp2; go_ret; exact ⟨_, _, rfl, by rw [hj.out]; exact ((E9.out.drewN 1).trans hQ.out).setNew hPw _ _⟩)
/-- Every tree is walked. -/
theorem wex_good (e : Ex) (h : e.good) : WexOk e := wex_any (fun e b he hb k1 k2 => wex_pick e b ⟨he, hb⟩ k1 k2) e h
end Go.Proofs.YtaplaoelamnoiaaGreatDoor
