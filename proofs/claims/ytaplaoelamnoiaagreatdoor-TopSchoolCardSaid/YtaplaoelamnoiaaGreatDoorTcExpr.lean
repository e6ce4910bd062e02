/- The walker's method expression in tree.Check. Condition: the walker, the nodes and the library's tables lie. -/
import Derived.Test.YtaplaoelamnoiaaGreatDoorBd14
import Derived.Test.YtaplaoelamnoiaaGreatDoorBd08
import Derived.Test.YtaplaoelamnoiaaGreatDoorBd10
import Derived.Deep.RegionHeld3
namespace Go.Proofs.YtaplaoelamnoiaaGreatDoor
open Go.RowKit

/-- The walker over nodes, at the i-th one: w at its start, W now. -/
def WkAt (g tb tc : Nat) (T : List Nd) (i : Nat) (w W : World) : Prop := PSt g tb tc T.length i W ∧ (NdAt g tb T w ∧ Tz w ∧ 8 ≤ g) ∧ But g w W ∧ Below g w W ∧ g < w.heap.size
section
variable {g tb tc : Nat} {T : List Nd} {i j : Nat} {w W W2 : World}
theorem WkAt.nodes (h : WkAt g tb tc T i w W) : NdAt g tb T W := h.2.1.1.but h.2.2.1
theorem WkAt.tz (h : WkAt g tb tc T i w W) : Tz W := h.2.1.2.1.below h.2.2.2.1 h.2.1.2.2
theorem WkAt.le (h : WkAt g tb tc T i w W) : w.heap.size ≤ W.heap.size := h.2.2.2.1.size
theorem WkAt.glt (h : WkAt g tb tc T i w W) : g < w.heap.size := h.2.2.2.2
theorem WkAt.step (h : WkAt g tb tc T i w W) (k : Below W.heap.size W W2) : WkAt g tb tc T i w W2 := by
  obtain ⟨h1, h2, h3, h4, h5⟩ := h
  have hs := h4.size
  exact ⟨h1.same (k.block g (by omega)), h2, h3.below k hs, h4.trans (k.mono (by omega)), h5⟩
theorem WkAt.drewN (h : WkAt g tb tc T i w W) (n : Nat) : WkAt g tb tc T i w (W.drewN n) := h.step (below_drewN (Below.refl _ _) n)
theorem WkAt.alloc (h : WkAt g tb tc T i w W) (o : Obj) : WkAt g tb tc T i w (W.alloc o) := h.step ((Below.refl _ W).alloc (Nat.le_refl _) o)
theorem WkAt.trans (h : WkAt g tb tc T i w W) (k : WkAt g tb tc T j W W2) : WkAt g tb tc T j w W2 := by
  obtain ⟨h1, h2, h3, h4, h5⟩ := h
  obtain ⟨k1, k2, k3, k4, k5⟩ := k
  exact ⟨k1, h2, h3.trans k3 h4.size, h4.trans k4, h5⟩
theorem WkAt.self (h : WkAt g tb tc T i w W) : WkAt g tb tc T i W W := ⟨h.1, ⟨h.nodes, h.tz, h.2.1.2.2⟩, But.refl _ _, Below.refl _ _, h.1.lt⟩
theorem WkAt.setAt (h : WkAt g tb tc T i w W) (j : Nat) (v : Value) (hv : v = .int .i64 j) : WkAt g tb tc T j w (W.setCell ⟨g, 1, none⟩ v) := by
  obtain ⟨h1, h2, h3, h4, h5⟩ := h
  exact ⟨h1.setAt j v hv, h2, h3.set 1 _, h4.setCell (Nat.le_refl _) _, h5⟩
theorem WkAt.setNew (h : WkAt g tb tc T i w W) {N : Nat} (hN : w.heap.size ≤ N) (o : Nat) (v : Value) : WkAt g tb tc T i w (W.setCell ⟨N, o, none⟩ v) := by
  obtain ⟨h1, h2, h3, h4, h5⟩ := h
  exact ⟨h1.same (Below.heap_setCell _ _ _ _ (by show g ≠ N; omega)), h2, fun k hk hne => (Below.heap_setCell _ _ _ _ (by show k ≠ N; omega)).trans (h3 k hk hne), h4.setCell (by show g ≤ N; omega) _, h5⟩
end
/-- Expressions that a tree may have. -/
def Ex.good : Ex → Prop
  | .nums l => l ≠ []
  | .name s => M.nameOk s
  | .one o f q r => ((o = 0 ∨ o = 1 ∨ o = 3) ∧ (1 ≤ f ∧ f ≤ 34) ∧ q = 0) ∧ r.good
  | .two l o f q r => ((o = 0 ∨ o = 1 ∨ o = 3) ∧ (1 ≤ f ∧ f ≤ 34) ∧ q = 0) ∧ l.good ∧ r.good
  | .pick e b => e.good ∧ b.good
theorem right_any (e : Ex) (h : e.good) (a : Option Addr) (c : Nat) (w : World) (hT : Tz w) (h8 : 8 ≤ w.heap.size) :
    Calls Tryz.prog 65 #[.agg #[.int .i64 (M.node e).op, .int .i64 (M.node e).ao, .int .i64 (M.node e).af, .int .i64 (M.node e).ag, .int .i64 (M.node e).n, .slice a (M.node e).nums.length c, .string (M.node e).text]] w fun en w' => en = .returned (.bool true) ∧ Below w.heap.size w w' := by
  cases e with
  | nums l => exact right_nums l h a c w
  | name s => exact right_name s h a c w hT h8
  | one o f q r => obtain ⟨⟨h1, h2, rfl⟩, -⟩ := h; exact right_act 6 (.inl rfl) o f h1 h2 a c w
  | two l o f q r => obtain ⟨⟨h1, h2, rfl⟩, -⟩ := h; exact right_act 7 (.inr rfl) o f h1 h2 a c w
  | pick e b => exact right_pick a c w
/-- What the walker's call does at an expression. -/
def WexOk (e : Ex) : Prop := ∀ (g tb tc : Nat) (T pre post : List Nd) (w : World) (i j : Nat), WkAt g tb tc T i w w → i = pre.length → j = i + (M.flat e).length → T = pre ++ (M.flat e ++ post) → T.length ≤ 400 →
  Calls Tryz.prog 66 #[.pointer (some ⟨g, 0, none⟩)] w fun en w' => ∃ X x, en = .returned (.iface X x) ∧ WkAt g tb tc T j w w'
theorem held9 {w w' : World} {g tb i : Nat} {v0 v1 v2 v3 v4 v5 v6 v7 v8 : Value} (hb : Below w.heap.size w w') (h : w.cell? ⟨g, 0, none⟩ = some v0 ∧ w.cell? ⟨g, 1, none⟩ = some v1 ∧ w.cell? ⟨tb, i * 7, none⟩ = some v2 ∧ w.cell? ⟨tb, i * 7 + 1, none⟩ = some v3 ∧ w.cell? ⟨tb, i * 7 + 2, none⟩ = some v4 ∧ w.cell? ⟨tb, i * 7 + 3, none⟩ = some v5 ∧ w.cell? ⟨tb, i * 7 + 4, none⟩ = some v6 ∧ w.cell? ⟨tb, i * 7 + 5, none⟩ = some v7 ∧ w.cell? ⟨tb, i * 7 + 6, none⟩ = some v8) : w'.cell? ⟨g, 0, none⟩ = some v0 ∧ w'.cell? ⟨g, 1, none⟩ = some v1 ∧ w'.cell? ⟨tb, i * 7, none⟩ = some v2 ∧ w'.cell? ⟨tb, i * 7 + 1, none⟩ = some v3 ∧ w'.cell? ⟨tb, i * 7 + 2, none⟩ = some v4 ∧ w'.cell? ⟨tb, i * 7 + 3, none⟩ = some v5 ∧ w'.cell? ⟨tb, i * 7 + 4, none⟩ = some v6 ∧ w'.cell? ⟨tb, i * 7 + 5, none⟩ = some v7 ∧ w'.cell? ⟨tb, i * 7 + 6, none⟩ = some v8 := by
  have k : ∀ {x : Addr} {v : Value}, w.cell? x = some v → w'.cell? x = some v := fun h => (hb.cell (World.block_lt_of_cell? w _ h)).trans h
  obtain ⟨h0, h1, h2, h3, h4, h5, h6, h7, h8⟩ := h
  exact ⟨k h0, k h1, k h2, k h3, k h4, k h5, k h6, k h7, k h8⟩

set_option maxRecDepth 20000 in
set_option maxHeartbeats 8000000 in
theorem wex_nums (l : List Int) (hl0 : l ≠ []) : WexOk (.nums l) := by
  intro g tb tc T pre post w i j hE hi hj hsp hl
  have hnode : T[i]? = some (⟨1, 0, 0, 0, 0, l, ⟨#[]⟩⟩ : Nd) := by rw [hsp, hi, List.getElem?_append_right (Nat.le_refl _), Nat.sub_self]; rfl
  obtain ⟨a0, cc, t0, t1, t2, t3, t4, t5, t6, rn, on⟩ := hE.nodes.2 _ _ hnode
  have hlt : i < T.length := (List.getElem?_eq_some_iff.1 hnode).1
  obtain ⟨⟨c0, c1, -⟩, d1⟩ := id hE.1
  skip
  obtain ⟨nl, hnl⟩ : ∃ nl, nl = T.length := ⟨_, rfl⟩
  rw [← hnl] at c0 hlt hl
  have kr := fun W hT h8 => right_any (.nums l) hl0 a0 cc W hT h8
  dsimp only [M.node, List.length_nil] at kr t0 t1 t2 t3 t4 t5 t6
  obtain ⟨LL, hLL⟩ : ∃ LL, LL = l.length := ⟨_, rfl⟩
  rw [← hLL] at kr t5
  replace hLL := Lib.hid hLL
  have zge : decide (((nl : Nat) : Int) ≤ ((i : Nat) : Int)) = false := decide_eq_false (by omega)
  have zge2 : decide (nl ≤ i) = false := decide_eq_false (by omega)
  have z0 : (0 : Int) ≤ ((i : Nat) : Int) := by omega
  have z1 : ((i : Nat) : Int) < ((nl : Nat) : Int) := by omega
  have zz : ((i : Nat) : Int).toNat = i := by simp
  have hi4 : i ≤ 400 := by omega
  have gl := hE.glt
  have g8 : 8 ≤ g := hE.2.1.2.2
  have SS : w.drew.cell? ⟨g, 0, none⟩ = some (.slice (some ⟨tb, 0, none⟩) nl tc) ∧ w.drew.cell? ⟨g, 1, none⟩ = some (.int .i64 i) ∧ w.drew.cell? ⟨tb, i * 7, none⟩ = some (.int .i64 1) ∧ w.drew.cell? ⟨tb, i * 7 + 1, none⟩ = some (.int .i64 0) ∧ w.drew.cell? ⟨tb, i * 7 + 2, none⟩ = some (.int .i64 0) ∧ w.drew.cell? ⟨tb, i * 7 + 3, none⟩ = some (.int .i64 0) ∧ w.drew.cell? ⟨tb, i * 7 + 4, none⟩ = some (.int .i64 0) ∧ w.drew.cell? ⟨tb, i * 7 + 5, none⟩ = some (.slice a0 LL cc) ∧ w.drew.cell? ⟨tb, i * 7 + 6, none⟩ = some (.string ⟨#[]⟩) := ⟨c0, c1, t0, t1, t2, t3, t4, t5, t6⟩
  replace kr := Lib.hid kr
  replace hE := Lib.hid hE
  replace hnl := Lib.hid hnl
  replace hsp := Lib.hid hsp
  replace hi := Lib.hid hi
  replace hj := Lib.hid hj
  replace hnode := Lib.hid hnode
  replace rn := Lib.hid rn
  replace on := Lib.hid on
  replace d1 := Lib.hid d1
  clear c0 c1 t0 t1 t2 t3 t4 t5 t6
  go_enter Tryz.func66, Tryz.ntmps66
  go_upto_region 1 with fail
  go_region_held3 (fun W => W.cell? ⟨g, 0, none⟩ = some (.slice (some ⟨tb, 0, none⟩) nl tc) ∧ W.cell? ⟨g, 1, none⟩ = some (.int .i64 i) ∧ W.cell? ⟨tb, i * 7, none⟩ = some (.int .i64 1) ∧ W.cell? ⟨tb, i * 7 + 1, none⟩ = some (.int .i64 0) ∧ W.cell? ⟨tb, i * 7 + 2, none⟩ = some (.int .i64 0) ∧ W.cell? ⟨tb, i * 7 + 3, none⟩ = some (.int .i64 0) ∧ W.cell? ⟨tb, i * 7 + 4, none⟩ = some (.int .i64 0) ∧ W.cell? ⟨tb, i * 7 + 5, none⟩ = some (.slice a0 LL cc) ∧ W.cell? ⟨tb, i * 7 + 6, none⟩ = some (.string ⟨#[]⟩))
    (first | (with_reducible assumption) | (exact held9 hb (by with_reducible assumption)) | go_keep)
    ((go_at_call 65; refine (kr.out w.drew (show Tz w.drew from (hE.out.drewN 1).tz) (by show 8 ≤ w.heap.size; omega)).mono ?_; rintro en w2 ⟨rfl, hb⟩))
  have E2 := Lib.hid ((show WkAt g tb tc T i w w.drew from hE.out.drewN 1).step hb)
  have S2 := held9 hb SS
  have gl2 : g < w2.heap.size := E2.out.1.lt
  have tl2 : tb < w2.heap.size := World.block_lt_of_cell? _ _ S2.2.2.1
  have wl2 : w.heap.size ≤ w2.heap.size := E2.out.le
  have hS : ∀ (ob : Obj), (w2.alloc ob).cell? ⟨g, 0, none⟩ = some (.slice (some ⟨tb, 0, none⟩) nl tc) ∧ (w2.alloc ob).cell? ⟨g, 1, none⟩ = some (.int .i64 i) ∧ (w2.alloc ob).cell? ⟨tb, i * 7, none⟩ = some (.int .i64 1) ∧ (w2.alloc ob).cell? ⟨tb, i * 7 + 1, none⟩ = some (.int .i64 0) ∧ (w2.alloc ob).cell? ⟨tb, i * 7 + 2, none⟩ = some (.int .i64 0) ∧ (w2.alloc ob).cell? ⟨tb, i * 7 + 3, none⟩ = some (.int .i64 0) ∧ (w2.alloc ob).cell? ⟨tb, i * 7 + 4, none⟩ = some (.int .i64 0) ∧ (w2.alloc ob).cell? ⟨tb, i * 7 + 5, none⟩ = some (.slice a0 LL cc) ∧ (w2.alloc ob).cell? ⟨tb, i * 7 + 6, none⟩ = some (.string ⟨#[]⟩) := fun ob =>
    have eg : (w2.alloc ob).heap[g]? = w2.heap[g]? := heap_alloc_old _ _ gl2
    have et : (w2.alloc ob).heap[tb]? = w2.heap[tb]? := heap_alloc_old _ _ tl2
    ⟨(cell_of_eq eg _).trans S2.1, (cell_of_eq eg _).trans S2.2.1, (cell_of_eq et _).trans S2.2.2.1, (cell_of_eq et _).trans S2.2.2.2.1, (cell_of_eq et _).trans S2.2.2.2.2.1, (cell_of_eq et _).trans S2.2.2.2.2.2.1, (cell_of_eq et _).trans S2.2.2.2.2.2.2.1, (cell_of_eq et _).trans S2.2.2.2.2.2.2.2.1, (cell_of_eq et _).trans S2.2.2.2.2.2.2.2.2⟩
  clear hb SS
  obtain ⟨c0, c1, t0, t1, t2, t3, t4, t5, t6⟩ := S2
  obtain ⟨p0, p1, p2, p3, p4, p5, p6, p7, p8⟩ := hS (.cells #[.int .i64 0, .int .i64 0, .int .i64 0, .int .i64 0, .int .i64 0, .slice none 0 0, .string ⟨#[]⟩] 76)
  replace hS := Lib.hid hS
  go_wp2_with fail
  go_region
  have hb3 : Below w2.heap.size w2 (w2.alloc (.cells #[.int .i64 1, .int .i64 0, .int .i64 0, .int .i64 0, .int .i64 0, .slice a0 LL cc, .string ⟨#[]⟩] 76)).drew := ((Below.refl _ w2).alloc (Nat.le_refl _) _).drew
  have N3 : BoxC w2.heap.size [.int .i64 1, .int .i64 0, .int .i64 0, .int .i64 0, .int .i64 0, .slice a0 LL cc, .string ⟨#[]⟩] (w2.alloc (.cells #[.int .i64 1, .int .i64 0, .int .i64 0, .int .i64 0, .int .i64 0, .slice a0 LL cc, .string ⟨#[]⟩] 76)).drew := (boxC_alloc w2 #[.int .i64 1, .int .i64 0, .int .i64 0, .int .i64 0, .int .i64 0, .slice a0 LL cc, .string ⟨#[]⟩] 76).same rfl
  clear p0 p1 p2 p3 p4 p5 p6 p7 p8 t0 t1 t2 t3 t4 t5 t6 c0 c1 hS
  have E3 := E2.out.step hb3
  have ns3 : Hid (w2.heap.size < (w2.alloc (.cells #[.int .i64 1, .int .i64 0, .int .i64 0, .int .i64 0, .int .i64 0, .slice a0 LL cc, .string ⟨#[]⟩] 76)).drew.heap.size) := Lib.hid (by simp)
  generalize (w2.alloc (.cells #[.int .i64 1, .int .i64 0, .int .i64 0, .int .i64 0, .int .i64 0, .slice a0 LL cc, .string ⟨#[]⟩] 76)).drew = w3 at *
  obtain ⟨⟨c0, c1, -⟩, d1'⟩ := id E3.1
  have E4 := Lib.hid (E3.setAt (i + 1) (.int .i64 ((i : Nat) + 1 : Int)) (by simp))
  have ng : g ≠ w2.heap.size := by omega
  obtain ⟨y0, -⟩ := N3 0 _ rfl
  obtain ⟨y1, -⟩ := N3 1 _ rfl
  obtain ⟨y2, -⟩ := N3 2 _ rfl
  obtain ⟨y3, -⟩ := N3 3 _ rfl
  obtain ⟨y4, -⟩ := N3 4 _ rfl
  obtain ⟨y5, -⟩ := N3 5 _ rfl
  obtain ⟨y6, -⟩ := N3 6 _ rfl
  clear hb3 E3 E2 N3
  go_wp2
  go_ret
  exact ⟨_, _, rfl, by rw [hj.out]; exact E4.out⟩

set_option maxRecDepth 20000 in
set_option maxHeartbeats 8000000 in
theorem wex_name (s : ByteArray) (hs : M.nameOk s) : WexOk (.name s) := by
  intro g tb tc T pre post w i j hE hi hj hsp hl
  have hnode : T[i]? = some (⟨3, 0, 0, 0, 0, [], s⟩ : Nd) := by rw [hsp, hi, List.getElem?_append_right (Nat.le_refl _), Nat.sub_self]; rfl
  obtain ⟨a0, cc, t0, t1, t2, t3, t4, t5, t6, rn, on⟩ := hE.nodes.2 _ _ hnode
  have hlt : i < T.length := (List.getElem?_eq_some_iff.1 hnode).1
  obtain ⟨⟨c0, c1, -⟩, d1⟩ := id hE.1
  skip
  obtain ⟨nl, hnl⟩ : ∃ nl, nl = T.length := ⟨_, rfl⟩
  rw [← hnl] at c0 hlt hl
  have kr := fun W hT h8 => right_any (.name s) hs a0 cc W hT h8
  dsimp only [M.node, List.length_nil] at kr t0 t1 t2 t3 t4 t5 t6
  skip
  have zge : decide (((nl : Nat) : Int) ≤ ((i : Nat) : Int)) = false := decide_eq_false (by omega)
  have zge2 : decide (nl ≤ i) = false := decide_eq_false (by omega)
  have z0 : (0 : Int) ≤ ((i : Nat) : Int) := by omega
  have z1 : ((i : Nat) : Int) < ((nl : Nat) : Int) := by omega
  have zz : ((i : Nat) : Int).toNat = i := by simp
  have hi4 : i ≤ 400 := by omega
  have gl := hE.glt
  have g8 : 8 ≤ g := hE.2.1.2.2
  have SS : w.drew.cell? ⟨g, 0, none⟩ = some (.slice (some ⟨tb, 0, none⟩) nl tc) ∧ w.drew.cell? ⟨g, 1, none⟩ = some (.int .i64 i) ∧ w.drew.cell? ⟨tb, i * 7, none⟩ = some (.int .i64 3) ∧ w.drew.cell? ⟨tb, i * 7 + 1, none⟩ = some (.int .i64 0) ∧ w.drew.cell? ⟨tb, i * 7 + 2, none⟩ = some (.int .i64 0) ∧ w.drew.cell? ⟨tb, i * 7 + 3, none⟩ = some (.int .i64 0) ∧ w.drew.cell? ⟨tb, i * 7 + 4, none⟩ = some (.int .i64 0) ∧ w.drew.cell? ⟨tb, i * 7 + 5, none⟩ = some (.slice a0 0 cc) ∧ w.drew.cell? ⟨tb, i * 7 + 6, none⟩ = some (.string s) := ⟨c0, c1, t0, t1, t2, t3, t4, t5, t6⟩
  replace kr := Lib.hid kr
  replace hE := Lib.hid hE
  replace hnl := Lib.hid hnl
  replace hsp := Lib.hid hsp
  replace hi := Lib.hid hi
  replace hj := Lib.hid hj
  replace hnode := Lib.hid hnode
  replace rn := Lib.hid rn
  replace on := Lib.hid on
  replace d1 := Lib.hid d1
  clear c0 c1 t0 t1 t2 t3 t4 t5 t6
  go_enter Tryz.func66, Tryz.ntmps66
  go_upto_region 1 with fail
  go_region_held3 (fun W => W.cell? ⟨g, 0, none⟩ = some (.slice (some ⟨tb, 0, none⟩) nl tc) ∧ W.cell? ⟨g, 1, none⟩ = some (.int .i64 i) ∧ W.cell? ⟨tb, i * 7, none⟩ = some (.int .i64 3) ∧ W.cell? ⟨tb, i * 7 + 1, none⟩ = some (.int .i64 0) ∧ W.cell? ⟨tb, i * 7 + 2, none⟩ = some (.int .i64 0) ∧ W.cell? ⟨tb, i * 7 + 3, none⟩ = some (.int .i64 0) ∧ W.cell? ⟨tb, i * 7 + 4, none⟩ = some (.int .i64 0) ∧ W.cell? ⟨tb, i * 7 + 5, none⟩ = some (.slice a0 0 cc) ∧ W.cell? ⟨tb, i * 7 + 6, none⟩ = some (.string s))
    (first | (with_reducible assumption) | (exact held9 hb (by with_reducible assumption)) | go_keep)
    ((go_at_call 65; refine (kr.out w.drew (show Tz w.drew from (hE.out.drewN 1).tz) (by show 8 ≤ w.heap.size; omega)).mono ?_; rintro en w2 ⟨rfl, hb⟩))
  have E2 := Lib.hid ((show WkAt g tb tc T i w w.drew from hE.out.drewN 1).step hb)
  have S2 := held9 hb SS
  have gl2 : g < w2.heap.size := E2.out.1.lt
  have tl2 : tb < w2.heap.size := World.block_lt_of_cell? _ _ S2.2.2.1
  have wl2 : w.heap.size ≤ w2.heap.size := E2.out.le
  have hS : ∀ (ob : Obj), (w2.alloc ob).cell? ⟨g, 0, none⟩ = some (.slice (some ⟨tb, 0, none⟩) nl tc) ∧ (w2.alloc ob).cell? ⟨g, 1, none⟩ = some (.int .i64 i) ∧ (w2.alloc ob).cell? ⟨tb, i * 7, none⟩ = some (.int .i64 3) ∧ (w2.alloc ob).cell? ⟨tb, i * 7 + 1, none⟩ = some (.int .i64 0) ∧ (w2.alloc ob).cell? ⟨tb, i * 7 + 2, none⟩ = some (.int .i64 0) ∧ (w2.alloc ob).cell? ⟨tb, i * 7 + 3, none⟩ = some (.int .i64 0) ∧ (w2.alloc ob).cell? ⟨tb, i * 7 + 4, none⟩ = some (.int .i64 0) ∧ (w2.alloc ob).cell? ⟨tb, i * 7 + 5, none⟩ = some (.slice a0 0 cc) ∧ (w2.alloc ob).cell? ⟨tb, i * 7 + 6, none⟩ = some (.string s) := fun ob =>
    have eg : (w2.alloc ob).heap[g]? = w2.heap[g]? := heap_alloc_old _ _ gl2
    have et : (w2.alloc ob).heap[tb]? = w2.heap[tb]? := heap_alloc_old _ _ tl2
    ⟨(cell_of_eq eg _).trans S2.1, (cell_of_eq eg _).trans S2.2.1, (cell_of_eq et _).trans S2.2.2.1, (cell_of_eq et _).trans S2.2.2.2.1, (cell_of_eq et _).trans S2.2.2.2.2.1, (cell_of_eq et _).trans S2.2.2.2.2.2.1, (cell_of_eq et _).trans S2.2.2.2.2.2.2.1, (cell_of_eq et _).trans S2.2.2.2.2.2.2.2.1, (cell_of_eq et _).trans S2.2.2.2.2.2.2.2.2⟩
  clear hb SS
  obtain ⟨c0, c1, t0, t1, t2, t3, t4, t5, t6⟩ := S2
  obtain ⟨p0, p1, p2, p3, p4, p5, p6, p7, p8⟩ := hS (.cells #[.int .i64 0, .int .i64 0, .int .i64 0, .int .i64 0, .int .i64 0, .slice none 0 0, .string ⟨#[]⟩] 76)
  replace hS := Lib.hid hS
  go_wp2_with fail
  go_region
  have hb3 : Below w2.heap.size w2 (w2.alloc (.cells #[.int .i64 3, .int .i64 0, .int .i64 0, .int .i64 0, .int .i64 0, .slice a0 0 cc, .string s] 76)).drew := ((Below.refl _ w2).alloc (Nat.le_refl _) _).drew
  have N3 : BoxC w2.heap.size [.int .i64 3, .int .i64 0, .int .i64 0, .int .i64 0, .int .i64 0, .slice a0 0 cc, .string s] (w2.alloc (.cells #[.int .i64 3, .int .i64 0, .int .i64 0, .int .i64 0, .int .i64 0, .slice a0 0 cc, .string s] 76)).drew := (boxC_alloc w2 #[.int .i64 3, .int .i64 0, .int .i64 0, .int .i64 0, .int .i64 0, .slice a0 0 cc, .string s] 76).same rfl
  clear p0 p1 p2 p3 p4 p5 p6 p7 p8 t0 t1 t2 t3 t4 t5 t6 c0 c1 hS
  have E3 := E2.out.step hb3
  have ns3 : Hid (w2.heap.size < (w2.alloc (.cells #[.int .i64 3, .int .i64 0, .int .i64 0, .int .i64 0, .int .i64 0, .slice a0 0 cc, .string s] 76)).drew.heap.size) := Lib.hid (by simp)
  generalize (w2.alloc (.cells #[.int .i64 3, .int .i64 0, .int .i64 0, .int .i64 0, .int .i64 0, .slice a0 0 cc, .string s] 76)).drew = w3 at *
  obtain ⟨⟨c0, c1, -⟩, d1'⟩ := id E3.1
  have E4 := Lib.hid (E3.setAt (i + 1) (.int .i64 ((i : Nat) + 1 : Int)) (by simp))
  have ng : g ≠ w2.heap.size := by omega
  obtain ⟨y0, -⟩ := N3 0 _ rfl
  obtain ⟨y1, -⟩ := N3 1 _ rfl
  obtain ⟨y2, -⟩ := N3 2 _ rfl
  obtain ⟨y3, -⟩ := N3 3 _ rfl
  obtain ⟨y4, -⟩ := N3 4 _ rfl
  obtain ⟨y5, -⟩ := N3 5 _ rfl
  obtain ⟨y6, -⟩ := N3 6 _ rfl
  clear hb3 E3 E2 N3
  go_wp2
  go_ret
  exact ⟨_, _, rfl, by rw [hj.out]; exact E4.out⟩

set_option maxRecDepth 20000 in
set_option maxHeartbeats 8000000 in
theorem wex_one (o f q : Int) (r : Ex) (hg : (Ex.one o f q r).good) (hr : WexOk r) : WexOk (.one o f q r) := by
  intro g tb tc T pre post w i j hE hi hj hsp hl
  have hnode : T[i]? = some (⟨6, o, f, q, 0, [], ⟨#[]⟩⟩ : Nd) := by rw [hsp, hi, List.getElem?_append_right (Nat.le_refl _), Nat.sub_self]; rfl
  obtain ⟨a0, cc, t0, t1, t2, t3, t4, t5, t6, rn, on⟩ := hE.nodes.2 _ _ hnode
  have hlt : i < T.length := (List.getElem?_eq_some_iff.1 hnode).1
  obtain ⟨⟨c0, c1, -⟩, d1⟩ := id hE.1
  obtain ⟨⟨ho3, -, hq⟩, -⟩ := id hg
  have ke := fun W hW => hr g tb tc T (pre ++ [(⟨6, o, f, q, 0, [], ⟨#[]⟩⟩ : Nd)]) post W (i + 1) (i + 1 + (M.flat r).length) hW (by rw [hi]; simp) rfl (by rw [hsp]; simp [M.flat]) hl
  have ej : j = i + 1 + (M.flat r).length := by rw [hj]; simp [M.flat]; omega
  obtain ⟨nl, hnl⟩ : ∃ nl, nl = T.length := ⟨_, rfl⟩
  rw [← hnl] at c0 hlt hl
  have kr := fun W hT h8 => right_any (.one o f q r) hg a0 cc W hT h8
  dsimp only [M.node, List.length_nil] at kr t0 t1 t2 t3 t4 t5 t6
  subst hq
  have eo : ∀ u : Int, u = o → True := fun _ _ => trivial
  clear eo
  replace ke := Lib.hid ke
  replace ho3 := Lib.hid ho3
  replace hg := Lib.hid hg
  replace hj := ej
  clear ej
  have zge : decide (((nl : Nat) : Int) ≤ ((i : Nat) : Int)) = false := decide_eq_false (by omega)
  have zge2 : decide (nl ≤ i) = false := decide_eq_false (by omega)
  have z0 : (0 : Int) ≤ ((i : Nat) : Int) := by omega
  have z1 : ((i : Nat) : Int) < ((nl : Nat) : Int) := by omega
  have zz : ((i : Nat) : Int).toNat = i := by simp
  have hi4 : i ≤ 400 := by omega
  have gl := hE.glt
  have g8 : 8 ≤ g := hE.2.1.2.2
  have SS : w.drew.cell? ⟨g, 0, none⟩ = some (.slice (some ⟨tb, 0, none⟩) nl tc) ∧ w.drew.cell? ⟨g, 1, none⟩ = some (.int .i64 i) ∧ w.drew.cell? ⟨tb, i * 7, none⟩ = some (.int .i64 6) ∧ w.drew.cell? ⟨tb, i * 7 + 1, none⟩ = some (.int .i64 o) ∧ w.drew.cell? ⟨tb, i * 7 + 2, none⟩ = some (.int .i64 f) ∧ w.drew.cell? ⟨tb, i * 7 + 3, none⟩ = some (.int .i64 0) ∧ w.drew.cell? ⟨tb, i * 7 + 4, none⟩ = some (.int .i64 0) ∧ w.drew.cell? ⟨tb, i * 7 + 5, none⟩ = some (.slice a0 0 cc) ∧ w.drew.cell? ⟨tb, i * 7 + 6, none⟩ = some (.string ⟨#[]⟩) := ⟨c0, c1, t0, t1, t2, t3, t4, t5, t6⟩
  replace kr := Lib.hid kr
  replace hE := Lib.hid hE
  replace hnl := Lib.hid hnl
  replace hsp := Lib.hid hsp
  replace hi := Lib.hid hi
  replace hj := Lib.hid hj
  replace hnode := Lib.hid hnode
  replace rn := Lib.hid rn
  replace on := Lib.hid on
  replace d1 := Lib.hid d1
  clear c0 c1 t0 t1 t2 t3 t4 t5 t6
  go_enter Tryz.func66, Tryz.ntmps66
  go_upto_region 1 with fail
  go_region_held3 (fun W => W.cell? ⟨g, 0, none⟩ = some (.slice (some ⟨tb, 0, none⟩) nl tc) ∧ W.cell? ⟨g, 1, none⟩ = some (.int .i64 i) ∧ W.cell? ⟨tb, i * 7, none⟩ = some (.int .i64 6) ∧ W.cell? ⟨tb, i * 7 + 1, none⟩ = some (.int .i64 o) ∧ W.cell? ⟨tb, i * 7 + 2, none⟩ = some (.int .i64 f) ∧ W.cell? ⟨tb, i * 7 + 3, none⟩ = some (.int .i64 0) ∧ W.cell? ⟨tb, i * 7 + 4, none⟩ = some (.int .i64 0) ∧ W.cell? ⟨tb, i * 7 + 5, none⟩ = some (.slice a0 0 cc) ∧ W.cell? ⟨tb, i * 7 + 6, none⟩ = some (.string ⟨#[]⟩))
    (first | (with_reducible assumption) | (exact held9 hb (by with_reducible assumption)) | go_keep)
    ((go_at_call 65; refine (kr.out w.drew (show Tz w.drew from (hE.out.drewN 1).tz) (by show 8 ≤ w.heap.size; omega)).mono ?_; rintro en w2 ⟨rfl, hb⟩))
  have E2 := Lib.hid ((show WkAt g tb tc T i w w.drew from hE.out.drewN 1).step hb)
  have S2 := held9 hb SS
  have gl2 : g < w2.heap.size := E2.out.1.lt
  have tl2 : tb < w2.heap.size := World.block_lt_of_cell? _ _ S2.2.2.1
  have wl2 : w.heap.size ≤ w2.heap.size := E2.out.le
  have hS : ∀ (ob : Obj), (w2.alloc ob).cell? ⟨g, 0, none⟩ = some (.slice (some ⟨tb, 0, none⟩) nl tc) ∧ (w2.alloc ob).cell? ⟨g, 1, none⟩ = some (.int .i64 i) ∧ (w2.alloc ob).cell? ⟨tb, i * 7, none⟩ = some (.int .i64 6) ∧ (w2.alloc ob).cell? ⟨tb, i * 7 + 1, none⟩ = some (.int .i64 o) ∧ (w2.alloc ob).cell? ⟨tb, i * 7 + 2, none⟩ = some (.int .i64 f) ∧ (w2.alloc ob).cell? ⟨tb, i * 7 + 3, none⟩ = some (.int .i64 0) ∧ (w2.alloc ob).cell? ⟨tb, i * 7 + 4, none⟩ = some (.int .i64 0) ∧ (w2.alloc ob).cell? ⟨tb, i * 7 + 5, none⟩ = some (.slice a0 0 cc) ∧ (w2.alloc ob).cell? ⟨tb, i * 7 + 6, none⟩ = some (.string ⟨#[]⟩) := fun ob =>
    have eg : (w2.alloc ob).heap[g]? = w2.heap[g]? := heap_alloc_old _ _ gl2
    have et : (w2.alloc ob).heap[tb]? = w2.heap[tb]? := heap_alloc_old _ _ tl2
    ⟨(cell_of_eq eg _).trans S2.1, (cell_of_eq eg _).trans S2.2.1, (cell_of_eq et _).trans S2.2.2.1, (cell_of_eq et _).trans S2.2.2.2.1, (cell_of_eq et _).trans S2.2.2.2.2.1, (cell_of_eq et _).trans S2.2.2.2.2.2.1, (cell_of_eq et _).trans S2.2.2.2.2.2.2.1, (cell_of_eq et _).trans S2.2.2.2.2.2.2.2.1, (cell_of_eq et _).trans S2.2.2.2.2.2.2.2.2⟩
  clear hb SS
  obtain ⟨c0, c1, t0, t1, t2, t3, t4, t5, t6⟩ := S2
  obtain ⟨p0, p1, p2, p3, p4, p5, p6, p7, p8⟩ := hS (.cells #[.int .i64 0, .int .i64 0, .int .i64 0, .int .i64 0, .int .i64 0, .slice none 0 0, .string ⟨#[]⟩] 76)
  replace hS := Lib.hid hS
  go_wp2_with fail
  go_region
  have hb3 : Below w2.heap.size w2 (w2.alloc (.cells #[.int .i64 6, .int .i64 o, .int .i64 f, .int .i64 0, .int .i64 0, .slice a0 0 cc, .string ⟨#[]⟩] 76)).drew := ((Below.refl _ w2).alloc (Nat.le_refl _) _).drew
  have N3 : BoxC w2.heap.size [.int .i64 6, .int .i64 o, .int .i64 f, .int .i64 0, .int .i64 0, .slice a0 0 cc, .string ⟨#[]⟩] (w2.alloc (.cells #[.int .i64 6, .int .i64 o, .int .i64 f, .int .i64 0, .int .i64 0, .slice a0 0 cc, .string ⟨#[]⟩] 76)).drew := (boxC_alloc w2 #[.int .i64 6, .int .i64 o, .int .i64 f, .int .i64 0, .int .i64 0, .slice a0 0 cc, .string ⟨#[]⟩] 76).same rfl
  clear p0 p1 p2 p3 p4 p5 p6 p7 p8 t0 t1 t2 t3 t4 t5 t6 c0 c1 hS
  have E3 := E2.out.step hb3
  have ns3 : Hid (w2.heap.size < (w2.alloc (.cells #[.int .i64 6, .int .i64 o, .int .i64 f, .int .i64 0, .int .i64 0, .slice a0 0 cc, .string ⟨#[]⟩] 76)).drew.heap.size) := Lib.hid (by simp)
  generalize (w2.alloc (.cells #[.int .i64 6, .int .i64 o, .int .i64 f, .int .i64 0, .int .i64 0, .slice a0 0 cc, .string ⟨#[]⟩] 76)).drew = w3 at *
  obtain ⟨⟨c0, c1, -⟩, d1'⟩ := id E3.1
  have E4 := Lib.hid (E3.setAt (i + 1) (.int .i64 ((i : Nat) + 1 : Int)) (by simp))
  have ng : g ≠ w2.heap.size := by omega
  obtain ⟨y0, -⟩ := N3 0 _ rfl
  obtain ⟨y1, -⟩ := N3 1 _ rfl
  obtain ⟨y2, -⟩ := N3 2 _ rfl
  obtain ⟨y3, -⟩ := N3 3 _ rfl
  obtain ⟨y4, -⟩ := N3 4 _ rfl
  obtain ⟨y5, -⟩ := N3 5 _ rfl
  obtain ⟨y6, -⟩ := N3 6 _ rfl
  clear hb3 E3 E2 N3
  have w4x : Hid (w3.heap.size ≤ (w3.setCell ⟨g, 1, none⟩ (.int .i64 ((i : Nat) + 1 : Int))).heap.size) := Lib.hid (by rw [World.size_setCell]; exact Nat.le_refl _)
  go_wp2_with fail
  refine (wfun_any g 6 o f 0 ho3.out a0 cc _).mono ?_
  rintro en w5 ⟨rfl, hb5⟩
  have E5 := E4.out.step hb5
  have hb6 := (Below.refl w5.heap.size w5).alloc (Nat.le_refl _) (.cells #[.int .i64 o, .int .i64 f, .int .i64 0, .int .i64 0, .slice none 0 0] 125)
  have B6 : BoxC w5.heap.size [.int .i64 o, .int .i64 f, .int .i64 0, .int .i64 0, .slice none 0 0] (w5.alloc (.cells #[.int .i64 o, .int .i64 f, .int .i64 0, .int .i64 0, .slice none 0 0] 125)).drew := (boxC_alloc w5 #[.int .i64 o, .int .i64 f, .int .i64 0, .int .i64 0, .slice none 0 0] 125).same rfl
  have E6 := Lib.hid ((E5.step hb6).drewN 1)
  have S6 : (w5.alloc (.cells #[.int .i64 o, .int .i64 f, .int .i64 0, .int .i64 0, .slice none 0 0] 125)).drew.cell? ⟨w5.heap.size, 0, none⟩ = some (.int .i64 o) ∧ (w5.alloc (.cells #[.int .i64 o, .int .i64 f, .int .i64 0, .int .i64 0, .slice none 0 0] 125)).drew.cell? ⟨w5.heap.size, 1, none⟩ = some (.int .i64 f) ∧ (w5.alloc (.cells #[.int .i64 o, .int .i64 f, .int .i64 0, .int .i64 0, .slice none 0 0] 125)).drew.cell? ⟨w5.heap.size, 2, none⟩ = some (.int .i64 0) ∧ (w5.alloc (.cells #[.int .i64 o, .int .i64 f, .int .i64 0, .int .i64 0, .slice none 0 0] 125)).drew.cell? ⟨w5.heap.size, 3, none⟩ = some (.int .i64 0) ∧ (w5.alloc (.cells #[.int .i64 o, .int .i64 f, .int .i64 0, .int .i64 0, .slice none 0 0] 125)).drew.cell? ⟨w5.heap.size, 4, none⟩ = some (.slice none 0 0) := ⟨(B6 0 _ rfl).1, (B6 1 _ rfl).1, (B6 2 _ rfl).1, (B6 3 _ rfl).1, (B6 4 _ rfl).1⟩
  have hgN : g < w5.heap.size := by have := E5.le; omega
  have hlN : w5.heap.size < (w5.alloc (.cells #[.int .i64 o, .int .i64 f, .int .i64 0, .int .i64 0, .slice none 0 0] 125)).drew.heap.size := by simp
  have hN' : w5.heap.size ≠ g := by omega
  clear hb5 hb6 B6 E5 y0 y1 y2 y3 y4 y5 y6 c0 c1
  go_upto_region 18 with fail
  generalize hN : w5.heap.size = N at *
  replace hN := Lib.hid hN
  have E6' : Hid (WkAt g tb tc T (i + 1) w (w5.alloc (.cells #[.int .i64 o, .int .i64 f, .int .i64 0, .int .i64 0, .slice none 0 0] 125)).drew) := E6
  clear E6
  go_region_held3 (fun W => W.cell? ⟨N, 0, none⟩ = some (.int .i64 o) ∧ W.cell? ⟨N, 1, none⟩ = some (.int .i64 f) ∧ W.cell? ⟨N, 2, none⟩ = some (.int .i64 0) ∧ W.cell? ⟨N, 3, none⟩ = some (.int .i64 0) ∧ W.cell? ⟨N, 4, none⟩ = some (.slice none 0 0))
    (first | (with_reducible assumption) | (exact held5 (hP7.2.2.1 N hlN hN') (by with_reducible assumption)) | go_keep)
    ((go_at_call 66; refine (ke.out _ E6'.out.self).mono ?_; rintro en w7 ⟨X7, x7, rfl, hP7⟩))
  go_wp2
  go_ret
  exact ⟨_, _, rfl, by rw [hj.out]; exact E6'.out.trans hP7⟩

set_option maxRecDepth 20000 in
set_option maxHeartbeats 8000000 in
theorem wex_two (l : Ex) (o f q : Int) (r : Ex) (hg : (Ex.two l o f q r).good) (hlx : WexOk l) (hr : WexOk r) : WexOk (.two l o f q r) := by
  intro g tb tc T pre post w i j hE hi hj hsp hl
  have hnode : T[i]? = some (⟨7, o, f, q, 0, [], ⟨#[]⟩⟩ : Nd) := by rw [hsp, hi, List.getElem?_append_right (Nat.le_refl _), Nat.sub_self]; rfl
  obtain ⟨a0, cc, t0, t1, t2, t3, t4, t5, t6, rn, on⟩ := hE.nodes.2 _ _ hnode
  have hlt : i < T.length := (List.getElem?_eq_some_iff.1 hnode).1
  obtain ⟨⟨c0, c1, -⟩, d1⟩ := id hE.1
  obtain ⟨⟨ho3, -, hq⟩, -⟩ := id hg
  have kl := fun W hW => hlx g tb tc T (pre ++ [(⟨7, o, f, q, 0, [], ⟨#[]⟩⟩ : Nd)]) (M.flat r ++ post) W (i + 1) (i + 1 + (M.flat l).length) hW (by rw [hi]; simp) rfl (by rw [hsp]; simp [M.flat]) hl
  have ke := fun W hW => hr g tb tc T (pre ++ (⟨7, o, f, q, 0, [], ⟨#[]⟩⟩ : Nd) :: M.flat l) post W (i + 1 + (M.flat l).length) (i + 1 + (M.flat l).length + (M.flat r).length) hW (by rw [hi]; simp; omega) rfl (by rw [hsp]; simp [M.flat]) hl
  have ej : j = i + 1 + (M.flat l).length + (M.flat r).length := by rw [hj]; simp [M.flat]; omega
  obtain ⟨nl, hnl⟩ : ∃ nl, nl = T.length := ⟨_, rfl⟩
  rw [← hnl] at c0 hlt hl
  have kr := fun W hT h8 => right_any (.two l o f q r) hg a0 cc W hT h8
  dsimp only [M.node, List.length_nil] at kr t0 t1 t2 t3 t4 t5 t6
  subst hq
  replace ke := Lib.hid ke
  replace kl := Lib.hid kl
  replace ho3 := Lib.hid ho3
  replace hg := Lib.hid hg
  replace hj := ej
  clear ej
  have zge : decide (((nl : Nat) : Int) ≤ ((i : Nat) : Int)) = false := decide_eq_false (by omega)
  have zge2 : decide (nl ≤ i) = false := decide_eq_false (by omega)
  have z0 : (0 : Int) ≤ ((i : Nat) : Int) := by omega
  have z1 : ((i : Nat) : Int) < ((nl : Nat) : Int) := by omega
  have zz : ((i : Nat) : Int).toNat = i := by simp
  have hi4 : i ≤ 400 := by omega
  have gl := hE.glt
  have g8 : 8 ≤ g := hE.2.1.2.2
  have SS : w.drew.cell? ⟨g, 0, none⟩ = some (.slice (some ⟨tb, 0, none⟩) nl tc) ∧ w.drew.cell? ⟨g, 1, none⟩ = some (.int .i64 i) ∧ w.drew.cell? ⟨tb, i * 7, none⟩ = some (.int .i64 7) ∧ w.drew.cell? ⟨tb, i * 7 + 1, none⟩ = some (.int .i64 o) ∧ w.drew.cell? ⟨tb, i * 7 + 2, none⟩ = some (.int .i64 f) ∧ w.drew.cell? ⟨tb, i * 7 + 3, none⟩ = some (.int .i64 0) ∧ w.drew.cell? ⟨tb, i * 7 + 4, none⟩ = some (.int .i64 0) ∧ w.drew.cell? ⟨tb, i * 7 + 5, none⟩ = some (.slice a0 0 cc) ∧ w.drew.cell? ⟨tb, i * 7 + 6, none⟩ = some (.string ⟨#[]⟩) := ⟨c0, c1, t0, t1, t2, t3, t4, t5, t6⟩
  replace kr := Lib.hid kr
  replace hE := Lib.hid hE
  replace hnl := Lib.hid hnl
  replace hsp := Lib.hid hsp
  replace hi := Lib.hid hi
  replace hj := Lib.hid hj
  replace hnode := Lib.hid hnode
  replace rn := Lib.hid rn
  replace on := Lib.hid on
  replace d1 := Lib.hid d1
  clear c0 c1 t0 t1 t2 t3 t4 t5 t6
  go_enter Tryz.func66, Tryz.ntmps66
  go_upto_region 1 with fail
  go_region_held3 (fun W => W.cell? ⟨g, 0, none⟩ = some (.slice (some ⟨tb, 0, none⟩) nl tc) ∧ W.cell? ⟨g, 1, none⟩ = some (.int .i64 i) ∧ W.cell? ⟨tb, i * 7, none⟩ = some (.int .i64 7) ∧ W.cell? ⟨tb, i * 7 + 1, none⟩ = some (.int .i64 o) ∧ W.cell? ⟨tb, i * 7 + 2, none⟩ = some (.int .i64 f) ∧ W.cell? ⟨tb, i * 7 + 3, none⟩ = some (.int .i64 0) ∧ W.cell? ⟨tb, i * 7 + 4, none⟩ = some (.int .i64 0) ∧ W.cell? ⟨tb, i * 7 + 5, none⟩ = some (.slice a0 0 cc) ∧ W.cell? ⟨tb, i * 7 + 6, none⟩ = some (.string ⟨#[]⟩))
    (first | (with_reducible assumption) | (exact held9 hb (by with_reducible assumption)) | go_keep)
    ((go_at_call 65; refine (kr.out w.drew (show Tz w.drew from (hE.out.drewN 1).tz) (by show 8 ≤ w.heap.size; omega)).mono ?_; rintro en w2 ⟨rfl, hb⟩))
  have E2 := Lib.hid ((show WkAt g tb tc T i w w.drew from hE.out.drewN 1).step hb)
  have S2 := held9 hb SS
  have gl2 : g < w2.heap.size := E2.out.1.lt
  have tl2 : tb < w2.heap.size := World.block_lt_of_cell? _ _ S2.2.2.1
  have wl2 : w.heap.size ≤ w2.heap.size := E2.out.le
  have hS : ∀ (ob : Obj), (w2.alloc ob).cell? ⟨g, 0, none⟩ = some (.slice (some ⟨tb, 0, none⟩) nl tc) ∧ (w2.alloc ob).cell? ⟨g, 1, none⟩ = some (.int .i64 i) ∧ (w2.alloc ob).cell? ⟨tb, i * 7, none⟩ = some (.int .i64 7) ∧ (w2.alloc ob).cell? ⟨tb, i * 7 + 1, none⟩ = some (.int .i64 o) ∧ (w2.alloc ob).cell? ⟨tb, i * 7 + 2, none⟩ = some (.int .i64 f) ∧ (w2.alloc ob).cell? ⟨tb, i * 7 + 3, none⟩ = some (.int .i64 0) ∧ (w2.alloc ob).cell? ⟨tb, i * 7 + 4, none⟩ = some (.int .i64 0) ∧ (w2.alloc ob).cell? ⟨tb, i * 7 + 5, none⟩ = some (.slice a0 0 cc) ∧ (w2.alloc ob).cell? ⟨tb, i * 7 + 6, none⟩ = some (.string ⟨#[]⟩) := fun ob =>
    have eg : (w2.alloc ob).heap[g]? = w2.heap[g]? := heap_alloc_old _ _ gl2
    have et : (w2.alloc ob).heap[tb]? = w2.heap[tb]? := heap_alloc_old _ _ tl2
    ⟨(cell_of_eq eg _).trans S2.1, (cell_of_eq eg _).trans S2.2.1, (cell_of_eq et _).trans S2.2.2.1, (cell_of_eq et _).trans S2.2.2.2.1, (cell_of_eq et _).trans S2.2.2.2.2.1, (cell_of_eq et _).trans S2.2.2.2.2.2.1, (cell_of_eq et _).trans S2.2.2.2.2.2.2.1, (cell_of_eq et _).trans S2.2.2.2.2.2.2.2.1, (cell_of_eq et _).trans S2.2.2.2.2.2.2.2.2⟩
  clear hb SS
  obtain ⟨c0, c1, t0, t1, t2, t3, t4, t5, t6⟩ := S2
  obtain ⟨p0, p1, p2, p3, p4, p5, p6, p7, p8⟩ := hS (.cells #[.int .i64 0, .int .i64 0, .int .i64 0, .int .i64 0, .int .i64 0, .slice none 0 0, .string ⟨#[]⟩] 76)
  replace hS := Lib.hid hS
  go_wp2_with fail
  go_region
  have hb3 : Below w2.heap.size w2 (w2.alloc (.cells #[.int .i64 7, .int .i64 o, .int .i64 f, .int .i64 0, .int .i64 0, .slice a0 0 cc, .string ⟨#[]⟩] 76)).drew := ((Below.refl _ w2).alloc (Nat.le_refl _) _).drew
  have N3 : BoxC w2.heap.size [.int .i64 7, .int .i64 o, .int .i64 f, .int .i64 0, .int .i64 0, .slice a0 0 cc, .string ⟨#[]⟩] (w2.alloc (.cells #[.int .i64 7, .int .i64 o, .int .i64 f, .int .i64 0, .int .i64 0, .slice a0 0 cc, .string ⟨#[]⟩] 76)).drew := (boxC_alloc w2 #[.int .i64 7, .int .i64 o, .int .i64 f, .int .i64 0, .int .i64 0, .slice a0 0 cc, .string ⟨#[]⟩] 76).same rfl
  clear p0 p1 p2 p3 p4 p5 p6 p7 p8 t0 t1 t2 t3 t4 t5 t6 c0 c1 hS
  have E3 := E2.out.step hb3
  have ns3 : Hid (w2.heap.size < (w2.alloc (.cells #[.int .i64 7, .int .i64 o, .int .i64 f, .int .i64 0, .int .i64 0, .slice a0 0 cc, .string ⟨#[]⟩] 76)).drew.heap.size) := Lib.hid (by simp)
  generalize (w2.alloc (.cells #[.int .i64 7, .int .i64 o, .int .i64 f, .int .i64 0, .int .i64 0, .slice a0 0 cc, .string ⟨#[]⟩] 76)).drew = w3 at *
  obtain ⟨⟨c0, c1, -⟩, d1'⟩ := id E3.1
  have E4 := Lib.hid (E3.setAt (i + 1) (.int .i64 ((i : Nat) + 1 : Int)) (by simp))
  have ng : g ≠ w2.heap.size := by omega
  obtain ⟨y0, -⟩ := N3 0 _ rfl
  obtain ⟨y1, -⟩ := N3 1 _ rfl
  obtain ⟨y2, -⟩ := N3 2 _ rfl
  obtain ⟨y3, -⟩ := N3 3 _ rfl
  obtain ⟨y4, -⟩ := N3 4 _ rfl
  obtain ⟨y5, -⟩ := N3 5 _ rfl
  obtain ⟨y6, -⟩ := N3 6 _ rfl
  have N3x := Lib.hid N3
  clear hb3 E3 E2 N3
  have B3z : True := trivial
  clear B3z
  obtain ⟨w4, hw4⟩ : ∃ w4 : World, w4 = w3.setCell ⟨g, 1, none⟩ (.int .i64 ((i : Nat) + 1 : Int)) := ⟨_, rfl⟩
  have N4 : BoxC w2.heap.size [.int .i64 7, .int .i64 o, .int .i64 f, .int .i64 0, .int .i64 0, .slice a0 0 cc, .string ⟨#[]⟩] w4 := by rw [hw4]; exact N3x.out.far _ ng _
  have ns4 : Hid (w2.heap.size < w4.heap.size) := Lib.hid (by rw [hw4, World.size_setCell]; exact ns3.out)
  rw [← hw4] at E4
  have hw4' := Lib.hid hw4.symm
  replace hw4 := Lib.hid hw4
  replace N4 := Lib.hid N4
  go_wp2_with fail
  rw [hw4'.out]
  refine (kl.out _ E4.out.self).mono ?_
  rintro en w8 ⟨X8, x8, rfl, hP8⟩
  clear y0 y1 y2 y3 y4 y5 y6 c0 c1
  have E8 := Lib.hid (E4.out.trans hP8)
  have N8 := N4.out.but hP8.2.2.1 ns4.out (by omega)
  clear hP8
  obtain ⟨y0, -⟩ := N8 0 _ rfl
  obtain ⟨y1, -⟩ := N8 1 _ rfl
  obtain ⟨y2, -⟩ := N8 2 _ rfl
  obtain ⟨y3, -⟩ := N8 3 _ rfl
  obtain ⟨y4, -⟩ := N8 4 _ rfl
  obtain ⟨y5, -⟩ := N8 5 _ rfl
  obtain ⟨y6, -⟩ := N8 6 _ rfl
  clear N8
  go_wp2_with fail
  refine (wfun_any g 7 o f 0 ho3.out a0 cc _).mono ?_
  rintro en w5 ⟨rfl, hb5⟩
  have E5 := E8.out.step hb5
  have hb6 := (Below.refl w5.heap.size w5).alloc (Nat.le_refl _) (.cells #[.int .i64 o, .int .i64 f, .int .i64 0, .int .i64 0, .slice none 0 0] 125)
  have B6 : BoxC w5.heap.size [.int .i64 o, .int .i64 f, .int .i64 0, .int .i64 0, .slice none 0 0] (w5.alloc (.cells #[.int .i64 o, .int .i64 f, .int .i64 0, .int .i64 0, .slice none 0 0] 125)).drew := (boxC_alloc w5 #[.int .i64 o, .int .i64 f, .int .i64 0, .int .i64 0, .slice none 0 0] 125).same rfl
  have E6 := Lib.hid ((E5.step hb6).drewN 1)
  have S6 : (w5.alloc (.cells #[.int .i64 o, .int .i64 f, .int .i64 0, .int .i64 0, .slice none 0 0] 125)).drew.cell? ⟨w5.heap.size, 0, none⟩ = some (.int .i64 o) ∧ (w5.alloc (.cells #[.int .i64 o, .int .i64 f, .int .i64 0, .int .i64 0, .slice none 0 0] 125)).drew.cell? ⟨w5.heap.size, 1, none⟩ = some (.int .i64 f) ∧ (w5.alloc (.cells #[.int .i64 o, .int .i64 f, .int .i64 0, .int .i64 0, .slice none 0 0] 125)).drew.cell? ⟨w5.heap.size, 2, none⟩ = some (.int .i64 0) ∧ (w5.alloc (.cells #[.int .i64 o, .int .i64 f, .int .i64 0, .int .i64 0, .slice none 0 0] 125)).drew.cell? ⟨w5.heap.size, 3, none⟩ = some (.int .i64 0) ∧ (w5.alloc (.cells #[.int .i64 o, .int .i64 f, .int .i64 0, .int .i64 0, .slice none 0 0] 125)).drew.cell? ⟨w5.heap.size, 4, none⟩ = some (.slice none 0 0) := ⟨(B6 0 _ rfl).1, (B6 1 _ rfl).1, (B6 2 _ rfl).1, (B6 3 _ rfl).1, (B6 4 _ rfl).1⟩
  have hgN : g < w5.heap.size := by have := E5.le; omega
  have hlN : w5.heap.size < (w5.alloc (.cells #[.int .i64 o, .int .i64 f, .int .i64 0, .int .i64 0, .slice none 0 0] 125)).drew.heap.size := by simp
  have hN' : w5.heap.size ≠ g := by omega
  clear hb5 hb6 B6 E5 y0 y1 y2 y3 y4 y5 y6
  go_upto_region 22 with fail
  generalize hN : w5.heap.size = N at *
  replace hN := Lib.hid hN
  have E6' : Hid (WkAt g tb tc T (i + 1 + (M.flat l).length) w (w5.alloc (.cells #[.int .i64 o, .int .i64 f, .int .i64 0, .int .i64 0, .slice none 0 0] 125)).drew) := E6
  clear E6
  go_region_held3 (fun W => W.cell? ⟨N, 0, none⟩ = some (.int .i64 o) ∧ W.cell? ⟨N, 1, none⟩ = some (.int .i64 f) ∧ W.cell? ⟨N, 2, none⟩ = some (.int .i64 0) ∧ W.cell? ⟨N, 3, none⟩ = some (.int .i64 0) ∧ W.cell? ⟨N, 4, none⟩ = some (.slice none 0 0))
    (first | (with_reducible assumption) | (exact held5 (hP7.2.2.1 N hlN hN') (by with_reducible assumption)) | go_keep)
    ((go_at_call 66; refine (ke.out _ E6'.out.self).mono ?_; rintro en w7 ⟨X7, x7, rfl, hP7⟩))
  go_wp2
  go_ret
  exact ⟨_, _, rfl, by rw [hj.out]; exact E6'.out.trans hP7⟩

/-- Trees without indices are walked. -/
theorem wex_any (hp : ∀ e b : Ex, e.good → b.good → WexOk e → WexOk b → WexOk (.pick e b)) : ∀ e : Ex, e.good → WexOk e
  | .nums l, h => wex_nums l h
  | .name s, h => wex_name s h
  | .one o f q r, h => wex_one o f q r h (wex_any hp r h.2)
  | .two l o f q r, h => wex_two l o f q r h (wex_any hp l h.2.1) (wex_any hp r h.2.2)
  | .pick e b, h => hp e b h.1 h.2 (wex_any hp e h.1) (wex_any hp b h.2)
end Go.Proofs.YtaplaoelamnoiaaGreatDoor
