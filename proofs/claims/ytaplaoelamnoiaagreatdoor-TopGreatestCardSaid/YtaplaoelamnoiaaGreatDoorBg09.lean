/- Texts that lie in one file: what is plain, rows, boxes, squares, and what is known of a world. No condition. -/
import Derived.Test.YtaplaoelamnoiaaGreatDoorBg08
import Derived.Maps.OwnSet
import Derived.Maps.OwnOps
/- The tree's nodes and the evaluation in memory: its fuel, its names' values. No condition. -/
namespace Go.Proofs.YtaplaoelamnoiaaGreatDoor
open Go.RowKit

theorem flat_get {α : Type} (f : α → List Value) (k : Nat) : ∀ (ls : List α), (∀ p ∈ ls, (f p).length = k) → ∀ (i : Nat) (p : α), ls[i]? = some p → ∀ j, j < k → (ls.flatMap f)[i * k + j]? = (f p)[j]?
  | [], _, i, p, h, _, _ => by simp at h
  | q :: r, hk, 0, p, h, j, hj => by
    simp at h; subst h
    rw [List.flatMap_cons, Nat.zero_mul, Nat.zero_add, List.getElem?_append_left (by rw [hk q (by simp)]; exact hj)]
  | q :: r, hk, i + 1, p, h, j, hj => by
    rw [List.flatMap_cons, List.getElem?_append_right (by rw [hk q (by simp), Nat.succ_mul]; omega), hk q (by simp), show (i + 1) * k + j - k = i * k + j by rw [Nat.succ_mul]; omega]
    exact flat_get f k r (fun p hp => hk p (by simp [hp])) i p (by simpa using h) j hj
theorem flat_len {α : Type} (f : α → List Value) (k : Nat) (ls : List α) (h : ∀ p ∈ ls, (f p).length = k) : (ls.flatMap f).length = ls.length * k := by
  induction ls with
  | nil => simp
  | cons q r ih => rw [List.flatMap_cons, List.length_append, h q (by simp), ih fun p hp => h p (by simp [hp]), List.length_cons, Nat.succ_mul]; omega
/-- Numbers that do not lie in block g. -/
def Off (g : Nat) (a : Option Addr) (xs : List Int) : Prop := xs ≠ [] → ∀ p, a = some p → p.block ≠ g
theorem Off.none (g : Nat) (xs : List Int) : Off g none xs := fun _ p h => by cases h
theorem Fresh.off {w : World} {a : Option Addr} {g : Nat} {xs : List Int} (h : Fresh w a) (hg : g < w.heap.size) : Off g a xs := fun _ p e => by have := h p e; omega
/-- Ahead of block g. -/
def Low (g : Nat) (a : Option Addr) (xs : List Int) : Prop := xs ≠ [] → ∀ p, a = some p → p.block < g
/-- Ahead of block g, or from block B on. -/
def Out (g B : Nat) (a : Option Addr) (xs : List Int) : Prop := xs ≠ [] → ∀ p, a = some p → p.block < g ∨ B ≤ p.block
theorem Low.out {g B : Nat} {a : Option Addr} {xs : List Int} (h : Low g a xs) : Out g B a xs := fun hx p e => .inl (h hx p e)
theorem Fresh.out {w : World} {a : Option Addr} {g B : Nat} {xs : List Int} (h : Fresh w a) (hB : B ≤ w.heap.size) : Out g B a xs := fun _ p e => .inr (Nat.le_trans hB (h p e))
theorem Out.mono {g B B' : Nat} {a : Option Addr} {xs : List Int} (h : Out g B a xs) (hB : B' ≤ B) : Out g B' a xs := fun hx p e => (h hx p e).imp id (Nat.le_trans hB)
theorem Out.off {g B N : Nat} {a : Option Addr} {xs : List Int} (h : Out g B a xs) (h1 : g ≤ N) (h2 : N < B) : Off N a xs := fun hx p e => by rcases h hx p e with h | h <;> omega
theorem Low.off {g : Nat} {a : Option Addr} {xs : List Int} (h : Low g a xs) : Off g a xs := fun hx p e => by have := h hx p e; omega
theorem Row.but {g : Nat} {w W : World} {a : Option Addr} {xs : List Int} (h : Row w a xs) (hb : But g w W) (ho : Off g a xs) : Row W a xs := by
  intro i hi
  obtain ⟨b, off, rfl, hc⟩ := h i hi
  exact ⟨b, off, rfl, (cell_of_eq (hb b (World.block_lt_of_cell? w _ hc) (ho (fun e => by subst e; simp at hi) _ rfl)) _).trans hc⟩
/-- A tree's nodes in block tb, and their numbers; nothing of it in block g. -/
def NdAt (g tb : Nat) (T : List Nd) (w : World) : Prop := tb ≠ g ∧ ∀ (i : Nat) (nd : Nd), T[i]? = some nd → ∃ (a : Option Addr) (c : Nat),
  w.cell? ⟨tb, i * 7, none⟩ = some (.int .i64 nd.op) ∧ w.cell? ⟨tb, i * 7 + 1, none⟩ = some (.int .i64 nd.ao) ∧ w.cell? ⟨tb, i * 7 + 2, none⟩ = some (.int .i64 nd.af) ∧ w.cell? ⟨tb, i * 7 + 3, none⟩ = some (.int .i64 nd.ag) ∧ w.cell? ⟨tb, i * 7 + 4, none⟩ = some (.int .i64 nd.n) ∧
  w.cell? ⟨tb, i * 7 + 5, none⟩ = some (.slice a nd.nums.length c) ∧ w.cell? ⟨tb, i * 7 + 6, none⟩ = some (.string nd.text) ∧ Row w a nd.nums ∧ Off g a nd.nums
theorem NdAt.but {g tb : Nat} {T : List Nd} {w W : World} (h : NdAt g tb T w) (hb : But g w W) : NdAt g tb T W := by
  refine ⟨h.1, fun i nd hi => ?_⟩
  obtain ⟨a, c, h0, h1, h2, h3, h4, h5, h6, hr, ho⟩ := h.2 i nd hi
  have e : W.heap[tb]? = w.heap[tb]? := hb tb (World.block_lt_of_cell? w _ h0) h.1
  exact ⟨a, c, (cell_of_eq e _).trans h0, (cell_of_eq e _).trans h1, (cell_of_eq e _).trans h2, (cell_of_eq e _).trans h3, (cell_of_eq e _).trans h4, (cell_of_eq e _).trans h5, (cell_of_eq e _).trans h6, hr.but hb ho, ho⟩
/-- A tree's nodes as Parse leaves them. -/
theorem ndAt_of {B : Nat} {w : World} {v : Value} {T : List Nd} (h : Nds B w v T) (hT : T ≠ []) : ∃ tb c, v = .slice (some ⟨tb, 0, none⟩) T.length c ∧ T.length ≤ c ∧ B ≤ tb ∧ tb < w.heap.size ∧ ∀ g, (g < B ∨ w.heap.size ≤ g) → NdAt g tb T w := by
  obtain ⟨ls, rfl, h2, h3⟩ := h
  rcases h2.2 with ⟨hv, hn⟩ | ⟨tb, cap, cur, hv, hg, hcur, hnc, r⟩
  · exact absurd (List.eq_nil_of_length_eq_zero hn) hT
  subst hv
  have hlt : tb < w.heap.size := (Array.getElem?_eq_some_iff.1 hcur).1
  refine ⟨tb, cap, rfl, hnc, hg, hlt, fun g hgo => ⟨by omega, fun i nd hi => ?_⟩⟩
  obtain ⟨⟨nd', sv⟩, hp, hq⟩ : ∃ p, ls[i]? = some p ∧ p.1 = nd := by
    rw [List.getElem?_map] at hi
    obtain ⟨p, hp, hq⟩ := Option.map_eq_some_iff.1 hi
    exact ⟨p, hp, hq⟩
  dsimp only at hq
  subst hq
  have hil : i < ls.length := (List.getElem?_eq_some_iff.1 hp).1
  have hk : ∀ p ∈ ls, (Nd.cells p.1 p.2).length = 7 := fun p _ => rfl
  have hc : ∀ j, j < 7 → w.cell? ⟨tb, i * 7 + j, none⟩ = (Nd.cells nd' sv)[j]? := fun j hj => by
    rw [← flat_get (fun p : Nd × Value => Nd.cells p.1 p.2) 7 ls hk i _ hp j hj]
    exact h2.cellAt _ (by rw [List.length_map]; omega)
  have hown := h3 _ (List.mem_of_getElem? hp)
  obtain ⟨a, c, hsv, -, -, hrow⟩ := hown.view
  dsimp only at hsv hown
  subst hsv
  refine ⟨a, c, hc 0 (by omega), hc 1 (by omega), hc 2 (by omega), hc 3 (by omega), hc 4 (by omega), hc 5 (by omega), hc 6 (by omega), hrow, fun _ p e => ?_⟩
  have hB := own_fresh hown p e
  rcases hown.2 with ⟨e2, _⟩ | ⟨b, cap2, cur2, e2, hb, hcur2, _⟩
  · injection e2 with e3; rw [e3] at e; cases e
  · injection e2 with e3
    rw [e3] at e
    cases e
    have := (Array.getElem?_eq_some_iff.1 hcur2).1
    show b ≠ g
    omega

/-- What an element of the names' map reads as: itself. -/
def heldElem (v : Value) : Option (DataW Value × List MemPlace) := some (.held v, [])
abbrev nameKey (s : ByteArray) : Lit := .string s.data.toList
/-- The names' values. -/
def EnvAt (g mb : Nat) (env : ByteArray → Option Arr) (w : World) : Prop := mb ≠ g ∧ ∃ (n : Nat) (D : DataW Value), w.ownsMap Tryz.prog 9 heldElem mb n D ∧
  ∀ s x, env s = some x → s.size ≤ maxLen ∧ ∃ (a : Option Addr) (c : Nat) (b : Option Addr) (k : Nat), (∀ z, D.atKey (nameKey s) z = .held (arrV x.ch a x.s.length c b x.d.length k)) ∧ Maps.has D (nameKey s) = true ∧ Row w a x.s ∧ Row w b x.d ∧ Low g a x.s ∧ Low g b x.d ∧ x.d.length ≤ k
theorem EnvAt.but {g mb : Nat} {env : ByteArray → Option Arr} {w W : World} (h : EnvAt g mb env w) (hb : But g w W) : EnvAt g mb env W := by
  obtain ⟨h1, n, D, ho, he⟩ := h
  refine ⟨h1, n, D, ?_, fun s x hs => ?_⟩
  · obtain ⟨es, clock, hm, hF, hs, hD⟩ := ho
    exact ⟨es, clock, hb.get hm h1, hF, hs, hD⟩
  · obtain ⟨hz, a, c, b, k, h2, h3, h4, h5, h6, h7, h8⟩ := he s x hs
    exact ⟨hz, a, c, b, k, h2, h3, h4.but hb h6.off, h5.but hb h7.off, h6, h7, h8⟩
/-- The evaluation, in block g. -/
def Fuel (g mb fuel : Nat) (w : World) : Prop := (w.cell? ⟨g, 0, none⟩ = some (.map (some mb)) ∧ w.cell? ⟨g, 1, none⟩ = some (.int .i64 fuel)) ∧ w.frozen? ⟨g, 1, none⟩ = false
theorem Fuel.same {g mb fuel : Nat} {w W : World} (h : Fuel g mb fuel w) (e : W.heap[g]? = w.heap[g]?) : Fuel g mb fuel W :=
  ⟨⟨(cell_of_eq e _).trans h.1.1, (cell_of_eq e _).trans h.1.2⟩, (frozen_of_eq e _).trans h.2⟩
theorem Fuel.lt {g mb fuel : Nat} {w : World} (h : Fuel g mb fuel w) : g < w.heap.size := World.block_lt_of_cell? _ _ h.1.1
/-- What the evaluation has, and what lies otherwise: w at its start, W now. -/
def EvAt (g mb tb : Nat) (T : List Nd) (env : ByteArray → Option Arr) (fuel : Nat) (w W : World) : Prop :=
  Fuel g mb fuel W ∧ (NdAt g tb T w ∧ EnvAt g mb env w) ∧ But g w W ∧ Below g w W ∧ g < w.heap.size
section
variable {g mb tb : Nat} {T : List Nd} {env : ByteArray → Option Arr} {fuel f2 : Nat} {w W W2 : World}
theorem EvAt.nodes (h : EvAt g mb tb T env fuel w W) : NdAt g tb T W := h.2.1.1.but h.2.2.1
theorem EvAt.names (h : EvAt g mb tb T env fuel w W) : EnvAt g mb env W := h.2.1.2.but h.2.2.1
theorem EvAt.le (h : EvAt g mb tb T env fuel w W) : w.heap.size ≤ W.heap.size := h.2.2.2.1.size
theorem EvAt.glt (h : EvAt g mb tb T env fuel w W) : g < w.heap.size := h.2.2.2.2
theorem EvAt.step (h : EvAt g mb tb T env fuel w W) (k : Below W.heap.size W W2) : EvAt g mb tb T env fuel w W2 := by
  obtain ⟨h1, h2, h3, h4, h5⟩ := h
  have hs := h4.size
  exact ⟨h1.same (k.block g (by omega)), h2, h3.below k hs, h4.trans (k.mono (by omega)), h5⟩
theorem EvAt.step0 (h : EvAt g mb tb T env fuel w W) (k : Below w.heap.size W W2) : EvAt g mb tb T env fuel w W2 := by
  obtain ⟨h1, h2, h3, h4, h5⟩ := h
  have hs := h4.size
  exact ⟨h1.same (k.block g h5), h2, fun b hb hne => (k.block b hb).trans (h3 b hb hne), h4.trans (k.mono (by omega)), h5⟩
theorem EvAt.drewN (h : EvAt g mb tb T env fuel w W) (n : Nat) : EvAt g mb tb T env fuel w (W.drewN n) := h.step (below_drewN (Below.refl _ _) n)
theorem EvAt.alloc (h : EvAt g mb tb T env fuel w W) (o : Obj) : EvAt g mb tb T env fuel w (W.alloc o) := h.step ((Below.refl _ W).alloc (Nat.le_refl _) o)
theorem EvAt.trans (h : EvAt g mb tb T env fuel w W) (k : EvAt g mb tb T env f2 W W2) : EvAt g mb tb T env f2 w W2 := by
  obtain ⟨h1, h2, h3, h4, h5⟩ := h
  obtain ⟨k1, k2, k3, k4, k5⟩ := k
  exact ⟨k1, h2, h3.trans k3 h4.size, h4.trans k4, h5⟩
theorem EvAt.self (h : EvAt g mb tb T env fuel w W) : EvAt g mb tb T env fuel W W :=
  ⟨h.1, ⟨h.nodes, h.names⟩, But.refl _ _, Below.refl _ _, h.1.lt⟩
theorem EvAt.setNew (h : EvAt g mb tb T env fuel w W) {N : Nat} (hN : w.heap.size ≤ N) (o : Nat) (v : Value) : EvAt g mb tb T env fuel w (W.setCell ⟨N, o, none⟩ v) := by
  obtain ⟨h1, h2, h3, h4, h5⟩ := h
  exact ⟨h1.same (Below.heap_setCell _ _ _ _ (by show g ≠ N; omega)), h2, fun k hk hne => (Below.heap_setCell _ _ _ _ (by show k ≠ N; omega)).trans (h3 k hk hne), h4.setCell (by show g ≤ N; omega) _, h5⟩
theorem EvAt.tick {f3 : Nat} (h : EvAt g mb tb T env fuel w W) (v : Value) (hv : v = .int .i64 f3) : EvAt g mb tb T env f3 w (W.setCell ⟨g, 1, none⟩ v) := by
  subst hv
  obtain ⟨⟨⟨a, b⟩, d⟩, h2, h3, h4, h5⟩ := h
  refine ⟨⟨⟨?_, ?_⟩, ?_⟩, h2, h3.set 1 _, h4.setCell (Nat.le_refl _) _, h5⟩
  · rw [World.cell?_setCell_other _ _ _ _ (by simp)]; exact a
  · exact World.cell?_setCell_same' _ _ _ (by rw [b]; rfl)
  · rw [World.frozen?_setCell]; exact d
end
/-- What a value's call leaves. -/
def ValPost (x : Arr) (g mb tb : Nat) (T : List Nd) (env : ByteArray → Option Arr) (fuel : Nat) (w : World) (en : Ending) (w' : World) : Prop :=
  ∃ (a : Option Addr) (c : Nat) (b : Option Addr) (k : Nat), en = .returned (arrV x.ch a x.s.length c b x.d.length k) ∧ Row w' a x.s ∧ Row w' b x.d ∧ Out g w.heap.size a x.s ∧ Out g w.heap.size b x.d ∧ EvAt g mb tb T env fuel w w'
/-- The same, with word of the room that the value's cells have. -/
def ValPostC (C : Nat → Prop) (x : Arr) (g mb tb : Nat) (T : List Nd) (env : ByteArray → Option Arr) (fuel : Nat) (w : World) (en : Ending) (w' : World) : Prop :=
  ∃ (a : Option Addr) (c : Nat) (b : Option Addr) (k : Nat), C k ∧ en = .returned (arrV x.ch a x.s.length c b x.d.length k) ∧ Row w' a x.s ∧ Row w' b x.d ∧ Out g w.heap.size a x.s ∧ Out g w.heap.size b x.d ∧ EvAt g mb tb T env fuel w w'
/-- The receiver of all calls of a line in which no function is written out. -/
def callV (g : Nat) : Value := .agg #[.slice none 0 0, .int .i64 0, .int .i64 0, .pointer none, .bool false, .slice none 0 0, .slice none 0 0, .int .i64 0, .pointer (some ⟨g, 0, none⟩)]
/-- The call value tells what the expression is worth. -/
def ValOk (env : ByteArray → Option Arr) (e : Ex) (x : Arr) : Prop := ∀ (g mb tb tc fuel : Nat) (T pre post : List Nd) (w : World), EvAt g mb tb T env fuel w w → T = pre ++ (M.flat e ++ post) → T.length ≤ 1000 → M.steps e ≤ fuel → fuel ≤ 20000 →
  Calls Tryz.prog 41 #[callV g, .slice (some ⟨tb, 0, none⟩) T.length tc, .int .i64 pre.length] w fun en w' => ValPost x g mb tb T env (fuel - M.steps e) w en w'
/-- The call value tells what the expression is worth, in a room that is told. -/
def ValOkC (C : Nat → Prop) (env : ByteArray → Option Arr) (e : Ex) (x : Arr) : Prop := ∀ (g mb tb tc fuel : Nat) (T pre post : List Nd) (w : World), EvAt g mb tb T env fuel w w → T = pre ++ (M.flat e ++ post) → T.length ≤ 1000 → M.steps e ≤ fuel → fuel ≤ 20000 →
  Calls Tryz.prog 41 #[callV g, .slice (some ⟨tb, 0, none⟩) T.length tc, .int .i64 pre.length] w fun en w' => ValPostC C x g mb tb T env (fuel - M.steps e) w en w'
theorem ValOkC.plain {C : Nat → Prop} {env : ByteArray → Option Arr} {e : Ex} {x : Arr} (h : ValOkC C env e x) : ValOk env e x := fun g mb tb tc fuel T pre post w h1 h2 h3 h4 h5 =>
  (h g mb tb tc fuel T pre post w h1 h2 h3 h4 h5).mono fun en w' ⟨a, c, b, k, _, r⟩ => ⟨a, c, b, k, r⟩
theorem ValOk.any {env : ByteArray → Option Arr} {e : Ex} {x : Arr} (h : ValOk env e x) : ValOkC (fun _ => True) env e x := fun g mb tb tc fuel T pre post w h1 h2 h3 h4 h5 =>
  (h g mb tb tc fuel T pre post w h1 h2 h3 h4 h5).mono fun en w' ⟨a, c, b, k, r⟩ => ⟨a, c, b, k, trivial, r⟩
/-- A function of two arrays, as a contract, where the second one's room is told. -/
def Two1C (C : Nat → Prop) (o f g : Int) (x y z : Arr) : Prop := ∀ (w : World) (a : Option Addr) (c : Nat) (b : Option Addr) (k : Nat) (a' : Option Addr) (c' : Nat) (b' : Option Addr) (k' : Nat), C k' → Row w a x.s → Row w b x.d → Row w a' y.s → Row w b' y.d →
  Calls Tryz.prog 91 #[.agg #[.int .i64 o, .int .i64 f, .int .i64 g], arrV x.ch a x.s.length c b x.d.length k, arrV y.ch a' y.s.length c' b' y.d.length k'] w fun e w' => ArrPostF (.ok z) w e w'
/-- The call acted does. -/
def ActOk (env : ByteArray → Option Arr) (e : Ex) (x : Arr) : Prop := ∀ (g mb tb tc fuel : Nat) (T pre post : List Nd) (w : World), EvAt g mb tb T env fuel w w → T = pre ++ (M.flat e ++ post) → T.length ≤ 1000 → M.steps e ≤ fuel → fuel ≤ 20000 →
  Calls Tryz.prog 68 #[callV g, .slice (some ⟨tb, 0, none⟩) T.length tc, .int .i64 pre.length] w fun en w' => ValPost x g mb tb T env (fuel - M.steps e) w en w'
theorem BoxC.put {N : Nat} {vs : List Value} {w : World} (h : BoxC N vs w) (i : Nat) (hi : i < vs.length) (v : Value) : BoxC N (vs.set i v) (w.setCell ⟨N, i, none⟩ v) := by
  intro j u hu
  by_cases hij : i = j
  · subst hij
    rw [List.getElem?_set_self hi] at hu
    cases hu
    refine ⟨World.cell?_setCell_same' _ _ _ (by rw [(h i _ (List.getElem?_eq_getElem hi)).1]; rfl), ?_⟩
    rw [World.frozen?_setCell]; exact (h i _ (List.getElem?_eq_getElem hi)).2
  · rw [List.getElem?_set_ne hij] at hu
    refine ⟨?_, ?_⟩
    · rw [World.cell?_setCell_other _ _ _ _ (by first | (simp; done) | (simp; omega))]; exact (h j u hu).1
    · rw [World.frozen?_setCell]; exact (h j u hu).2
theorem BoxC.far {N : Nat} {vs : List Value} {w : World} (h : BoxC N vs w) (p : Addr) (hp : p.block ≠ N) (v : Value) : BoxC N vs (w.setCell p v) := h.same (Below.heap_setCell _ _ _ _ (fun e => hp e.symm))
theorem BoxC.but {g N : Nat} {vs : List Value} {w W : World} (h : BoxC N vs w) (hb : But g w W) (hN : N < w.heap.size) (hg : g < N) : BoxC N vs W := h.same (hb N hN (by omega))
theorem But.set3 {g : Nat} {w : World} (a b c : Nat) (x y z : Value) : But g w (((w.setCell ⟨g, a, none⟩ x).setCell ⟨g, b, none⟩ y).setCell ⟨g, c, none⟩ z) := (((But.refl g w).set a x).set b y).set c z
end Go.Proofs.YtaplaoelamnoiaaGreatDoor

/- The call eval.skip: the place behind an expression. Condition: the tree's nodes lie. -/
namespace Go.Proofs.YtaplaoelamnoiaaGreatDoor
open Go.RowKit

/-- Expressions whose functions are not written out. -/
def Ex.plain : Ex → Prop
  | .nums _ => True
  | .name _ => True
  | .one o _ _ r => (0 ≤ o ∧ o < 6) ∧ r.plain
  | .two l o _ _ r => (0 ≤ o ∧ o < 6) ∧ l.plain ∧ r.plain
  | .pick e b => e.plain ∧ b.plain

set_option maxRecDepth 20000 in
set_option maxHeartbeats 8000000 in
theorem skip_any (g tb tc : Nat) (T : List Nd) (w : World) (hT : NdAt g tb T w) (hl : T.length ≤ 1000) (e : Ex) (he : e.plain) (pre post : List Nd) (hsp : T = pre ++ (M.flat e ++ post)) :
    Calls Tryz.prog 88 #[.slice (some ⟨tb, 0, none⟩) T.length tc, .int .i64 pre.length] w fun en w' => en = .returned (.int .i64 ((pre.length + (M.flat e).length : Nat) : Int)) ∧ Below w.heap.size w w' := by
  replace hT := Lib.hid hT
  have hgl : Hid (T = pre ++ ([e].flatMap M.flat ++ post)) := Lib.hid (by simpa using hsp)
  obtain ⟨E, hE⟩ : ∃ E, E = pre.length + (M.flat e).length := ⟨_, rfl⟩
  rw [← hE]
  obtain ⟨K, hK⟩ : ∃ K, K = pre.length := ⟨_, rfl⟩
  rw [← hK]
  replace hE := Lib.hid hE
  replace hK := Lib.hid hK
  clear hsp
  go_enter Tryz.func88, Tryz.ntmps88
  go_wp2
  go_loopw [1, 5] (fun k l wr => ∃ (es : List Ex) (done : List Nd), k = .int .i64 done.length ∧ l = .int .i64 es.length ∧ T = done ++ (es.flatMap M.flat ++ post) ∧ (∀ x ∈ es, x.plain) ∧ done.length + (es.flatMap M.flat).length = E ∧ Below w.heap.size w wr) (fun k _ _ => T.length - (intOf k).toNat)
  case atStart => exact ⟨[e], pre, by rw [hK.out], rfl, hgl.out, by simpa using he, by rw [hE.out]; simp, Below.refl _ _⟩
  case round =>
    obtain ⟨es, done, rfl, rfl, hsp, hpl, hen, hb⟩ := hrel
    cases es with
    | nil =>
      rw [List.flatMap_nil, List.length_nil, Nat.add_zero] at hen
      subst hen
      replace hsp := Lib.hid hsp
      replace hb := Lib.hid hb
      replace hE := Lib.hid hE
      go_wp2
      go_ret
      exact ⟨rfl, hb.out⟩
    | cons x es =>
      have hlen : T.length = done.length + (((x :: es).flatMap M.flat).length + post.length) := by
        have h := congrArg List.length hsp
        simp only [List.length_append] at h
        exact h
      have hx := hpl x (by simp)
      have hes : ∀ y ∈ es, y.plain := fun y hy => hpl y (by simp [hy])
      have hnode : T[done.length]? = some (M.node x) := by
        rw [hsp, List.getElem?_append_right (Nat.le_refl _), Nat.sub_self, List.flatMap_cons, flat_node]; simp
      have hsp2 : T = (done ++ [M.node x]) ++ ((M.parts x ++ es).flatMap M.flat ++ post) := by
        rw [hsp, List.flatMap_cons, flat_node]; simp
      have hfl : ((x :: es).flatMap M.flat).length = 1 + ((M.parts x ++ es).flatMap M.flat).length := by
        rw [List.flatMap_cons, flat_node, List.flatMap_append]; simp; omega
      rw [hfl] at hen hlen
      have hlt : done.length < T.length := by omega
      obtain ⟨a, c, c0, c1, c2, c3, c4, c5, c6, -, -⟩ := (hT.out.but (But.of_below hb)).2 _ _ hnode
      have z0 : (0 : Int) ≤ ((done.length : Nat) : Int) := by omega
      have z1 : ((done.length : Nat) : Int) < ((T.length : Nat) : Int) := by omega
      have zz : ((done.length : Nat) : Int).toNat = done.length := by simp
      have hel : es.length ≤ 1000 := by
        have h1 := flats_len es
        rw [List.flatMap_append, List.length_append] at hlen
        omega
      have hdl : done.length ≤ 1000 := by omega
      obtain ⟨dl, hdl2⟩ : ∃ dl, dl = done.length := ⟨_, rfl⟩
      obtain ⟨nl, hnl⟩ : ∃ nl, nl = T.length := ⟨_, rfl⟩
      obtain ⟨el, hel2⟩ : ∃ el, el = es.length := ⟨_, rfl⟩
      rw [← hdl2] at c0 c1 c2 c3 c4 c5 c6 z0 z1 zz hdl hlt
      rw [← hnl] at z1 hlt
      rw [← hel2] at hel
      rw [List.length_cons, ← hel2, ← hdl2, ← hnl]
      replace hsp := Lib.hid hsp
      replace hsp2 := Lib.hid hsp2
      replace hb := Lib.hid hb
      replace hnode := Lib.hid hnode
      replace hen := Lib.hid hen
      replace hlen := Lib.hid hlen
      replace hfl := Lib.hid hfl
      replace hE := Lib.hid hE
      replace hpl := Lib.hid hpl
      replace hes := Lib.hid hes
      replace hdl2 := Lib.hid hdl2
      replace hnl := Lib.hid hnl
      replace hel2 := Lib.hid hel2
      have hbA := Lib.hid (hb.out.alloc hb.out.size (.cells #[.int .i64 (M.node x).op, .int .i64 (M.node x).ao, .int .i64 (M.node x).af, .int .i64 (M.node x).ag, .int .i64 (M.node x).n, .slice a (M.node x).nums.length c, .string (M.node x).text] 76))
      cases x with
      | nums l =>
        simp only [M.node] at c0 c1 c2 c3 c4 c5 c6
        go_wp2
        go_roundw
        case rel => exact ⟨es, done ++ [M.node (.nums l)], by rw [hdl2.out]; simp, by rw [hel2.out], hsp2.out, hes.out, by have := hen.out; simp [M.parts] at this ⊢; omega, hbA.out⟩
        case measure => have := hlt; have := hnl.out; simp [intOf]; omega
      | name s =>
        simp only [M.node] at c0 c1 c2 c3 c4 c5 c6
        go_wp2
        go_roundw
        case rel => exact ⟨es, done ++ [M.node (.name s)], by rw [hdl2.out]; simp, by rw [hel2.out], hsp2.out, hes.out, by have := hen.out; simp [M.parts] at this ⊢; omega, hbA.out⟩
        case measure => have := hlt; have := hnl.out; simp [intOf]; omega
      | one o f q r =>
        simp only [M.node] at c0 c1 c2 c3 c4 c5 c6
        have ho : (o == 6) = false := by rw [beq_eq_false_iff_ne]; have := hx.1.2; omega
        replace hx := Lib.hid hx
        go_wp2
        go_roundw
        case rel => exact ⟨r :: es, done ++ [M.node (.one o f q r)], by rw [hdl2.out]; simp, by rw [List.length_cons, hel2.out]; first | rfl | simp, hsp2.out, by intro y hy; (rcases List.mem_cons.1 hy with rfl | hy); (exact hx.out.2); (exact hes.out y hy), by have := hen.out; simp [M.parts] at this ⊢; omega, hbA.out⟩
        case measure => have := hlt; have := hnl.out; simp [intOf]; omega
      | two l o f q r =>
        simp only [M.node] at c0 c1 c2 c3 c4 c5 c6
        have ho : (o == 6) = false := by rw [beq_eq_false_iff_ne]; have := hx.1.2; omega
        replace hx := Lib.hid hx
        go_wp2
        go_roundw
        case rel => exact ⟨l :: r :: es, done ++ [M.node (.two l o f q r)], by rw [hdl2.out]; simp, by rw [List.length_cons, List.length_cons, hel2.out]; congr 1; omega, hsp2.out, by intro y hy; (rcases List.mem_cons.1 hy with rfl | hy); (exact hx.out.2.1); (rcases List.mem_cons.1 hy with rfl | hy); (exact hx.out.2.2); (exact hes.out y hy), by have := hen.out; simp [M.parts] at this ⊢; omega, hbA.out⟩
        case measure => have := hlt; have := hnl.out; simp [intOf]; omega
      | pick e' b' =>
        simp only [M.node] at c0 c1 c2 c3 c4 c5 c6
        replace hx := Lib.hid hx
        go_wp2
        go_roundw
        case rel => exact ⟨e' :: b' :: es, done ++ [M.node (.pick e' b')], by rw [hdl2.out]; simp, by rw [List.length_cons, List.length_cons, hel2.out]; congr 1; omega, hsp2.out, by intro y hy; (rcases List.mem_cons.1 hy with rfl | hy); (exact hx.out.1); (rcases List.mem_cons.1 hy with rfl | hy); (exact hx.out.2); (exact hes.out y hy), by have := hen.out; simp [M.parts] at this ⊢; omega, hbA.out⟩
        case measure => have := hlt; have := hnl.out; simp [intOf]; omega
end Go.Proofs.YtaplaoelamnoiaaGreatDoor
