/- Texts that lie in one file: what is plain, rows, boxes, squares, and what is known of a world. No condition. -/
import Derived.Test.YtaplaoelamnoiaaGreatDoorBg03
import Derived.Test.YtaplaoelamnoiaaGreatDoorBg02
import Derived.Test.YtaplaoelamnoiaaGreatDoorBg04
import Derived.Laws.Rows
import Derived.Deep.RegionLaw
/- An array that is being built: its box, its cells an own slice, all else as it was. No condition. -/
namespace Go.Proofs.YtaplaoelamnoiaaGreatDoor
open Go.RowKit

theorem cell_of_eq {w v : World} {b : Nat} (h : v.heap[b]? = w.heap[b]?) (o : Nat) : v.cell? ⟨b, o, none⟩ = w.cell? ⟨b, o, none⟩ := World.cell?_of_block (w := w) h
theorem frozen_of_eq {w v : World} {b : Nat} (h : v.heap[b]? = w.heap[b]?) (o : Nat) : v.frozen? ⟨b, o, none⟩ = w.frozen? ⟨b, o, none⟩ := by
  unfold World.frozen?; simp only; rw [h]

/-- In the box N an array is being built from world wB on: its cells, dv, are an own slice in blocks from B on. -/
def OutAt (w wB : World) (N B : Nat) (ch : Bool) (sv dv : Value) (ys : List Int) (wr : World) : Prop :=
  ((wr.cell? ⟨N, 0, none⟩ = some (.bool ch) ∧ wr.cell? ⟨N, 1, none⟩ = some sv ∧ wr.cell? ⟨N, 2, none⟩ = some dv) ∧ wr.frozen? ⟨N, 2, none⟩ = false) ∧
  Own wr B dv ys ∧ Below w.heap.size w wr ∧ B ≤ wr.heap.size ∧ (∀ b, b < B → b ≠ N → wr.heap[b]? = wB.heap[b]?)

theorem OutAt.step {w wB wr w' : World} {N B : Nat} {ch : Bool} {sv dv v' : Value} {ys zs : List Int} (h : OutAt w wB N B ch sv dv ys wr) (hN : w.heap.size ≤ N) (hNB : N < B)
    (hb : Below B wr w') (ho : Own w' B v' zs) : OutAt w wB N B ch sv v' zs (w'.setCell ⟨N, 2, none⟩ v') := by
  obtain ⟨⟨⟨c0, c1, c2⟩, f2⟩, hown, hbel, hsz, hrest⟩ := h
  have old : ∀ (b o : Nat) (u : Value), b < B → wr.cell? ⟨b, o, none⟩ = some u → w'.cell? ⟨b, o, none⟩ = some u := fun b o u hlt hc => (hb.cell (by exact hlt)).trans hc
  refine ⟨⟨⟨?_, ?_, ?_⟩, ?_⟩, ho.setCell _ _ hNB, (hbel.trans (hb.mono (by omega))).setCell hN _, ?_, ?_⟩
  · rw [World.cell?_setCell_other _ _ _ _ (by simp)]; exact old _ _ _ hNB c0
  · rw [World.cell?_setCell_other _ _ _ _ (by simp)]; exact old _ _ _ hNB c1
  · exact cell?_set_same _ _ _ (by rw [old _ _ _ hNB c2]; rfl)
  · rw [World.frozen?_setCell]; exact (hb.frozen (by exact hNB)).trans f2
  · have := hb.size; simp; omega
  · intro b hbB hne
    rw [heap_setCell_other _ _ _ _ hne, hb.block b hbB]
    exact hrest b hbB hne

theorem OutAt.box {w wB wr : World} {N B R : Nat} {ch : Bool} {sv dv : Value} {ys : List Int} (h : OutAt w wB N B ch sv dv ys wr) {ch' : Bool} {a : Option Addr} {m c : Nat} {b : Option Addr} {n z : Nat}
    (hR : R < B) (hne : R ≠ N) (hb : BoxF wB R ch' a m c b n z) : BoxF wr R ch' a m c b n z := by
  have e := h.2.2.2.2 R hR hne
  obtain ⟨⟨x0, x1, x2⟩, y0, y1, y2⟩ := hb
  exact ⟨⟨(cell_of_eq e 0).trans x0, (cell_of_eq e 1).trans x1, (cell_of_eq e 2).trans x2⟩, (frozen_of_eq e 0).trans y0, (frozen_of_eq e 1).trans y1, (frozen_of_eq e 2).trans y2⟩

end Go.Proofs.YtaplaoelamnoiaaGreatDoor

/- Own slices of elements of any number of cells. No condition. -/
namespace Go.Proofs.YtaplaoelamnoiaaGreatDoor
open Go.RowKit

theorem ownE_view {w : World} {B : Nat} {e : TypeId} {k : Nat} {v : Value} {n : Nat} {xs : List Value} (h : w.ownsRow B e k v n xs) :
    ∃ a c, v = .slice a n c ∧ n ≤ c ∧ (∀ j u, xs[j]? = some u → ∃ b, a = some ⟨b, 0, none⟩ ∧ B ≤ b ∧ w.cell? ⟨b, j, none⟩ = some u) := by
  obtain ⟨hl, h⟩ := h
  rcases h with ⟨rfl, rfl⟩ | ⟨g, cap, cur, rfl, hB, hb, hnc, hcm, hcs, htk⟩
  · refine ⟨none, 0, rfl, Nat.le_refl _, fun j u hj => ?_⟩
    rw [Nat.zero_mul] at hl
    rw [List.eq_nil_of_length_eq_zero hl] at hj
    cases hj
  · refine ⟨_, _, rfl, hnc, fun j u hj => ⟨g, rfl, hB, ?_⟩⟩
    rw [cell_of_row _ _ j _ e (0, 0) hb]
    have hjl := (List.getElem?_eq_some_iff.1 hj).1
    rw [← htk] at hj
    rw [List.getElem?_take_of_lt (by omega)] at hj
    simpa using hj
theorem ownE_same {w w' : World} {B : Nat} {e : TypeId} {k : Nat} {v : Value} {n : Nat} {xs : List Value} (h : w.ownsRow B e k v n xs) (hh : ∀ b, B ≤ b → b < w.heap.size → w'.heap[b]? = w.heap[b]?) : w'.ownsRow B e k v n xs := by
  obtain ⟨hl, h⟩ := h
  refine ⟨hl, ?_⟩
  rcases h with h | ⟨g, cap, cur, hv, hB, hb, hrest⟩
  · exact .inl h
  · exact .inr ⟨g, cap, cur, hv, hB, (hh g hB (Array.getElem?_eq_some_iff.1 hb).1).trans hb, hrest⟩

/-- One element more, as a step of a region that draws its order. -/
theorem step_app_E {w : World} {ops : Array Oper} {o : Oper} {a : Act} {K : Act → World → Prop} {Q : Exit → Act → World → Prop} {E : Prop} (t e : TypeId) (i : TypeInfo) (z : Value) (size bytes : Nat) (ht : Tryz.prog.underlying t = some (.slice e)) (hi : Tryz.prog.info? e = some i) (hz : i.zero = some z) (hsize : i.size = size) (hby : i.bytes = bytes) (hzs : z.cells.size = size) (hsz : 0 < size)
    (hgd : o.guard = none) (s x : Operand) (ho : o.op = .call { callee := .builtin .append, args := #[s, x], argTypes := #[t, t] })
    (B : Nat) (v : Value) (n : Nat) (xs news : List Value) (blk : Nat) (hs : a.eval s = v) (hown : w.ownsRow B e size v n xs) (hx : a.eval x = .slice (some ⟨blk, 0, none⟩) 1 1) (hl : news.length = size) (hc : ∀ j u, news[j]? = some u → w.cell? ⟨blk, j, none⟩ = some u) (h1 : ∀ u ∈ news, u.oneCell' = true)
    (hlen : n + 1 ≤ maxLen) (hbytes : (n + 1) * bytes ≤ 140737488355328) (hB : B ≤ w.heap.size)
    (h : ∀ a' c' w', w'.ownsRow B e size (.slice a' (n + 1) c') (n + 1) (xs ++ news) → Below B w w' → K (a.put o.dst (.slice a' (n + 1) c')) w') :
    if Region.wanted o (yielded ops a.tmps) = true then Oper.wp Tryz.prog o a w K Q else E := by
  have hw : Region.wanted o (yielded ops a.tmps) = true := by simp [Region.wanted, hgd]
  rw [if_pos hw]
  refine wp_append_own w s x t ho B e i z size bytes ht hi hz hsize hby hzs hsz v n xs hs hown ⟨blk, 0, none⟩ 1 1 news hx (by rw [hl, Nat.one_mul]) ?_ h1 hlen hbytes hB ?_
  · intro j u hj
    rw [Addr.add_lit, Nat.zero_add]
    exact hc j u hj
  · intro v' w' h1 h2 _
    obtain ⟨a', c', hv, _, _⟩ := ownE_view h1
    subst hv
    refine h a' c' w' h1 ?_
    exact (Below.refl B w).grown h2 hB (fun k hk => by
        rcases hown.2 with ⟨rfl, _⟩ | ⟨g, cap, cur, rfl, hg, _⟩
        · simp [Value.ownBlock] at hk
        · simp [Value.ownBlock] at hk; omega)
/-- .. and where the order is known. -/
theorem app_E {w : World} {ops : Array Oper} {rest : List Oper} {o : Oper} {a : Act} {Q : Exit → Act → World → Prop} (t e : TypeId) (i : TypeInfo) (z : Value) (size bytes : Nat) (ht : Tryz.prog.underlying t = some (.slice e)) (hi : Tryz.prog.info? e = some i) (hz : i.zero = some z) (hsize : i.size = size) (hby : i.bytes = bytes) (hzs : z.cells.size = size) (hsz : 0 < size)
    (hgd : o.guard = none) (s x : Operand) (ho : o.op = .call { callee := .builtin .append, args := #[s, x], argTypes := #[t, t] })
    (B : Nat) (v : Value) (n : Nat) (xs news : List Value) (blk : Nat) (hs : a.eval s = v) (hown : w.ownsRow B e size v n xs) (hx : a.eval x = .slice (some ⟨blk, 0, none⟩) 1 1) (hl : news.length = size) (hc : ∀ j u, news[j]? = some u → w.cell? ⟨blk, j, none⟩ = some u) (h1 : ∀ u ∈ news, u.oneCell' = true)
    (hlen : n + 1 ≤ maxLen) (hbytes : (n + 1) * bytes ≤ 140737488355328) (hB : B ≤ w.heap.size)
    (h : ∀ a' c' w', w'.ownsRow B e size (.slice a' (n + 1) c') (n + 1) (xs ++ news) → Below B w w' → wpList Tryz.prog ops Q rest (a.put o.dst (.slice a' (n + 1) c')) w') :
    wpList Tryz.prog ops Q (o :: rest) a w := by
  refine wpList_append_own w hgd s x t ho B e i z size bytes ht hi hz hsize hby hzs hsz v n xs hs hown ⟨blk, 0, none⟩ 1 1 news hx (by rw [hl, Nat.one_mul]) ?_ h1 hlen hbytes hB ?_
  · intro j u hj
    rw [Addr.add_lit, Nat.zero_add]
    exact hc j u hj
  · intro v' w' h1 h2 _
    obtain ⟨a', c', hv, _, _⟩ := ownE_view h1
    subst hv
    refine h a' c' w' h1 ?_
    exact (Below.refl B w).grown h2 hB (fun k hk => by
        rcases hown.2 with ⟨rfl, _⟩ | ⟨g, cap, cur, rfl, hg, _⟩
        · simp [Value.ownBlock] at hk
        · simp [Value.ownBlock] at hk; omega)
end Go.Proofs.YtaplaoelamnoiaaGreatDoor

/- Rows of whole numbers, wrapped, as cells of a block of their own. No condition. -/
namespace Go.Proofs.YtaplaoelamnoiaaGreatDoor
open Go.RowKit

/-- k whole numbers, wrapped. -/
def rowCells (k : Nat) (f : Nat → Int) : Array Value := ((List.range k).map fun i => Value.int .i64 (wrap64 (f i))).toArray
theorem row_size (k : Nat) (f : Nat → Int) : (rowCells k f).size = k := by simp [rowCells]
theorem row_get {k : Nat} (f : Nat → Int) {i : Nat} (hi : i < k) : (rowCells k f)[i]? = some (.int .i64 (wrap64 (f i))) := by simp [rowCells, hi]
/-- Another number at a place. -/
def putR (f : Nat → Int) (i : Nat) (v : Int) (a : Nat) : Int := if a = i then v else f a
theorem row_put {k : Nat} (f : Nat → Int) {i : Nat} (v : Int) : (rowCells k f).setIfInBounds i (.int .i64 (wrap64 v)) = rowCells k (putR f i v) := by
  apply Array.toList_inj.1
  apply List.ext_getElem
  · simp [rowCells]
  · intro j h1 h2
    simp only [Array.toList_setIfInBounds, List.getElem_set, rowCells, List.getElem_map, List.getElem_range, putR]
    by_cases e : i = j
    · rw [if_pos e, if_pos e.symm]
    · rw [if_neg e, if_neg (fun h => e h.symm)]
theorem row_cell {W : World} {b k : Nat} {e : TypeId} {f : Nat → Int} (h : W.heap[b]? = some (.cells (rowCells k f) e (0, 0))) {i : Nat} (hi : i < k) : W.cell? ⟨b, i, none⟩ = some (.int .i64 (wrap64 (f i))) := by
  rw [cell_of_row W b i _ e (0, 0) h]; exact row_get f hi
theorem row_set {W : World} {b k : Nat} {e : TypeId} {f : Nat → Int} (h : W.heap[b]? = some (.cells (rowCells k f) e (0, 0))) (i : Nat) (v : Int) :
    (W.setCell ⟨b, i, none⟩ (.int .i64 (wrap64 v))).heap[b]? = some (.cells (rowCells k (putR f i v)) e (0, 0)) := by
  rw [heap_setCell_same W b _ _ e _ h, row_put]
theorem room_row (k : Nat) : roomCells k = rowCells k fun _ => 0 := by
  have z : wrap64 0 = 0 := wrap_id (by unfold I64; omega)
  apply Array.toList_inj.1
  simp only [roomCells, rowCells, z]
  apply List.ext_getElem
  · simp
  · intro j h1 h2; simp
theorem row_congr {k : Nat} {f g : Nat → Int} (h : ∀ i, i < k → f i = g i) : rowCells k f = rowCells k g := by
  unfold rowCells
  congr 1
  apply List.map_congr_left
  intro i hi
  rw [h i (List.mem_range.1 hi)]

end Go.Proofs.YtaplaoelamnoiaaGreatDoor
