/- Texts that lie in one file: what is plain, rows, boxes, squares, and what is known of a world. No condition. -/
import Derived.Test.YtcenhemlgapkeaaDoorOutAt
import Derived.Test.YtcenhemlgapkeaaDoorBdA
import Derived.Test.YtcenhemlgapkeaaDoorBdW
/- An array that is being built: its shape an own slice, no cells yet; then its cells. No condition. -/
namespace Go.Proofs.YtcenhemlgapkeaaDoor
open Go.RowKit

/-- In the box N a shape is being built: sv is an own slice in blocks from B on. -/
def OutS (w wB : World) (N B : Nat) (ch : Bool) (sv : Value) (ys : List Int) (wr : World) : Prop :=
  ((wr.cell? ⟨N, 0, none⟩ = some (.bool ch) ∧ wr.cell? ⟨N, 1, none⟩ = some sv ∧ wr.cell? ⟨N, 2, none⟩ = some (.slice none 0 0)) ∧ wr.frozen? ⟨N, 0, none⟩ = false ∧ wr.frozen? ⟨N, 1, none⟩ = false ∧ wr.frozen? ⟨N, 2, none⟩ = false) ∧
  Own wr B sv ys ∧ Below w.heap.size w wr ∧ B ≤ wr.heap.size ∧ (∀ b, b < B → b ≠ N → wr.heap[b]? = wB.heap[b]?)

theorem OutS.step {w wB wr w' : World} {N B : Nat} {ch : Bool} {sv v' : Value} {ys zs : List Int} (h : OutS w wB N B ch sv ys wr) (hN : w.heap.size ≤ N) (hNB : N < B)
    (hb : Below B wr w') (ho : Own w' B v' zs) : OutS w wB N B ch v' zs (w'.setCell ⟨N, 1, none⟩ v') := by
  obtain ⟨⟨⟨c0, c1, c2⟩, f0, f1, f2⟩, hown, hbel, hsz, hrest⟩ := h
  have old : ∀ (b o : Nat) (u : Value), b < B → wr.cell? ⟨b, o, none⟩ = some u → w'.cell? ⟨b, o, none⟩ = some u := fun b o u hlt hc => (hb.cell (by exact hlt)).trans hc
  refine ⟨⟨⟨?_, ?_, ?_⟩, ?_, ?_, ?_⟩, ho.setCell _ _ hNB, (hbel.trans (hb.mono (by omega))).setCell hN _, ?_, ?_⟩
  · rw [World.cell?_setCell_other _ _ _ _ (by simp)]; exact old _ _ _ hNB c0
  · exact cell?_set_same _ _ _ (by rw [old _ _ _ hNB c1]; rfl)
  · rw [World.cell?_setCell_other _ _ _ _ (by simp)]; exact old _ _ _ hNB c2
  · rw [World.frozen?_setCell]; exact (hb.frozen (by exact hNB)).trans f0
  · rw [World.frozen?_setCell]; exact (hb.frozen (by exact hNB)).trans f1
  · rw [World.frozen?_setCell]; exact (hb.frozen (by exact hNB)).trans f2
  · have := hb.size; simp; omega
  · intro b hbB hne
    rw [heap_setCell_other _ _ _ _ hne, hb.block b hbB]
    exact hrest b hbB hne
theorem OutS.box {w wB wr : World} {N B R : Nat} {ch : Bool} {sv : Value} {ys : List Int} (h : OutS w wB N B ch sv ys wr) {ch' : Bool} {a : Option Addr} {m c : Nat} {b : Option Addr} {n z : Nat}
    (hR : R < B) (hne : R ≠ N) (hb : BoxF wB R ch' a m c b n z) : BoxF wr R ch' a m c b n z := by
  have e := h.2.2.2.2 R hR hne
  obtain ⟨⟨x0, x1, x2⟩, y0, y1, y2⟩ := hb
  exact ⟨⟨(cell_of_eq e 0).trans x0, (cell_of_eq e 1).trans x1, (cell_of_eq e 2).trans x2⟩, (frozen_of_eq e 0).trans y0, (frozen_of_eq e 1).trans y1, (frozen_of_eq e 2).trans y2⟩
/-- The shape stands: now the cells. -/
theorem OutS.start {w wB wr : World} {N B : Nat} {ch : Bool} {sv : Value} {ys : List Int} (h : OutS w wB N B ch sv ys wr) : OutAt w wr N wr.heap.size ch sv (.slice none 0 0) [] wr :=
  ⟨⟨h.1.1, h.1.2.2.2⟩, Own.nil _ _, h.2.2.1, Nat.le_refl _, fun _ _ _ => rfl⟩
theorem OutAt.other {w wB wr : World} {N B : Nat} {ch : Bool} {sv dv : Value} {ys : List Int} (h : OutAt w wB N B ch sv dv ys wr) {b : Nat} (hb : b < B) (hne : b ≠ N) : wr.heap[b]? = wB.heap[b]? := h.2.2.2.2 b hb hne
/-- A row in other blocks stays. -/
theorem OutAt.keep {w wB wr : World} {N B : Nat} {ch : Bool} {sv dv : Value} {ys : List Int} (h : OutAt w wB N B ch sv dv ys wr) (hB : wB.heap.size ≤ B) {a : Option Addr} {xs : List Int} (hr : Row wB a xs) (hne : ∀ p, a = some p → p.block ≠ N) : Row wr a xs := by
  intro i hi
  obtain ⟨b, o, rfl, hc⟩ := hr i hi
  have hlt : b < wB.heap.size := World.block_lt_of_cell? _ _ hc
  exact ⟨b, o, rfl, (cell_of_eq (h.other (b := b) (by omega) (hne _ rfl)) (o + i)).trans hc⟩

/-- What a call that tells an array alone leaves, its cells the call's own. -/
def VecOwn (x : Arr) (w : World) (e : Ending) (w' : World) : Prop :=
  ∃ a c v, e = .returned (.agg #[.bool x.ch, .slice a x.s.length c, v]) ∧ Row w' a x.s ∧ (∀ p, a = some p → w.heap.size ≤ p.block) ∧ Own w' w.heap.size v x.d ∧ (∀ p b l z, a = some p → v = .slice (some b) l z → p.block ≠ b.block) ∧ Below w.heap.size w w'
theorem VecOwn.post {x : Arr} {w w' : World} {e : Ending} (h : VecOwn x w e w') : VecPost x w e w' := by
  obtain ⟨a, c, v, he, ha, -, ho, -, hb⟩ := h
  obtain ⟨b, k, rfl, -, -, hd⟩ := ho.view
  exact ⟨a, c, b, k, he, ha, hd, hb⟩
end Go.Proofs.YtcenhemlgapkeaaDoor

/- What the document's calls leave that tell an array and an error's number; answers of both kinds beside each other. No condition. -/
namespace Go.Proofs.YtcenhemlgapkeaaDoor
open Go.RowKit

/-- What a call of the document's leaves that tells an array, or an error's number. -/
def DocPost (r : Except Int Arr) (w : World) (e : Ending) (w' : World) : Prop :=
  (∀ n, r = .error n → e = .returned (.tuple #[arrV false none 0 0 none 0 0, .int .i64 n])) ∧
  (∀ x, r = .ok x → ∃ a c b k, e = .returned (.tuple #[arrV x.ch a x.s.length c b x.d.length k, .int .i64 0]) ∧ Row w' a x.s ∧ Row w' b x.d) ∧
  Below w.heap.size w w'
theorem DocPost.error {r : Except Int Arr} {w w' : World} {e : Ending} {n : Int} (h : r = .error n) (he : e = .returned (.tuple #[arrV false none 0 0 none 0 0, .int .i64 n])) (hb : Below w.heap.size w w') : DocPost r w e w' := by
  subst h; exact ⟨fun m hm => by cases hm; exact he, fun x hx => (by cases hx), hb⟩
theorem DocPost.ok {r : Except Int Arr} {w w' : World} {e : Ending} {x : Arr} {a b : Option Addr} {c k : Nat} (h : r = .ok x) (he : e = .returned (.tuple #[arrV x.ch a x.s.length c b x.d.length k, .int .i64 0])) (h1 : Row w' a x.s) (h2 : Row w' b x.d) (hb : Below w.heap.size w w') : DocPost r w e w' := by
  subst h; exact ⟨fun m hm => (by cases hm), fun y hy => by cases hy; exact ⟨a, c, b, k, he, h1, h2⟩, hb⟩

/-- An answer: its array and its error's number, 0 if there is none. -/
def Ans0 (r : Except Int Arr) (ch : Bool) (s d : List Int) (n : Int) : Prop :=
  (n = 0 ∧ r = .ok ⟨ch, s, d⟩) ∨ (n ≠ 0 ∧ r = .error n ∧ ch = false ∧ s = [] ∧ d = [])
/-- What is needed of a rule: its errors have numbers, its arrays' lists are not too long. -/
def Tame (r : Except Int Arr) : Prop := (∀ n, r = .error n → n ≠ 0) ∧ ∀ x, r = .ok x → x.s.length ≤ maxLen ∧ x.d.length ≤ maxLen
theorem DocPost.ans0 {r : Except Int Arr} {w w' : World} {e : Ending} (h : DocPost r w e w') (ht : Tame r) :
    ∃ ch a s c b d z n, e = .returned (.tuple #[arrV ch a s.length c b d.length z, .int .i64 n]) ∧ Ans0 r ch s d n ∧ s.length ≤ maxLen ∧ d.length ≤ maxLen ∧ Row w' a s ∧ Row w' b d ∧ Below w.heap.size w w' := by
  cases hr : r with
  | error n => exact ⟨false, none, [], 0, none, [], 0, n, h.1 n hr, .inr ⟨ht.1 n hr, rfl, rfl, rfl, rfl⟩, by simp [maxLen], by simp [maxLen], Row.nil _ _, Row.nil _ _, h.2.2⟩
  | ok x =>
    obtain ⟨a, c, b, k, he, h1, h2⟩ := h.2.1 x hr
    exact ⟨x.ch, a, x.s, c, b, x.d, k, 0, he, .inl ⟨rfl, rfl⟩, (ht.2 x hr).1, (ht.2 x hr).2, h1, h2, h.2.2⟩
theorem ArrPost.ans0 {r : Except Int Arr} {w w' : World} {e : Ending} (h : ArrPost r w e w') (ht : Tame r) :
    ∃ ch a s c b d z n, e = .returned (.tuple #[arrV ch a s.length c b d.length z, errV n]) ∧ Ans0 r ch s d n ∧ s.length ≤ maxLen ∧ d.length ≤ maxLen ∧ Row w' a s ∧ Row w' b d ∧ Below w.heap.size w w' := by
  cases hr : r with
  | error n =>
    have hn := ht.1 n hr
    exact ⟨false, none, [], 0, none, [], 0, n, by rw [errV_ne hn]; exact h.1 n hr, .inr ⟨hn, rfl, rfl, rfl, rfl⟩, by simp [maxLen], by simp [maxLen], Row.nil _ _, Row.nil _ _, h.2.2⟩
  | ok x =>
    obtain ⟨a, c, b, k, he, h1, h2⟩ := h.2.1 x hr
    exact ⟨x.ch, a, x.s, c, b, x.d, k, 0, he, .inl ⟨rfl, rfl⟩, (ht.2 x hr).1, (ht.2 x hr).2, h1, h2, h.2.2⟩
theorem ArrPostF.plain {r : Except Int Arr} {w w' : World} {e : Ending} (h : ArrPostF r w e w') : ArrPost r w e w' :=
  ⟨h.1, fun x hx => by obtain ⟨a, c, b, k, h1, h2, h3, -, -, -⟩ := h.2.1 x hx; exact ⟨a, c, b, k, h1, h2, h3⟩, h.2.2⟩
theorem ans0_same {r : Except Int Arr} {ch ch' : Bool} {s s' d d' : List Int} {n n' : Int} (h : Ans0 r ch s d n) (h' : Ans0 r ch' s' d' n') : (n == n') = true ∧ decide ((⟨ch, s, d⟩ : Arr) = ⟨ch', s', d'⟩) = true := by
  rcases h with ⟨rfl, h1⟩ | ⟨h0, h1, rfl, rfl, rfl⟩
  · rcases h' with ⟨rfl, h2⟩ | ⟨h0', h2, rfl, rfl, rfl⟩
    · rw [h1] at h2; cases h2; exact ⟨by simp, by simp⟩
    · rw [h1] at h2; cases h2
  · rcases h' with ⟨rfl, h2⟩ | ⟨h0', h2, rfl, rfl, rfl⟩
    · rw [h1] at h2; cases h2
    · rw [h1] at h2; cases h2; exact ⟨by simp, by simp⟩
end Go.Proofs.YtcenhemlgapkeaaDoor
