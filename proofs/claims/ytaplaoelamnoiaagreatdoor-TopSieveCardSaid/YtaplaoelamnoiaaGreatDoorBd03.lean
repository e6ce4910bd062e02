/- Texts that lie in one file: what is plain, rows, boxes, squares, and what is known of a world. No condition. -/
import Derived.Test.YtaplaoelamnoiaaGreatDoorBd02
import Derived.Deep.RegionLaw
import Derived.Test.YtaplaoelamnoiaaGreatDoorBd04
/- One append of an int to an own slice, as a step of a region that draws its order. -/
namespace Go.Proofs.YtaplaoelamnoiaaGreatDoor
open Go.RowKit

/-- out = append(out, n) as one step of a region that draws. -/
theorem step_app_int {w : World} {ops : Array Oper} {o : Oper} {a : Act} {K : Act → World → Prop} {Q : Exit → Act → World → Prop} {E : Prop} (hgd : o.guard = none) (s x : Operand)
    (ho : o.op = .call { callee := .builtin .append, args := #[s, x], argTypes := #[22, 22] })
    (B : Nat) (v : Value) (ys : List Int) (n : Int) (blk : Nat) (hs : a.eval s = v) (hown : Own w B v ys) (hx : a.eval x = .slice (some ⟨blk, 0, none⟩) 1 1) (hc : w.cell? ⟨blk, 0, none⟩ = some (.int .i64 n))
    (hlen : ys.length < 17592186044416) (hB : B ≤ w.heap.size) (m : Nat) (em : m = ys.length + 1)
    (h : ∀ a' c' w', Own w' B (.slice a' m c') (ys ++ [n]) → Below B w w' → K (a.put o.dst (.slice a' m c')) w') :
    if Region.wanted o (yielded ops a.tmps) = true then Oper.wp Tryz.prog o a w K Q else E := by
  have hw : Region.wanted o (yielded ops a.tmps) = true := by simp [Region.wanted, hgd]
  rw [if_pos hw]
  obtain ⟨i0, hi, hz0, hz1, hz2⟩ := info_parts Tryz.infoInt
  refine wp_append_own w s x 22 ho B 3 i0 (.int .i64 0) 1 8 Tryz.underlying22 hi hz0 hz1 hz2 rfl (by decide) v _ _ hs hown
    ⟨blk, 0, none⟩ 1 1 [.int .i64 n] hx rfl ?_ ?_ (by simp only [maxLen]; omega) (by omega) hB ?_
  · intro j u hj
    match j, hj with
    | 0, hj => simp at hj; subst hj; simpa [Addr.add] using hc
  · intro u hu; simp at hu; subst hu; rfl
  · intro v' w' h1 h2 _
    have hown' : Own w' B v' (ys ++ [n]) := by unfold Own; simpa using h1
    obtain ⟨a', c', hv, _, _, _⟩ := hown'.view
    have e2 : (ys ++ [n]).length = m := by rw [em]; simp
    rw [e2] at hv
    subst hv
    refine h a' c' w' hown' ?_
    exact (Below.refl B w).grown h2 hB (fun k hk => by
        rcases hown.2 with ⟨rfl, _⟩ | ⟨g, cap, cur, rfl, hg, _⟩
        · simp [Value.ownBlock] at hk
        · simp [Value.ownBlock] at hk; omega)

end Go.Proofs.YtaplaoelamnoiaaGreatDoor

/- The document's Vector: the cells on one axis. Condition: a row of fewer than 2^44 ints. -/
namespace Go.Proofs.YtaplaoelamnoiaaGreatDoor
open Go.RowKit

/-- What the loop of Vector keeps. -/
def VecAt (ch : Bool) (n : Int) (w : World) (ys : List Int) (v : Value) (wr : World) : Prop :=
  (wr.cell? ⟨w.heap.size + 1 + 1, 0, none⟩ = some (.bool ch) ∧ wr.cell? ⟨w.heap.size + 1 + 1, 1, none⟩ = some (.slice (some ⟨w.heap.size + 1, 0, none⟩) 1 1) ∧ wr.cell? ⟨w.heap.size + 1 + 1, 2, none⟩ = some v) ∧
  wr.frozen? ⟨w.heap.size + 1 + 1, 2, none⟩ = false ∧ Own wr (w.heap.size + 1 + 1 + 1) v ys ∧ wr.cell? ⟨w.heap.size + 1, 0, none⟩ = some (.int .i64 n) ∧
  (wr.cell? ⟨w.heap.size, 0, none⟩ = some (.bool false) ∧ wr.cell? ⟨w.heap.size, 1, none⟩ = some (.slice none 0 0) ∧ wr.cell? ⟨w.heap.size, 2, none⟩ = some (.slice none 0 0)) ∧
  (wr.frozen? ⟨w.heap.size, 0, none⟩ = false ∧ wr.frozen? ⟨w.heap.size, 1, none⟩ = false ∧ wr.frozen? ⟨w.heap.size, 2, none⟩ = false) ∧
  Below w.heap.size w wr ∧ w.heap.size + 1 + 1 + 1 ≤ wr.heap.size

theorem vec_step {ch : Bool} {n : Int} {w wr w' : World} {ys zs : List Int} {v v' : Value} (h : VecAt ch n w ys v wr) (hb : Below (w.heap.size + 1 + 1 + 1) wr w') (ho : Own w' (w.heap.size + 1 + 1 + 1) v' zs) :
    VecAt ch n w zs v' (w'.setCell ⟨w.heap.size + 1 + 1, 2, none⟩ v') := by
  obtain ⟨⟨c0, c1, c2⟩, f2, hown, cn, ⟨z0, z1, z2⟩, ⟨y0, y1, y2⟩, hbel, hsz⟩ := h
  have old : ∀ (b o : Nat) (u : Value), b < w.heap.size + 1 + 1 + 1 → wr.cell? ⟨b, o, none⟩ = some u → w'.cell? ⟨b, o, none⟩ = some u := fun b o u hlt hc => (hb.cell (by exact hlt)).trans hc
  have fz : ∀ (b o : Nat), b < w.heap.size + 1 + 1 + 1 → wr.frozen? ⟨b, o, none⟩ = false → w'.frozen? ⟨b, o, none⟩ = false := fun b o hlt hc => (hb.frozen (by exact hlt)).trans hc
  have hb0 : Below w.heap.size w w' := hbel.trans (hb.mono (by omega))
  unfold VecAt
  refine ⟨⟨?_, ?_, ?_⟩, ?_, ?_, ?_, ⟨?_, ?_, ?_⟩, ⟨?_, ?_, ?_⟩, hb0.setCell (by simp; omega) _, ?_⟩
  · rw [World.cell?_setCell_other _ _ _ _ (by simp)]; exact old _ _ _ (by omega) c0
  · rw [World.cell?_setCell_other _ _ _ _ (by simp)]; exact old _ _ _ (by omega) c1
  · exact cell?_set_same _ _ _ (by rw [old _ _ _ (by omega) c2]; rfl)
  · rw [World.frozen?_setCell]; exact fz _ _ (by omega) f2
  · exact ho.setCell _ _ (by simp)
  · rw [World.cell?_setCell_far _ _ _ _ (by simp)]; exact old _ _ _ (by omega) cn
  · rw [World.cell?_setCell_far _ _ _ _ (by simp; omega)]; exact old _ _ _ (by omega) z0
  · rw [World.cell?_setCell_far _ _ _ _ (by simp; omega)]; exact old _ _ _ (by omega) z1
  · rw [World.cell?_setCell_far _ _ _ _ (by simp; omega)]; exact old _ _ _ (by omega) z2
  · rw [World.frozen?_setCell]; exact fz _ _ (by omega) y0
  · rw [World.frozen?_setCell]; exact fz _ _ (by omega) y1
  · rw [World.frozen?_setCell]; exact fz _ _ (by omega) y2
  · have := hb.size; simp; omega

/-- What Vector leaves, with word of the capacity. -/
def VecOne (ch : Bool) (d : List Int) (w : World) (e : Ending) (w' : World) : Prop :=
  ∃ a b k, e = .returned (arrV ch a 1 1 b d.length k) ∧ Row w' a [(d.length : Int)] ∧ Row w' b d ∧ Below w.heap.size w w'

set_option maxHeartbeats 4000000 in
theorem vector_one (ch : Bool) (b : Option Addr) (d : List Int) (n z : Nat) (w : World) (hd : Row w b d) (ld : d.length < 17592186044416) (en : n = d.length) :
    Calls Tryz.prog 8 #[.bool ch, .slice b n z] w fun e w' => VecOne ch d w e w' := by
  subst en
  go_enter Tryz.func8, Tryz.ntmps8
  go_wp2
  go_loopw [6] (fun i wr => ∃ k v, k ≤ d.length ∧ i = .int .i64 (k : Nat) ∧ VecAt ch d.length w (d.take k) v wr) (fun i _ => d.length - (intOf i).toNat)
  case atStart =>
    refine ⟨0, .slice none 0 0, Nat.zero_le _, rfl, ?_⟩
    unfold VecAt
    exact ⟨⟨by simp [go_sem], by simp [go_sem], by simp [go_sem]⟩, by simp [go_sem], Own.nil _ _, by simp [go_sem], ⟨by simp [go_sem], by simp [go_sem], by simp [go_sem]⟩, ⟨by simp [go_sem], by simp [go_sem], by simp [go_sem]⟩, push (push (push (start w) _) _) _, by simp⟩
  case round =>
    obtain ⟨k, v, hk, rfl, hI⟩ := hrel
    obtain ⟨⟨c0, c1, c2⟩, f2, hown, cn, ⟨z0, z1, z2⟩, ⟨y0, y1, y2⟩, hbel, hsz⟩ := id hI
    by_cases hlt : k < d.length
    · obtain ⟨bb, oo, rfl, hcd⟩ := hd.below hbel k hlt
      have hlen : (d.take k).length < 17592186044416 := by have := List.length_take_le' k d; omega
      have hts := Lib.hid (List.take_succ_eq_append_getElem hlt)
      obtain ⟨c0', c1', c2'⟩ := alloc3 ⟨c0, c1, c2⟩ (.cells #[.int .i64 d[k]] 3)
      have hownA : Own (wr.alloc (.cells #[.int .i64 d[k]] 3)) (w.heap.size + 1 + 1 + 1) v (d.take k) := hown.below (push (start wr) _)
      have hown' : Own (wr.alloc (.cells #[.int .i64 d[k]] 3)).drew (w.heap.size + 1 + 1 + 1) v (d.take k) := hownA
      clear hownA
      obtain ⟨av, cv, rfl, _, _, _⟩ := hown.view
      have hlk : (d.take k).length = k := by rw [List.length_take]; omega
      rw [hlk] at c2 c2' hown' hI
      clear hown
      have hBr : Below (w.heap.size + 1 + 1 + 1) wr (wr.alloc (.cells #[.int .i64 d[k]] 3)).drew := ((Below.refl _ wr).alloc hsz _).drew
      go_wp2_with fail
      go_region_law ((refine step_app_int rfl (.tmp 19) (.tmp 24) rfl (w.heap.size + 1 + 1 + 1) _ (d.take k) d[k] wr.heap.size rfl hown' rfl (by simp [go_sem]) hlen (by simp; omega) (k + 1) (by rw [hlk]) ?_; intro a' c' w' ho' hb'; have d2 := (hb'.cell (by show w.heap.size + 1 + 1 < _; omega)).trans ((hBr.cell (by show w.heap.size + 1 + 1 < _; omega)).trans c2); have g2 := (hb'.frozen (by show w.heap.size + 1 + 1 < _; omega)).trans ((hBr.frozen (by show w.heap.size + 1 + 1 < _; omega)).trans f2)))
      all_goals go_wp2
      all_goals go_roundw
      all_goals
        first
          | exact ⟨k + 1, _, by omega, by go_num, by rw [hts.out]; exact vec_step hI (hBr.trans hb') ho'⟩
          | (simp [intOf]; omega)
    · obtain rfl : k = d.length := by omega
      rw [List.take_of_length_le (Nat.le_refl _)] at hown
      obtain ⟨av, cv, rfl, _, _, rv⟩ := hown.view
      go_wp2
      refine bodyPost_ret (v := arrV ch (some ⟨w.heap.size + 1, 0, none⟩) 1 1 av d.length cv) (by simp [results, Tryz.results8, go_sem, cell?_set_same, z0, z1, z2]) rfl ?_
      refine ⟨_, _, _, rfl, fun i hi => ⟨_, _, rfl, ?_⟩, (((hown.setCell _ _ (by show w.heap.size < _; omega)).setCell _ _ (by show w.heap.size < _; omega)).setCell _ _ (by show w.heap.size < _; omega)).row, (((hbel.setCell (by simp) _).setCell (by simp) _).setCell (by simp) _)⟩
      obtain rfl : i = 0 := by simpa using hi
      rw [World.cell?_setCell_far _ _ _ _ (by simp), World.cell?_setCell_far _ _ _ _ (by simp), World.cell?_setCell_far _ _ _ _ (by simp)]
      exact cn
theorem vector_any (ch : Bool) (b : Option Addr) (d : List Int) (n z : Nat) (w : World) (hd : Row w b d) (ld : d.length < 17592186044416) (en : n = d.length) :
    Calls Tryz.prog 8 #[.bool ch, .slice b n z] w fun e w' => VecPost ⟨ch, [(d.length : Int)], d⟩ w e w' :=
  (vector_one ch b d n z w hd ld en).mono fun e w' ⟨a, b, k, he, ha, hb, hbel⟩ => ⟨a, 1, b, k, he, ha, hb, hbel⟩

end Go.Proofs.YtaplaoelamnoiaaGreatDoor
