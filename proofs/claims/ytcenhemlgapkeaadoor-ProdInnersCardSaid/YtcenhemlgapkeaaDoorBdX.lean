/- Texts that lie in one file: what is plain, rows, boxes, squares, and what is known of a world. No condition. -/
import Derived.Test.YtcenhemlgapkeaaDoorBdA
/- The indices of a place (M.atp), as the program reckons them from the last axis on. No condition. -/
namespace Go.Proofs.YtcenhemlgapkeaaDoor
open Go.RowKit
namespace M

/-- The indices of place p, and what is left of p. -/
def coords : List Int → Int → List Int × Int
  | [], p => ([], p)
  | n :: s, p => ((coords s p).2 % n :: (coords s p).1, (coords s p).2 / n)

def atp (s : List Int) (p : Int) : Except Int (List Int) :=
  match count s with
  | .error e => .error e
  | .ok all => if p < 0 ∨ all ≤ p then .error 5 else .ok (coords s p).1

end M

theorem coords_length (s : List Int) (p : Int) : (M.coords s p).1.length = s.length := by
  induction s with
  | nil => rfl
  | cons n s ih => simp [M.coords, ih]

/-- What the slice holds when the axes from k on are done. -/
def atSoFar (s : List Int) (p : Int) (k : Nat) : List Int := List.replicate k 0 ++ (M.coords (s.drop k) p).1

theorem atSoFar_start (s : List Int) (p : Int) : atSoFar s p s.length = List.replicate s.length 0 := by simp [atSoFar, M.coords]
theorem atSoFar_end (s : List Int) (p : Int) : atSoFar s p 0 = (M.coords s p).1 := by simp [atSoFar]
theorem atSoFar_length (s : List Int) (p : Int) (k : Nat) (h : k ≤ s.length) : (atSoFar s p k).length = s.length := by
  simp [atSoFar, coords_length]; omega

theorem drop_coords {s : List Int} {k : Nat} (p : Int) (h : k < s.length) :
    M.coords (s.drop k) p = ((M.coords (s.drop (k + 1)) p).2 % s.getD k 0 :: (M.coords (s.drop (k + 1)) p).1, (M.coords (s.drop (k + 1)) p).2 / s.getD k 0) := by
  rw [List.drop_eq_getElem_cons h]; simp [M.coords, h]

theorem atSoFar_step {s : List Int} {k : Nat} (p : Int) (h : k < s.length) :
    (atSoFar s p (k + 1)).set k ((M.coords (s.drop (k + 1)) p).2 % s.getD k 0) = atSoFar s p k := by
  unfold atSoFar
  rw [drop_coords p h, List.set_append_left _ _ (by simp)]
  have : List.replicate (k + 1) (0 : Int) = List.replicate k 0 ++ [0] := List.replicate_succ'
  rw [this, List.set_append_right _ _ (by simp)]
  simp

/-- What is left stays between 0 and what it was. -/
theorem coords_left {s : List Int} (hs : ∀ x ∈ s, 1 ≤ x) {p : Int} (h0 : 0 ≤ p) : 0 ≤ (M.coords s p).2 ∧ (M.coords s p).2 ≤ p := by
  induction s with
  | nil => simp [M.coords, h0]
  | cons n s ih =>
    have hn := hs n (by simp)
    have h := ih fun x hx => hs x (by simp [hx])
    simp only [M.coords]
    exact ⟨Int.ediv_nonneg h.1 (by omega), Int.le_trans (Int.ediv_le_self _ h.1) h.2⟩

end Go.Proofs.YtcenhemlgapkeaaDoor

/- A shape with its axes in another order (M.axes), as the program finds it. No condition. -/
namespace Go.Proofs.YtcenhemlgapkeaaDoor
open Go.RowKit
namespace M

/-- The axes so far: out, and which are taken (the list of those that have come). -/
def axesFrom (s : List Int) : List Int → Nat → List Int → List Int → Except Int (List Int)
  | out, _, _, [] => .ok out
  | out, k, taken, to :: p => if to < 0 ∨ (s.length : Int) ≤ to ∨ to ∈ taken then .error 5 else axesFrom s (out.set to.toNat (s.getD k 0)) (k + 1) (taken ++ [to]) p

def axes (s p : List Int) : Except Int (List Int) :=
  match count s with
  | .error e => .error e
  | .ok _ => if p.length ≠ s.length then .error 4 else axesFrom s (List.replicate s.length 0) 0 [] p

end M

theorem axesFrom_drop {s p : List Int} {k : Nat} (out taken : List Int) (h : k < p.length) :
    M.axesFrom s out k taken (p.drop k) = if p.getD k 0 < 0 ∨ (s.length : Int) ≤ p.getD k 0 ∨ p.getD k 0 ∈ taken then .error 5
      else M.axesFrom s (out.set (p.getD k 0).toNat (s.getD k 0)) (k + 1) (taken ++ [p.getD k 0]) (p.drop (k + 1)) := by
  rw [List.drop_eq_getElem_cons h]; simp [M.axesFrom, List.getD_eq_getElem?_getD, h]

end Go.Proofs.YtcenhemlgapkeaaDoor

/- Plain facts: a place is its indices; row by row; axes go and come back. No program in sight. -/
namespace Go.Proofs.YtcenhemlgapkeaaDoor
open Go.RowKit
namespace M

theorem emod_two (p a b : Int) (ha : 0 < a) (hb : 0 < b) : p % (a * b) = p % a + a * (p / a % b) := by
  have h1 := Int.mul_ediv_add_emod p a
  have h2 := Int.mul_ediv_add_emod (p / a) b
  have e : p = (p % a + a * (p / a % b)) + (a * b) * (p / a / b) := by
    have : a * (p / a) = a * b * (p / a / b) + a * (p / a % b) := by
      conv => lhs; rw [← h2]
      rw [Int.mul_add, Int.mul_assoc]
    omega
  have r1 := Int.emod_nonneg p (Int.ne_of_gt ha)
  have r2 := Int.emod_lt_of_pos p ha
  have r3 := Int.emod_nonneg (p / a) (Int.ne_of_gt hb)
  have r4 := Int.emod_lt_of_pos (p / a) hb
  have r5 : a * (p / a % b) ≤ a * (b - 1) := Int.mul_le_mul_of_nonneg_left (by omega) (by omega)
  have r6 : 0 ≤ a * (p / a % b) := Int.mul_nonneg (by omega) r3
  rw [Int.mul_sub, Int.mul_one] at r5
  conv => lhs; rw [e, Int.add_mul_emod_self_left]
  exact Int.emod_eq_of_lt (by omega) (by omega)

theorem coords_spec {s : List Int} (hs : ∀ x ∈ s, 1 ≤ x) (p : Int) (h0 : 0 ≤ p) :
    (coords s p).2 = p / prod s ∧ InR s (coords s p).1 ∧ placeN 0 s (coords s p).1 = p % prod s := by
  induction s with
  | nil => simp [coords, prod, InR, placeN, Int.emod_one]
  | cons n s ih =>
    have hn := hs n (by simp)
    have hs' : ∀ x ∈ s, 1 ≤ x := fun x hx => hs x (by simp [hx])
    obtain ⟨h1, h2, h3⟩ := ih hs'
    have hp := prod_pos hs'
    simp only [coords, prod, InR, placeN]
    refine ⟨?_, ⟨Int.emod_nonneg _ (by omega), Int.emod_lt_of_pos _ (by omega), h2⟩, ?_⟩
    · rw [h1, Int.ediv_ediv_of_nonneg (by omega), Int.mul_comm]
    · rw [placeN_at h2, h3, h1, Int.zero_mul, Int.zero_add]
      rw [Int.mul_comm n, emod_two p _ n (by omega) (by omega), Int.mul_comm (prod s)]
      omega

theorem coords_place {s t : List Int} (h : InR s t) : coords s (placeN 0 s t) = (t, 0) := by
  have key : ∀ (s t : List Int), InR s t → ∀ p : Int, 0 ≤ p → coords s (p * prod s + placeN 0 s t) = (t, p) := by
    intro s
    induction s with
    | nil => intro t h p _; cases t with
      | nil => simp [coords, prod, placeN]
      | cons => exact h.elim
    | cons n s ih =>
      intro t h p hp
      cases t with
      | nil => exact h.elim
      | cons i t =>
        obtain ⟨h0, h1, h2⟩ := h
        have e : p * prod (n :: s) + placeN 0 (n :: s) (i :: t) = (p * n + i) * prod s + placeN 0 s t := by
          simp only [prod, placeN, Int.zero_mul, Int.zero_add]
          rw [placeN_at h2 i, Int.add_mul, Int.mul_assoc, Int.add_assoc]
        have hpn : 0 ≤ p * n := Int.mul_nonneg hp (by omega)
        rw [e, coords, ih t h2 (p * n + i) (by omega)]
        have hmod : (p * n + i) % n = i := by rw [Int.add_comm, Int.add_mul_emod_self_right, Int.emod_eq_of_lt h0 h1]
        have hdiv : (p * n + i) / n = p := by rw [Int.add_comm, Int.add_mul_ediv_right _ _ (by omega), Int.ediv_eq_zero_of_lt h0 h1, Int.zero_add]
        simp only [hmod, hdiv]
  have := key s t h 0 (by omega)
  simpa using this

/-- A shape that has a place has no axis of length 0. -/
theorem count_pos {s : List Int} {q p : Int} (hc : count s = .ok q) (h0 : 0 ≤ p) (hp : p < q) : ∀ x ∈ s, 1 ≤ x := by
  obtain ⟨_, hb, hq, _, _⟩ := count_ok hc
  intro x hx
  have h1 := (hb x hx).1
  rcases Int.lt_or_le 0 x with h | h
  · exact h
  · have hz : x = 0 := by omega
    have := prod_zero (hz ▸ hx)
    omega

theorem atp_ok {s c : List Int} {p : Int} (h : atp s p = .ok c) : (∃ q, count s = .ok q) ∧ 0 ≤ p ∧ p < prod s ∧ (∀ x ∈ s, 1 ≤ x) ∧ InR s c ∧ placeN 0 s c = p ∧ c = (coords s p).1 := by
  cases hc : count s with
  | error e => rw [atp, hc] at h; cases h
  | ok q =>
    rw [atp, hc] at h
    simp only at h
    split at h
    · cases h
    · rename_i hn
      obtain rfl := Except.ok.inj h
      obtain ⟨_, _, hq, _, _⟩ := count_ok hc
      have hpos := count_pos hc (p := p) (by omega) (by omega)
      obtain ⟨h1, h2, h3⟩ := coords_spec hpos p (by omega)
      exact ⟨⟨q, rfl⟩, by omega, by omega, hpos, h2, by rw [h3, Int.emod_eq_of_lt (by omega) (by omega)], rfl⟩

theorem atp_in {s c : List Int} {p : Int} (h : atp s p = .ok c) : InR s c ∧ placeN 0 s c = p := by
  obtain ⟨_, _, _, _, h1, h2, _⟩ := atp_ok h
  exact ⟨h1, h2⟩

theorem atp_mk {s t : List Int} {q : Int} (hc : count s = .ok q) (h : InR s t) : atp s (placeN 0 s t) = .ok t := by
  have hb := placeN_bound h
  obtain ⟨_, _, hq, _, _⟩ := count_ok hc
  rw [atp, hc]
  simp only
  rw [if_neg (by omega), coords_place h]

/-- THERE AND BACK. -/
theorem place_atp {s c : List Int} {p : Int} (h : atp s p = .ok c) : place s c = .ok p := by
  obtain ⟨⟨q, hq⟩, _, _, _, hin, hp, _⟩ := atp_ok h
  rw [place_mk hq hin, hp]

theorem atp_place {s t : List Int} {p : Int} (h : place s t = .ok p) : atp s p = .ok t ∧ ∃ q, count s = .ok q ∧ 0 ≤ p ∧ p < q := by
  obtain ⟨⟨q, hq⟩, hin, rfl, h0, h1⟩ := place_ok h
  obtain ⟨_, _, hqp, _, _⟩ := count_ok hq
  exact ⟨atp_mk hq hin, q, hq, h0, by omega⟩

theorem InR.get {s t : List Int} (h : InR s t) {k : Nat} (hk : k < s.length) : 0 ≤ t.getD k 0 ∧ t.getD k 0 < s.getD k 0 := by
  induction s generalizing t k with
  | nil => simp at hk
  | cons n s ih => cases t with
    | nil => exact h.elim
    | cons i t =>
      cases k with
      | zero => simpa using ⟨h.1, h.2.1⟩
      | succ k => simpa using ih h.2.2 (by simpa using hk)

theorem InR.drop {s t : List Int} (h : InR s t) (k : Nat) : InR (s.drop k) (t.drop k) := by
  induction k generalizing s t with
  | zero => simpa using h
  | succ k ih => cases s with
    | nil => cases t with
      | nil => simpa using h
      | cons => exact h.elim
    | cons n s => cases t with
      | nil => exact h.elim
      | cons i t => simpa using ih h.2.2

/-- ROW BY ROW: what differs first decides. -/
theorem placeN_lt {s x y : List Int} (hx : InR s x) (hy : InR s y) {k : Nat} (hk : k < s.length) (he : x.take k = y.take k) (hlt : x.getD k 0 < y.getD k 0) :
    placeN 0 s x < placeN 0 s y := by
  induction s generalizing x y k with
  | nil => simp at hk
  | cons n s ih => cases x with
    | nil => exact hx.elim
    | cons i x => cases y with
      | nil => exact hy.elim
      | cons j y =>
        simp only [placeN, Int.zero_mul, Int.zero_add]
        rw [placeN_at hx.2.2, placeN_at hy.2.2]
        have b1 := placeN_bound hx.2.2
        have b2 := placeN_bound hy.2.2
        cases k with
        | zero =>
          simp at hlt
          have : (i + 1) * prod s ≤ j * prod s := Int.mul_le_mul_of_nonneg_right (by omega) (by omega)
          rw [Int.add_mul, Int.one_mul] at this
          omega
        | succ k =>
          simp only [List.take_succ_cons, List.cons.injEq] at he
          have := ih hx.2.2 hy.2.2 (by simpa using hk) he.2 (by simpa using hlt)
          rw [he.1]
          omega

end M
end Go.Proofs.YtcenhemlgapkeaaDoor

/- Plain facts on the document's way to count indices up to a place: one step makes the place one more. No program in sight. -/
namespace Go.Proofs.YtcenhemlgapkeaaDoor
open Go.RowKit
namespace M

theorem placeN_zeros {s : List Int} (hs : ∀ x ∈ s, 1 ≤ x) : InR s (List.replicate s.length 0) ∧ placeN 0 s (List.replicate s.length 0) = 0 := by
  induction s with
  | nil => exact ⟨trivial, rfl⟩
  | cons n s ih =>
    have hn := hs n (by simp)
    have h := ih fun x hx => hs x (by simp [hx])
    rw [List.length_cons, List.replicate_succ]
    refine ⟨⟨by omega, by omega, h.1⟩, ?_⟩
    simp only [placeN]
    rw [placeN_at h.1, h.2]; omega

/-- Each index is the last one of its axis. -/
def AllMax (s t : List Int) : Prop := ∀ j, j < s.length → t.getD j 0 = s.getD j 0 - 1

theorem placeN_max {s t : List Int} (h : InR s t) (hm : AllMax s t) : placeN 0 s t = prod s - 1 := by
  induction s generalizing t with
  | nil => cases t with
    | nil => rfl
    | cons => exact h.elim
  | cons n s ih => cases t with
    | nil => exact h.elim
    | cons i t =>
      have h0 : i = n - 1 := by simpa using hm 0 (by simp)
      have h1 := ih h.2.2 fun j hj => by simpa using hm (j + 1) (by simpa using hj)
      simp only [placeN, prod]
      rw [placeN_at h.2.2, h1, h0]
      rw [Int.zero_mul, Int.zero_add, Int.sub_mul]; omega

/-- Where the indices from m on are the last ones: the list with zeros there. -/
def cut (t : List Int) (m : Nat) : List Int := t.take m ++ List.replicate (t.length - m) 0

theorem cut_length (t : List Int) (m : Nat) : (cut t m).length = t.length := by simp [cut]; omega
theorem cut_all (t : List Int) : cut t t.length = t := by simp [cut]
theorem cut_step {t : List Int} {m : Nat} (h : m < t.length) : (cut t (m + 1)).set m 0 = cut t m := by
  unfold cut
  rw [List.take_succ_eq_append_getElem h, List.append_assoc, List.set_append_right _ _ (by simp; omega)]
  rw [show m - (t.take m).length = 0 by simp; omega]
  rw [show t.length - m = t.length - (m + 1) + 1 by omega, List.replicate_succ]
  rfl
theorem cut_get {t : List Int} {m : Nat} (h : m < t.length) : (cut t (m + 1)).getD m 0 = t.getD m 0 := by
  unfold cut
  rw [List.getD_eq_getElem?_getD, List.getD_eq_getElem?_getD, List.getElem?_append_left (by simp; omega), List.getElem?_take, if_pos (by omega)]

theorem inR_take_drop {s t : List Int} (h : InR s t) (m : Nat) : InR (s.take m) (t.take m) ∧ InR (s.drop m) (t.drop m) := by
  have hl := h.length
  have h' := h
  rw [← List.take_append_drop m s, ← List.take_append_drop m t] at h'
  exact (InR_append (by simp [hl])).1 h'

/-- One index more, zeros behind it: the next place. -/
theorem odo {s t : List Int} {m : Nat} (h : InR s t) (hm : m < s.length) (hmax : AllMax (s.drop (m + 1)) (t.drop (m + 1))) (hne : t.getD m 0 ≠ s.getD m 0 - 1) :
    InR s ((cut t (m + 1)).set m (t.getD m 0 + 1)) ∧ placeN 0 s ((cut t (m + 1)).set m (t.getD m 0 + 1)) = placeN 0 s t + 1 := by
  have hl := h.length
  have hb := h.get hm
  obtain ⟨ha, hd⟩ := inR_take_drop h m
  have ht : t.drop m = t.getD m 0 :: t.drop (m + 1) := by rw [List.drop_eq_getElem_cons (by omega)]; simp [List.getD_eq_getElem?_getD, show m < t.length by omega]
  have hs : s.drop m = s.getD m 0 :: s.drop (m + 1) := by rw [List.drop_eq_getElem_cons hm]; simp [List.getD_eq_getElem?_getD, hm]
  rw [hs, ht] at hd
  obtain ⟨_, _, hd3⟩ := hd
  have hz := placeN_zeros hd3.pos
  have hmx := placeN_max hd3 hmax
  have e : (cut t (m + 1)).set m (t.getD m 0 + 1) = t.take m ++ (t.getD m 0 + 1) :: List.replicate (s.drop (m + 1)).length 0 := by
    unfold cut
    rw [List.take_succ_eq_append_getElem (by omega), List.append_assoc, List.set_append_right _ _ (by simp; omega)]
    rw [show m - (t.take m).length = 0 by simp; omega, List.length_drop, ← hl]
    rfl
  have hlt : (t.take m).length = (s.take m).length := by simp [hl]
  rw [e]
  generalize List.replicate (s.drop (m + 1)).length (0 : Int) = Z at hz ⊢
  constructor
  · rw [← List.take_append_drop m s, hs]
    exact (InR_append hlt).2 ⟨ha, by omega, by omega, hz.1⟩
  · rw [← List.take_append_drop m s, hs, placeN_append hlt]
    conv => rhs; rw [← List.take_append_drop m t, ht, placeN_append hlt]
    simp only [placeN]
    rw [placeN_at hz.1, placeN_at hd3, hz.2, hmx, Int.add_zero, ← Int.add_assoc, Int.add_mul (_ + _) 1, Int.one_mul]
    omega

theorem allMax_step {s t : List Int} {m : Nat} (hm : m < s.length) (hl : t.length = s.length) (h : AllMax (s.drop (m + 1)) (t.drop (m + 1))) (he : t.getD m 0 = s.getD m 0 - 1) : AllMax (s.drop m) (t.drop m) := by
  intro j hj
  simp only [List.getD_eq_getElem?_getD, List.getElem?_drop]
  rw [List.length_drop] at hj
  cases j with
  | zero => simpa [List.getD_eq_getElem?_getD] using he
  | succ j =>
    have := h j (by rw [List.length_drop]; omega)
    simp only [List.getD_eq_getElem?_getD, List.getElem?_drop] at this
    rw [show m + (j + 1) = m + 1 + j by omega]
    exact this

/-- Where all are the last ones there is no place behind it. -/
theorem allMax_end {s t : List Int} (h : InR s t) (hm : AllMax (s.drop 0) (t.drop 0)) : placeN 0 s t + 1 = prod s := by
  have := placeN_max h (by simpa using hm); omega

/-- The place from the last axis on. -/
theorem placeN_drop {s t : List Int} (h : InR s t) {k : Nat} (hk : k < s.length) :
    placeN 0 (s.drop k) (t.drop k) = placeN 0 (s.drop (k + 1)) (t.drop (k + 1)) + t.getD k 0 * prod (s.drop (k + 1)) ∧ prod (s.drop k) = s.getD k 0 * prod (s.drop (k + 1)) := by
  have hl := h.length
  have hd := (inR_take_drop h k).2
  have ht : t.drop k = t.getD k 0 :: t.drop (k + 1) := by rw [List.drop_eq_getElem_cons (by omega)]; simp [List.getD_eq_getElem?_getD, show k < t.length by omega]
  have hs : s.drop k = s.getD k 0 :: s.drop (k + 1) := by rw [List.drop_eq_getElem_cons hk]; simp [List.getD_eq_getElem?_getD, hk]
  rw [hs, ht] at hd ⊢
  simp only [placeN, prod]
  rw [placeN_at hd.2.2, Int.zero_mul, Int.zero_add]
  exact ⟨by omega, trivial⟩

theorem prod_drop_le {s : List Int} (hp : ∀ x ∈ s, 1 ≤ x) (k : Nat) : 1 ≤ prod (s.drop k) ∧ prod (s.drop k) ≤ prod s := by
  have h1 : 1 ≤ prod (s.drop k) := prod_pos fun x hx => hp x (List.mem_of_mem_drop hx)
  have h2 : 1 ≤ prod (s.take k) := prod_pos fun x hx => hp x (List.mem_of_mem_take hx)
  refine ⟨h1, ?_⟩
  conv => rhs; rw [← List.take_append_drop k s, prod_append]
  have : 1 * prod (s.drop k) ≤ prod (s.take k) * prod (s.drop k) := Int.mul_le_mul_of_nonneg_right h2 (by omega)
  omega

end M
end Go.Proofs.YtcenhemlgapkeaaDoor
