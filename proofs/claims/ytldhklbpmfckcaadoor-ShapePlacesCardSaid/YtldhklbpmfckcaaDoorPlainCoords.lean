/- Plain facts on the document's way to count indices up to a place: one step makes the place one more. No program in sight. -/
import Derived.Test.YtldhklbpmfckcaaDoorPlainAt
namespace Go.Proofs.YtldhklbpmfckcaaDoor
open Go.RowKit
namespace M

theorem placeN_zeros {s : List Int} (hs : ∀ x ∈ s, 1 ≤ x) : InR s (List.replicate s.length 0) ∧ placeN 0 s (List.replicate s.length 0) = 0 := by
  induction s with
  | nil => exact ⟨trivial, rfl⟩
  | cons n s ih =>
    have hn := hs n (by simp)
    have h := ih fun x hx => hs x (by simp [hx])
    rw [List.length_cons, List.replicate_succ]
    refine ⟨⟨by omega, by omega, h.1⟩, ?_⟩
    simp only [placeN]
    rw [placeN_at h.1, h.2]; omega

/-- Each index is the last one of its axis. -/
def AllMax (s t : List Int) : Prop := ∀ j, j < s.length → t.getD j 0 = s.getD j 0 - 1

theorem placeN_max {s t : List Int} (h : InR s t) (hm : AllMax s t) : placeN 0 s t = prod s - 1 := by
  induction s generalizing t with
  | nil => cases t with
    | nil => rfl
    | cons => exact h.elim
  | cons n s ih => cases t with
    | nil => exact h.elim
    | cons i t =>
      have h0 : i = n - 1 := by simpa using hm 0 (by simp)
      have h1 := ih h.2.2 fun j hj => by simpa using hm (j + 1) (by simpa using hj)
      simp only [placeN, prod]
      rw [placeN_at h.2.2, h1, h0]
      rw [Int.zero_mul, Int.zero_add, Int.sub_mul]; omega

/-- Where the indices from m on are the last ones: the list with zeros there. -/
def cut (t : List Int) (m : Nat) : List Int := t.take m ++ List.replicate (t.length - m) 0

theorem cut_length (t : List Int) (m : Nat) : (cut t m).length = t.length := by simp [cut]; omega
theorem cut_all (t : List Int) : cut t t.length = t := by simp [cut]
theorem cut_step {t : List Int} {m : Nat} (h : m < t.length) : (cut t (m + 1)).set m 0 = cut t m := by
  unfold cut
  rw [List.take_succ_eq_append_getElem h, List.append_assoc, List.set_append_right _ _ (by simp; omega)]
  rw [show m - (t.take m).length = 0 by simp; omega]
  rw [show t.length - m = t.length - (m + 1) + 1 by omega, List.replicate_succ]
  rfl
theorem cut_get {t : List Int} {m : Nat} (h : m < t.length) : (cut t (m + 1)).getD m 0 = t.getD m 0 := by
  unfold cut
  rw [List.getD_eq_getElem?_getD, List.getD_eq_getElem?_getD, List.getElem?_append_left (by simp; omega), List.getElem?_take, if_pos (by omega)]

theorem inR_take_drop {s t : List Int} (h : InR s t) (m : Nat) : InR (s.take m) (t.take m) ∧ InR (s.drop m) (t.drop m) := by
  have hl := h.length
  have h' := h
  rw [← List.take_append_drop m s, ← List.take_append_drop m t] at h'
  exact (InR_append (by simp [hl])).1 h'

/-- One index more, zeros behind it: the next place. -/
theorem odo {s t : List Int} {m : Nat} (h : InR s t) (hm : m < s.length) (hmax : AllMax (s.drop (m + 1)) (t.drop (m + 1))) (hne : t.getD m 0 ≠ s.getD m 0 - 1) :
    InR s ((cut t (m + 1)).set m (t.getD m 0 + 1)) ∧ placeN 0 s ((cut t (m + 1)).set m (t.getD m 0 + 1)) = placeN 0 s t + 1 := by
  have hl := h.length
  have hb := h.get hm
  obtain ⟨ha, hd⟩ := inR_take_drop h m
  have ht : t.drop m = t.getD m 0 :: t.drop (m + 1) := by rw [List.drop_eq_getElem_cons (by omega)]; simp [List.getD_eq_getElem?_getD, show m < t.length by omega]
  have hs : s.drop m = s.getD m 0 :: s.drop (m + 1) := by rw [List.drop_eq_getElem_cons hm]; simp [List.getD_eq_getElem?_getD, hm]
  rw [hs, ht] at hd
  obtain ⟨_, _, hd3⟩ := hd
  have hz := placeN_zeros hd3.pos
  have hmx := placeN_max hd3 hmax
  have e : (cut t (m + 1)).set m (t.getD m 0 + 1) = t.take m ++ (t.getD m 0 + 1) :: List.replicate (s.drop (m + 1)).length 0 := by
    unfold cut
    rw [List.take_succ_eq_append_getElem (by omega), List.append_assoc, List.set_append_right _ _ (by simp; omega)]
    rw [show m - (t.take m).length = 0 by simp; omega, List.length_drop, ← hl]
    rfl
  have hlt : (t.take m).length = (s.take m).length := by simp [hl]
  rw [e]
  generalize List.replicate (s.drop (m + 1)).length (0 : Int) = Z at hz ⊢
  constructor
  · rw [← List.take_append_drop m s, hs]
    exact (InR_append hlt).2 ⟨ha, by omega, by omega, hz.1⟩
  · rw [← List.take_append_drop m s, hs, placeN_append hlt]
    conv => rhs; rw [← List.take_append_drop m t, ht, placeN_append hlt]
    simp only [placeN]
    rw [placeN_at hz.1, placeN_at hd3, hz.2, hmx, Int.add_zero, ← Int.add_assoc, Int.add_mul (_ + _) 1, Int.one_mul]
    omega

theorem allMax_step {s t : List Int} {m : Nat} (hm : m < s.length) (hl : t.length = s.length) (h : AllMax (s.drop (m + 1)) (t.drop (m + 1))) (he : t.getD m 0 = s.getD m 0 - 1) : AllMax (s.drop m) (t.drop m) := by
  intro j hj
  simp only [List.getD_eq_getElem?_getD, List.getElem?_drop]
  rw [List.length_drop] at hj
  cases j with
  | zero => simpa [List.getD_eq_getElem?_getD] using he
  | succ j =>
    have := h j (by rw [List.length_drop]; omega)
    simp only [List.getD_eq_getElem?_getD, List.getElem?_drop] at this
    rw [show m + (j + 1) = m + 1 + j by omega]
    exact this

/-- Where all are the last ones there is no place behind it. -/
theorem allMax_end {s t : List Int} (h : InR s t) (hm : AllMax (s.drop 0) (t.drop 0)) : placeN 0 s t + 1 = prod s := by
  have := placeN_max h (by simpa using hm); omega

/-- The place from the last axis on. -/
theorem placeN_drop {s t : List Int} (h : InR s t) {k : Nat} (hk : k < s.length) :
    placeN 0 (s.drop k) (t.drop k) = placeN 0 (s.drop (k + 1)) (t.drop (k + 1)) + t.getD k 0 * prod (s.drop (k + 1)) ∧ prod (s.drop k) = s.getD k 0 * prod (s.drop (k + 1)) := by
  have hl := h.length
  have hd := (inR_take_drop h k).2
  have ht : t.drop k = t.getD k 0 :: t.drop (k + 1) := by rw [List.drop_eq_getElem_cons (by omega)]; simp [List.getD_eq_getElem?_getD, show k < t.length by omega]
  have hs : s.drop k = s.getD k 0 :: s.drop (k + 1) := by rw [List.drop_eq_getElem_cons hk]; simp [List.getD_eq_getElem?_getD, hk]
  rw [hs, ht] at hd ⊢
  simp only [placeN, prod]
  rw [placeN_at hd.2.2, Int.zero_mul, Int.zero_add]
  exact ⟨by omega, trivial⟩

theorem prod_drop_le {s : List Int} (hp : ∀ x ∈ s, 1 ≤ x) (k : Nat) : 1 ≤ prod (s.drop k) ∧ prod (s.drop k) ≤ prod s := by
  have h1 : 1 ≤ prod (s.drop k) := prod_pos fun x hx => hp x (List.mem_of_mem_drop hx)
  have h2 : 1 ≤ prod (s.take k) := prod_pos fun x hx => hp x (List.mem_of_mem_take hx)
  refine ⟨h1, ?_⟩
  conv => rhs; rw [← List.take_append_drop k s, prod_append]
  have : 1 * prod (s.drop k) ≤ prod (s.take k) * prod (s.drop k) := Int.mul_le_mul_of_nonneg_right h2 (by omega)
  omega

end M
end Go.Proofs.YtldhklbpmfckcaaDoor
