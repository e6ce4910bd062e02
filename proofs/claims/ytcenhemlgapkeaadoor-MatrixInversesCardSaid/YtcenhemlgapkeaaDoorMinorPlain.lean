/- Determinants over the columns that are left, minors by rows and columns that are chosen, as the document reckons them. No program in sight; no condition. -/
import Derived.Test.YtcenhemlgapkeaaDoorMxSub
import Derived.Test.YtcenhemlgapkeaaDoorBdM
import Derived.Test.YtcenhemlgapkeaaDoorBdQ
namespace Go.Proofs.YtcenhemlgapkeaaDoor
open Go.RowKit

/-- The places below j where a list of booleans has v. -/
def placesTo (U : List Bool) (v : Bool) (j : Nat) : List Nat := (List.range j).filter fun k => U.getD k (!v) == v
theorem placesTo_zero (U : List Bool) (v : Bool) : placesTo U v 0 = [] := rfl
theorem placesTo_hit {U : List Bool} {v : Bool} {j : Nat} (h : U.getD j (!v) = v) : placesTo U v (j + 1) = placesTo U v j ++ [j] := by
  unfold placesTo; rw [List.range_succ, List.filter_append]; simp only [List.filter_cons, List.filter_nil, h, beq_self_eq_true, if_true]
theorem placesTo_miss {U : List Bool} {v : Bool} {j : Nat} (h : U.getD j (!v) = !v) : placesTo U v (j + 1) = placesTo U v j := by
  unfold placesTo; rw [List.range_succ, List.filter_append]; simp only [List.filter_cons, List.filter_nil, h]; cases v <;> simp
theorem placesTo_lt {U : List Bool} {v : Bool} {j k : Nat} (h : k ∈ placesTo U v j) : k < j := List.mem_range.1 (List.mem_filter.1 h).1
theorem placesTo_le (U : List Bool) (v : Bool) (j : Nat) : (placesTo U v j).length ≤ j := by
  have := List.length_filter_le (fun k => U.getD k (!v) == v) (List.range j)
  rw [List.length_range] at this; exact this
theorem placesTo_set {U : List Bool} {v : Bool} {j k : Nat} (h : j ≤ k) (u : Bool) : placesTo (U.set k u) v j = placesTo U v j := by
  unfold placesTo
  refine List.filter_congr fun x hx => ?_
  have hx := List.mem_range.1 hx
  rw [List.getD_eq_getElem?_getD, List.getElem?_set_ne (by omega), ← List.getD_eq_getElem?_getD]
/-- How many are there, and how many are not. -/
theorem places_both {U : List Bool} (n : Nat) (h : n ≤ U.length) : (placesTo U true n).length + (placesTo U false n).length = n := by
  induction n with
  | zero => rfl
  | succ n ih =>
    have ih := ih (by omega)
    have hd : ∀ d, U.getD n d = U.getD n false := fun d => by
      rw [List.getD_eq_getElem?_getD, List.getD_eq_getElem?_getD, List.getElem?_eq_getElem (by omega)]; rfl
    cases hb : U.getD n false with
    | true =>
      rw [placesTo_hit (v := true) (by rw [hd]; exact hb), placesTo_miss (v := false) (by rw [hd]; exact hb), List.length_append]
      simp only [List.length_cons, List.length_nil]; omega
    | false =>
      rw [placesTo_miss (v := true) (by rw [hd]; exact hb), placesTo_hit (v := false) (by rw [hd]; exact hb), List.length_append]
      simp only [List.length_cons, List.length_nil]; omega
/-- With one more that is taken. -/
theorem places_erase {U : List Bool} {n j : Nat} (hj : j < n) (hn : n ≤ U.length) (h : U.getD j true = false) : placesTo (U.set j true) false n = (placesTo U false n).eraseIdx (placesTo U false j).length ∧ (placesTo U false n)[(placesTo U false j).length]? = some j := by
  obtain ⟨m, rfl⟩ : ∃ m, n = j + 1 + m := ⟨n - (j + 1), by omega⟩
  clear hj
  have key : ∀ m, j + 1 + m ≤ U.length → ∃ r, placesTo U false (j + 1 + m) = placesTo U false j ++ j :: r ∧ placesTo (U.set j true) false (j + 1 + m) = placesTo U false j ++ r := by
    intro m
    induction m with
    | zero =>
      intro hm
      refine ⟨[], by rw [Nat.add_zero, placesTo_hit (v := false) h], ?_⟩
      rw [Nat.add_zero, placesTo_miss, placesTo_set (Nat.le_refl _), List.append_nil]
      rw [List.getD_eq_getElem?_getD, List.getElem?_set_self (by omega)]; rfl
    | succ m ih =>
      intro hm
      obtain ⟨r, h1, h2⟩ := ih (by omega)
      have e : (U.set j true).getD (j + 1 + m) true = U.getD (j + 1 + m) true := by
        rw [List.getD_eq_getElem?_getD, List.getElem?_set_ne (by omega), ← List.getD_eq_getElem?_getD]
      rw [show j + 1 + (m + 1) = j + 1 + m + 1 by omega]
      cases hb : U.getD (j + 1 + m) true with
      | true => exact ⟨r, by rw [placesTo_miss (v := false) hb, h1], by rw [placesTo_miss (v := false) (by show (U.set j true).getD _ true = true; rw [e]; exact hb), h2]⟩
      | false => exact ⟨r ++ [j + 1 + m], by rw [placesTo_hit (v := false) hb, h1]; simp, by rw [placesTo_hit (v := false) (by show (U.set j true).getD _ true = false; rw [e]; exact hb), h2]; simp⟩
  obtain ⟨r, h1, h2⟩ := key m hn
  constructor
  · rw [h1, h2, List.eraseIdx_append_of_length_le (Nat.le_refl _), Nat.sub_self]; rfl
  · rw [h1, List.getElem?_append_right (Nat.le_refl _), Nat.sub_self]; rfl

/-- The determinant of the rows from row on and of the columns of a list. -/
def detL (A : Nat → Nat → Int) (row : Nat) (L : List Nat) : Int := Mx.det L.length fun a b => A (row + a) (L.getD b 0)
theorem detL_nil (A : Nat → Nat → Int) (row : Nat) : detL A row [] = 1 := rfl
theorem det_first (n : Nat) (B : Nat → Nat → Int) : Mx.det (n + 1) B = Mx.S (n + 1) fun q => Mx.sg q * (B 0 q * Mx.det n fun a b => B (a + 1) (Mx.sk q b)) := by
  have h := Mx.mul_adj B 0 0 (Nat.succ_pos n) (Nat.succ_pos n)
  rw [if_pos rfl] at h
  rw [← h]
  refine Mx.S_congr fun q _ => ?_
  have e : Mx.det n (fun a b => B (Mx.sk 0 a) (Mx.sk q b)) = Mx.det n fun a b => B (a + 1) (Mx.sk q b) := Mx.det_congr fun a b _ _ => by rw [Mx.sk_ge (Nat.zero_le _)]
  show B 0 q * (Mx.sg (q + 0) * Mx.det (n + 1 - 1) (fun a b => B (Mx.sk 0 a) (Mx.sk q b))) = _
  rw [Nat.add_sub_cancel, e, Nat.add_zero]
  rw [← Int.mul_assoc, ← Int.mul_assoc, Int.mul_comm (B 0 q)]
theorem getD_erase {L : List Nat} {q b : Nat} (hb : b < L.length - 1) : (L.eraseIdx q).getD b 0 = L.getD (Mx.sk q b) 0 := by
  rw [List.getD_eq_getElem?_getD, List.getD_eq_getElem?_getD, List.getElem?_eraseIdx]
  unfold Mx.sk
  split <;> rfl
theorem detL_step {A : Nat → Nat → Int} {row r : Nat} {L : List Nat} (h : L.length = r + 1) : detL A row L = Mx.S (r + 1) fun q => Mx.sg q * (A row (L.getD q 0) * detL A (row + 1) (L.eraseIdx q)) := by
  unfold detL
  rw [h, det_first]
  refine Mx.S_congr fun q hq => ?_
  rw [List.length_eraseIdx_of_lt (by omega), h, Nat.add_sub_cancel, Nat.add_zero]
  congr 2
  refine Mx.det_congr fun a b _ hb => ?_
  rw [getD_erase (by omega), Nat.add_assoc, Nat.add_comm 1 a]
theorem detL_wrap {A B : Nat → Nat → Int} {row n : Nat} {L : List Nat} (h : ∀ i j, i < n → j < n → wrap64 (A i j) = wrap64 (B i j)) (hr : row + L.length ≤ n) (hL : ∀ k, k ∈ L → k < n) : wrap64 (detL A row L) = wrap64 (detL B row L) :=
  det_wrap _ fun a b ha hb => h _ _ (by omega) (hL _ (by rw [List.getD_eq_getElem?_getD, List.getElem?_eq_getElem hb]; exact List.getElem_mem hb))
/-- All columns: the determinant. -/
theorem placesTo_none (n : Nat) : placesTo (List.replicate n false) false n = List.range n := by
  unfold placesTo
  rw [List.filter_eq_self]
  intro k hk
  have hk := List.mem_range.1 hk
  rw [List.getD_eq_getElem?_getD, List.getElem?_replicate, if_pos hk]; rfl
theorem detL_all (n : Nat) (A : Nat → Nat → Int) : detL A 0 (List.range n) = Mx.det n A := by
  unfold detL
  rw [List.length_range]
  refine Mx.det_congr fun a b _ hb => ?_
  rw [Nat.zero_add, List.getD_eq_getElem?_getD, List.getElem?_range hb]; rfl

/-- The document's sum as far as column j, and its sign. -/
def dSum (A : Nat → Nat → Int) (row : Nat) (U : List Bool) (n j : Nat) : Int :=
  Mx.S (placesTo U false j).length fun q => Mx.sg q * (A row ((placesTo U false n).getD q 0) * detL A (row + 1) ((placesTo U false n).eraseIdx q))
theorem dSum_zero (A : Nat → Nat → Int) (row : Nat) (U : List Bool) (n : Nat) : dSum A row U n 0 = 0 := rfl
theorem dSum_miss {A : Nat → Nat → Int} {row : Nat} {U : List Bool} {n j : Nat} (h : U.getD j true = true) : dSum A row U n (j + 1) = dSum A row U n j := by
  unfold dSum; rw [placesTo_miss (v := false) h]
theorem dSum_hit {A : Nat → Nat → Int} {row : Nat} {U : List Bool} {n j : Nat} (hj : j < n) (hn : n ≤ U.length) (h : U.getD j true = false) :
    dSum A row U n (j + 1) = dSum A row U n j + Mx.sg (placesTo U false j).length * (A row j * detL A (row + 1) (placesTo (U.set j true) false n)) := by
  obtain ⟨h1, h2⟩ := places_erase hj hn h
  unfold dSum
  rw [placesTo_hit (v := false) h, List.length_append, h1]
  show Mx.S ((placesTo U false j).length + 1) _ = _
  simp only [Mx.S]
  rw [List.getD_eq_getElem?_getD, h2]; rfl
theorem dSum_end {A : Nat → Nat → Int} {row r : Nat} {U : List Bool} {n : Nat} (h : (placesTo U false n).length = r + 1) : dSum A row U n n = detL A row (placesTo U false n) := by
  rw [detL_step h]; unfold dSum; rw [h]
theorem sg_places_hit {U : List Bool} {j : Nat} (h : U.getD j true = false) : (Mx.sg (placesTo U false (j + 1)).length : Int) = -Mx.sg (placesTo U false j).length := by
  rw [placesTo_hit (v := false) h, List.length_append]; exact Mx.sg_succ _
theorem sg_places_miss {U : List Bool} {j : Nat} (h : U.getD j true = true) : (Mx.sg (placesTo U false (j + 1)).length : Int) = Mx.sg (placesTo U false j).length := by
  rw [placesTo_miss (v := false) h]

/-- A row's chosen columns. -/
def mRow (A : Nat → Nat → Int) (i : Nat) (C : List Nat) : List Int := C.map fun j => wrap64 (A i j)
/-- The chosen rows' chosen columns. -/
def mList (A : Nat → Nat → Int) (R C : List Nat) : List Int := R.flatMap fun i => mRow A i C
theorem mList_snoc (A : Nat → Nat → Int) (R C : List Nat) (i : Nat) : mList A (R ++ [i]) C = mList A R C ++ mRow A i C := by simp [mList]
theorem mRow_snoc (A : Nat → Nat → Int) (i j : Nat) (C : List Nat) : mRow A i (C ++ [j]) = mRow A i C ++ [wrap64 (A i j)] := by simp [mRow]
theorem mList_length (A : Nat → Nat → Int) (R C : List Nat) : (mList A R C).length = R.length * C.length := by
  induction R with
  | nil => simp [mList]
  | cons x R ih => unfold mList at ih ⊢; rw [List.flatMap_cons, List.length_append, ih, List.length_cons, Nat.add_mul, Nat.one_mul]; simp [mRow]; omega
/-- A chosen square. -/
def pickM (A : Nat → Nat → Int) (R C : List Nat) (a b : Nat) : Int := A (R.getD a 0) (C.getD b 0)
theorem mList_sq {A : Nat → Nat → Int} {R C : List Nat} {k : Nat} (hR : R.length = k) (hC : C.length = k) : mList A R C = sqList k (pickM A R C) := by
  have hrow : ∀ t, t < k → mRow A (R.getD t 0) C = sqRow k (pickM A R C) t := by
    intro t _
    unfold mRow sqRow pickM
    apply List.ext_getElem
    · simp [hC]
    · intro b h1 h2
      simp only [List.getElem_map, List.getElem_range]
      simp only [List.length_map] at h1
      rw [List.getD_eq_getElem?_getD (l := C), List.getElem?_eq_getElem h1]; rfl
  have key : ∀ t, t ≤ k → mList A (R.take t) C = (sqList k (pickM A R C)).take (t * k) := by
    intro t
    induction t with
    | zero => intro _; simp [mList]
    | succ t ih =>
      intro ht
      have h1 : R.take (t + 1) = R.take t ++ [R.getD t 0] := by
        rw [List.take_add_one, List.getElem?_eq_getElem (by omega), List.getD_eq_getElem?_getD, List.getElem?_eq_getElem (by omega)]; rfl
      rw [h1, mList_snoc, ih (by omega), sqList_take _ (by omega), hrow t (by omega)]
  have := key k (Nat.le_refl _)
  rw [List.take_of_length_le (by omega), List.take_of_length_le (by rw [sqList_length]; exact Nat.le_refl _)] at this
  exact this
end Go.Proofs.YtcenhemlgapkeaaDoor
