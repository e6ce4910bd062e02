/- The characteristic over all sets of rows: sums of principal minors. No program in sight; no condition. -/
import Derived.Test.YtcenhemlgapkeaaDoorBdM
namespace Go.Proofs.YtcenhemlgapkeaaDoor.Mx

/-- The rows and columns of a list. -/
def pick (A : Nat → Nat → Int) (L : List Nat) (i j : Nat) : Int := A (L.getD i 0) (L.getD j 0)
/-- The first p, and then the list's. -/
def ix (p : Nat) (L : List Nat) (i : Nat) : Nat := if i < p then i else L.getD (i - p) 0
/-- Of the first p rows 1 less x times the matrix, of the others x times the matrix alone, turned about. -/
def half (A : Nat → Nat → Int) (p : Nat) (L : List Nat) (i j : Nat) : PS := lin (if i < p then one i j else 0) (-A (ix p L i) (ix p L j))
def halfD (A : Nat → Nat → Int) (p : Nat) (L : List Nat) : PS := det (p + L.length) (half A p L)

theorem ix_cons (p : Nat) (L : List Nat) (i : Nat) : ix p (p :: L) i = ix (p + 1) L i := by
  unfold ix
  by_cases h : i < p
  · rw [if_pos h, if_pos (by omega)]
  · rw [if_neg h]
    by_cases e : i = p
    · subst e; rw [if_pos (by omega), Nat.sub_self]; rfl
    · rw [if_neg (by omega)]
      obtain ⟨k, hk⟩ : ∃ k, i - p = k + 1 := ⟨i - p - 1, by omega⟩
      rw [hk, List.getD_cons_succ]
      congr 1; omega
theorem ix_skip (p : Nat) (L : List Nat) (a : Nat) : ix (p + 1) L (sk p a) = ix p L a := by
  unfold ix
  rcases Nat.lt_or_ge a p with h | h
  · rw [sk_lt h, if_pos h, if_pos (by omega)]
  · rw [sk_ge h, if_neg (by omega), if_neg (by omega)]
    congr 1; omega

theorem lin_add (a b c : Int) : lin (a + c) b = lin a b + lin c 0 := by
  refine PS.ext fun k => ?_
  rw [co_add]
  unfold lin
  simp only
  split
  · rfl
  · split <;> simp
theorem lin_zero : lin 0 0 = 0 := by
  refine PS.ext fun k => ?_
  rw [co_zero]
  unfold lin
  simp only
  split
  · rfl
  · split <;> rfl
theorem lin_one : lin 1 0 = 1 := by
  refine PS.ext fun k => ?_
  rw [co_one]
  unfold lin
  simp only
  split
  · rfl
  · split <;> rfl

theorem halfD_split (A : Nat → Nat → Int) (p : Nat) (L : List Nat) : halfD A (p + 1) L = halfD A p (p :: L) + halfD A p L := by
  unfold halfD
  have e0 : p + (p :: L).length = p + 1 + L.length := by simp only [List.length_cons]; omega
  rw [e0]
  have h1 : det (p + 1 + L.length) (half A (p + 1) L) = det (p + 1 + L.length) (updr (half A p (p :: L)) p fun j => half A p (p :: L) p j + 1 * lin (one p j) 0) := by
    refine det_congr fun i j hi hj => ?_
    unfold updr
    by_cases e : i = p
    · subst e
      rw [if_pos rfl]
      show half A (i + 1) L i j = half A i (i :: L) i j + 1 * lin (one i j) 0
      rw [omul]
      unfold half
      rw [if_pos (by omega), if_neg (by omega), ix_cons, ix_cons, ← lin_add, Int.zero_add]
    · rw [if_neg e]
      unfold half
      rw [ix_cons, ix_cons]
      congr 1
      by_cases h : i < p
      · rw [if_pos h, if_pos (by omega)]
      · rw [if_neg h, if_neg (by omega)]
  rw [h1, det_lin_row _ _ _ _ _ _ (by omega), omul]
  congr 1
  · refine det_congr fun i j _ _ => ?_
    unfold updr
    split
    · rename_i h; subst h; rfl
    · rfl
  · have e1 : p + 1 + L.length = (p + L.length) + 1 := by omega
    rw [e1, det_row (p + L.length) L.length _ p rfl, S_one (k := p) (by omega)]
    · rw [sg_twice, omul]
      have : updr (half A p (p :: L)) p (fun j => lin (one p j) 0) p p = 1 := by
        unfold updr; rw [if_pos rfl]
        show lin (one p p) 0 = 1
        have : one (R := Int) p p = 1 := if_pos rfl
        rw [this, lin_one]
      rw [this, omul]
      refine det_congr fun a b ha hb => ?_
      have hne : sk p a ≠ p := by unfold sk; split <;> omega
      unfold updr
      rw [if_neg hne]
      unfold half
      rw [ix_cons, ix_cons, ix_skip, ix_skip]
      congr 1
      rcases Nat.lt_or_ge a p with h | h
      · rw [sk_lt h, if_pos h, if_pos h]
        unfold one
        rcases Nat.lt_or_ge b p with hb | hb
        · rw [sk_lt hb]
        · rw [sk_ge hb, if_neg (by omega), if_neg (by omega)]
      · rw [sk_ge h, if_neg (by omega), if_neg (by omega)]
    · intro i hi hne
      have : updr (half A p (p :: L)) p (fun j => lin (one p j) 0) p i = 0 := by
        unfold updr; rw [if_pos rfl]
        show lin (one p i) 0 = 0
        have : one (R := Int) p i = 0 := if_neg (fun h => hne h.symm)
        rw [this, lin_zero]
      rw [this, zmul, mulz]

theorem det_lin_lows (n : Nat) : ∀ (Q : Nat → Nat → Int) (k : Nat), (det n (fun i j => lin 0 (Q i j))).co k = if k = n then det n Q else 0 := by
  induction n with
  | zero => intro Q k; rfl
  | succ n ih =>
    intro Q k
    simp only [det]
    rw [co_S]
    cases k with
    | zero =>
      rw [if_neg (by omega)]
      refine S_zero fun j _ => ?_
      rw [co_sg, co_lin_zero, Int.zero_mul, Int.mul_zero]
    | succ k =>
      have h : ∀ j, (det n (fun i l => lin 0 (Q i (sk j l)))).co k = if k = n then det n (fun i l => Q i (sk j l)) else 0 := fun j => ih (fun i l => Q i (sk j l)) k
      by_cases e : k = n
      · subst e
        rw [if_pos rfl]
        refine S_congr fun j _ => ?_
        rw [co_sg, co_lin_succ, Int.zero_mul, Int.zero_add, h, if_pos rfl]
      · rw [if_neg (by omega)]
        refine S_zero fun j _ => ?_
        rw [co_sg, co_lin_succ, Int.zero_mul, Int.zero_add, h, if_neg e, Int.mul_zero, Int.mul_zero]

theorem halfD_all (n : Nat) (A : Nat → Nat → Int) : halfD A n [] = chi n A := by
  unfold halfD chi
  show det n _ = _
  refine det_congr fun i j hi hj => ?_
  unfold half IX Lin ix
  rw [if_pos hi, if_pos hi, if_pos hj]

theorem halfD_none (A : Nat → Nat → Int) (L : List Nat) (k : Nat) : (halfD A 0 L).co k = if k = L.length then sg k * det L.length (pick A L) else 0 := by
  unfold halfD
  have : det (0 + L.length) (half A 0 L) = det L.length (fun i j => lin 0 (-pick A L i j)) := by
    rw [Nat.zero_add]
    refine det_congr fun i j _ _ => ?_
    unfold half ix pick
    rw [if_neg (by omega), if_neg (by omega), if_neg (by omega)]; rfl
  rw [this, det_lin_lows]
  split
  · rename_i h; subst h; exact det_neg _ _
  · rfl

/-- The places of a number's bits. -/
def bitsAt (n set : Nat) : List Nat := (List.range n).filter fun i => set.testBit i
theorem bitsAt_succ (n set : Nat) : bitsAt (n + 1) set = bitsAt n set ++ if set.testBit n then [n] else [] := by
  unfold bitsAt
  rw [List.range_succ, List.filter_append]
  congr 1
  simp only [List.filter_cons, List.filter_nil]
theorem bitsAt_high (n s : Nat) : bitsAt n (2 ^ n + s) = bitsAt n s := by
  unfold bitsAt
  apply List.filter_congr
  intro i hi
  rw [Nat.testBit_two_pow_add_gt (List.mem_range.1 hi)]

/-- Over all sets of the first p, with a list behind it. -/
theorem halfD_sets (A : Nat → Nat → Int) (p : Nat) : ∀ (L : List Nat) (k : Nat), (halfD A p L).co k = S (2 ^ p) fun set => (halfD A 0 (bitsAt p set ++ L)).co k := by
  induction p with
  | zero => intro L k; show _ = 0 + _; rw [Int.zero_add]; rfl
  | succ p ih =>
    intro L k
    rw [halfD_split, co_add, ih, ih, Nat.pow_succ, Nat.mul_two, S_split, Int.add_comm]
    show _ + _ = _ + _
    congr 1
    · refine S_congr fun s hs => ?_
      rw [bitsAt_succ, Nat.testBit_lt_two_pow hs]; simp
    · refine S_congr fun s hs => ?_
      have h1 : (2 ^ p + s).testBit p = true := by rw [Nat.testBit_two_pow_add_eq, Nat.testBit_lt_two_pow hs]; rfl
      rw [bitsAt_succ, h1, bitsAt_high]; simp

/-- The characteristic, over all sets of rows. -/
theorem chi_sets (n : Nat) (A : Nat → Nat → Int) (k : Nat) : (chi n A).co k = S (2 ^ n) fun set => if k = (bitsAt n set).length then sg k * det (bitsAt n set).length (pick A (bitsAt n set)) else 0 := by
  rw [← halfD_all, halfD_sets]
  refine S_congr fun s _ => ?_
  rw [List.append_nil, halfD_none]

end Go.Proofs.YtcenhemlgapkeaaDoor.Mx
