/- Power series over the whole numbers are a commutative ring; the characteristic of a matrix by Berkowitz' way; Cayley and Hamilton; the adjugate by the characteristic. No program in sight; no condition. -/
import Derived.Test.YtohnimfjekemjaaMx1
namespace Go.Proofs.Ytohnimfjekemjaa.Mx

instance : CR Int := ⟨Int.add_assoc, Int.add_comm, Int.zero_add, Int.add_left_neg, Int.mul_assoc, Int.mul_comm, Int.one_mul, Int.add_mul⟩

/-- A power series. -/
structure PS where
  co : Nat → Int

theorem PS.ext {f g : PS} (h : ∀ k, f.co k = g.co k) : f = g := by
  cases f; cases g; congr 1; exact funext h

instance : Add PS := ⟨fun f g => ⟨fun k => f.co k + g.co k⟩⟩
instance : Neg PS := ⟨fun f => ⟨fun k => -f.co k⟩⟩
instance : Mul PS := ⟨fun f g => ⟨fun k => S (k + 1) fun i => f.co i * g.co (k - i)⟩⟩
instance : OfNat PS 0 := ⟨⟨fun _ => 0⟩⟩
instance : OfNat PS 1 := ⟨⟨fun k => if k = 0 then 1 else 0⟩⟩

theorem co_add (f g : PS) (k : Nat) : (f + g).co k = f.co k + g.co k := rfl
theorem co_neg (f : PS) (k : Nat) : (-f).co k = -f.co k := rfl
theorem co_mul (f g : PS) (k : Nat) : (f * g).co k = S (k + 1) fun i => f.co i * g.co (k - i) := rfl
theorem co_zero (k : Nat) : (0 : PS).co k = 0 := rfl
theorem co_one (k : Nat) : (1 : PS).co k = if k = 0 then 1 else 0 := rfl

theorem S_rev (n : Nat) (f : Nat → Int) : S (n + 1) f = S (n + 1) fun i => f (n - i) := by
  induction n generalizing f with
  | zero => rfl
  | succ n ih =>
    rw [S_head (n + 1) f, show S (n + 1 + 1) (fun i => f (n + 1 - i)) = S (n + 1) (fun i => f (n + 1 - i)) + f (n + 1 - (n + 1)) from rfl, ih fun k => f (k + 1), Int.add_comm]
    congr 1
    · exact S_congr fun i hi => by rw [show n - i + 1 = n + 1 - i by omega]
    · rw [Nat.sub_self]

theorem S_tri (k : Nat) (F : Nat → Nat → Int) : S (k + 1) (fun i => S (i + 1) fun j => F i j) = S (k + 1) fun j => S (k - j + 1) fun l => F (j + l) j := by
  induction k with
  | zero => rfl
  | succ k ih =>
    rw [show S (k + 1 + 1) (fun i => S (i + 1) fun j => F i j) = S (k + 1) (fun i => S (i + 1) fun j => F i j) + S (k + 1 + 1) (fun j => F (k + 1) j) from rfl, ih]
    rw [show S (k + 1 + 1) (fun j => F (k + 1) j) = S (k + 1) (fun j => F (k + 1) j) + F (k + 1) (k + 1) from rfl, ← Int.add_assoc, ← S_add]
    rw [show S (k + 1 + 1) (fun j => S (k + 1 - j + 1) fun l => F (j + l) j) = S (k + 1) (fun j => S (k + 1 - j + 1) fun l => F (j + l) j) + S (k + 1 - (k + 1) + 1) (fun l => F (k + 1 + l) (k + 1)) from rfl]
    congr 1
    · refine S_congr fun j hj => ?_
      rw [show k + 1 - j + 1 = k - j + 1 + 1 by omega, show S (k - j + 1 + 1) (fun l => F (j + l) j) = S (k - j + 1) (fun l => F (j + l) j) + F (j + (k - j + 1)) j from rfl, show j + (k - j + 1) = k + 1 by omega]
    · rw [Nat.sub_self]; exact (Int.zero_add _).symm

instance : CR PS where
  add_assoc a b c := PS.ext fun k => Int.add_assoc _ _ _
  add_comm a b := PS.ext fun k => Int.add_comm _ _
  zero_add a := PS.ext fun k => Int.zero_add _
  neg_add a := PS.ext fun k => Int.add_left_neg _
  mul_assoc a b c := PS.ext fun k => by
    rw [co_mul, co_mul]
    rw [S_congr (g := fun i => S (i + 1) fun j => a.co j * (b.co (i - j) * c.co (k - i))) fun i _ => by
      rw [co_mul, ← S_mulr]; exact S_congr fun j _ => Int.mul_assoc _ _ _]
    rw [S_tri k fun i j => a.co j * (b.co (i - j) * c.co (k - i))]
    refine S_congr fun j _ => ?_
    rw [co_mul, ← S_mul]
    exact S_congr fun l _ => by rw [show j + l - j = l by omega, show k - (j + l) = k - j - l by omega]
  mul_comm a b := PS.ext fun k => by
    rw [co_mul, co_mul, S_rev]
    exact S_congr fun i hi => by rw [show k - (k - i) = i by omega, Int.mul_comm]
  one_mul a := PS.ext fun k => by
    rw [co_mul, S_one (k := 0) (by omega)]
    · rw [co_one, if_pos rfl, Int.one_mul]; rfl
    · intro i _ hne; rw [co_one, if_neg hne, Int.zero_mul]
  add_mul a b c := PS.ext fun k => by
    rw [co_add, co_mul, co_mul, co_mul, ← S_add]
    exact S_congr fun i _ => Int.add_mul _ _ _

theorem co_S (n : Nat) (f : Nat → PS) (k : Nat) : (S n f).co k = S n fun i => (f i).co k := by
  induction n with
  | zero => rfl
  | succ n ih => simp only [S]; rw [co_add, ih]

theorem co_sg (m : Nat) (f : PS) (k : Nat) : (sg m * f).co k = sg m * f.co k := by
  unfold sg
  split
  · rw [omul, Int.one_mul]
  · rw [nmul, omul, co_neg]; omega

/-- Two numbers alone. -/
def lin (a b : Int) : PS := ⟨fun k => if k = 0 then a else if k = 1 then b else 0⟩

theorem co_lin_zero (a b : Int) (f : PS) : (lin a b * f).co 0 = a * f.co 0 := by
  rw [co_mul]; simp only [S]; exact Int.zero_add _
theorem co_lin_succ (a b : Int) (f : PS) (k : Nat) : (lin a b * f).co (k + 1) = a * f.co (k + 1) + b * f.co k := by
  rw [co_mul, S_two (k := 0) (by omega)]
  · rfl
  · intro i _ h0 h1
    rw [show (lin a b).co i = 0 by unfold lin; simp only; rw [if_neg h0, if_neg (by omega)], Int.zero_mul]

def Lin (P Q : Nat → Nat → Int) (i j : Nat) : PS := lin (P i j) (Q i j)

theorem det_lin_over (n : Nat) : ∀ (P Q : Nat → Nat → Int) (k : Nat), n < k → (det n (Lin P Q)).co k = 0 := by
  induction n with
  | zero => intro P Q k hk; exact if_neg (by omega)
  | succ n ih =>
    intro P Q k hk
    obtain ⟨k, rfl⟩ : ∃ l, k = l + 1 := ⟨k - 1, by omega⟩
    simp only [det]
    rw [co_S]
    refine S_zero fun j _ => ?_
    have h := fun k hk => ih (fun i l => P i (sk j l)) (fun i l => Q i (sk j l)) k hk
    have h1 : (det n fun i l => Lin P Q i (sk j l)).co (k + 1) = 0 := h _ (by omega)
    have h2 : (det n fun i l => Lin P Q i (sk j l)).co k = 0 := h _ (by omega)
    rw [co_sg]
    unfold Lin at h1 h2 ⊢
    rw [co_lin_succ, h1, h2, Int.mul_zero, Int.mul_zero, Int.add_zero, Int.mul_zero]

theorem det_lin_top (n : Nat) : ∀ P Q : Nat → Nat → Int, (det n (Lin P Q)).co n = det n Q := by
  induction n with
  | zero => intro P Q; rfl
  | succ n ih =>
    intro P Q
    simp only [det]
    rw [co_S]
    refine S_congr fun j _ => ?_
    have h1 : (det n fun i l => Lin P Q i (sk j l)).co (n + 1) = 0 := det_lin_over n (fun i l => P i (sk j l)) (fun i l => Q i (sk j l)) _ (by omega)
    have h2 : (det n fun i l => Lin P Q i (sk j l)).co n = det n fun i l => Q i (sk j l) := ih (fun i l => P i (sk j l)) (fun i l => Q i (sk j l))
    rw [co_sg]
    unfold Lin at h1 h2 ⊢
    rw [co_lin_succ, h1, h2, Int.mul_zero, Int.zero_add]

theorem det_lin_low (n : Nat) : ∀ P Q : Nat → Nat → Int, (det n (Lin P Q)).co 0 = det n P := by
  induction n with
  | zero => intro P Q; rfl
  | succ n ih =>
    intro P Q
    simp only [det]
    rw [co_S]
    refine S_congr fun j _ => ?_
    have h2 : (det n fun i l => Lin P Q i (sk j l)).co 0 = det n fun i l => P i (sk j l) := ih (fun i l => P i (sk j l)) (fun i l => Q i (sk j l))
    rw [co_sg]
    unfold Lin at h2 ⊢
    rw [co_lin_zero, h2]

theorem det_neg (n : Nat) (A : Nat → Nat → Int) : det n (fun i j => -A i j) = sg n * det n A := by
  induction n generalizing A with
  | zero => rfl
  | succ n ih =>
    simp only [det]
    rw [← S_mul]
    refine S_congr fun j _ => ?_
    rw [ih fun i l => A i (sk j l), sg_succ]
    simp only [nmul, muln]
    congr 1
    ac_rfl

/-- 1 less x times the matrix. -/
def IX (A : Nat → Nat → Int) : Nat → Nat → PS := Lin one fun i j => -A i j

/-- Its determinant's numbers: the characteristic, the greatest power's first. -/
def chi (n : Nat) (A : Nat → Nat → Int) : PS := det n (IX A)

theorem chi_over {n k : Nat} (A : Nat → Nat → Int) (h : n < k) : (chi n A).co k = 0 := det_lin_over n _ _ k h
theorem chi_zero (n : Nat) (A : Nat → Nat → Int) : (chi n A).co 0 = 1 := by rw [chi, IX, det_lin_low, det_one]
theorem chi_top (n : Nat) (A : Nat → Nat → Int) : (chi n A).co n = sg n * det n A := by rw [chi, IX, det_lin_top, det_neg]

theorem chi_congr {n : Nat} {A B : Nat → Nat → Int} (h : ∀ i j, i < n → j < n → A i j = B i j) : chi n A = chi n B :=
  det_congr fun i j hi hj => by show lin (one i j) (-A i j) = lin (one i j) (-B i j); rw [h i j hi hj]

theorem chi_turn (n : Nat) (A : Nat → Nat → Int) : chi n (fun i j => A j i) = chi n A := by
  unfold chi
  rw [← det_turn n (IX A)]
  refine det_congr fun i j _ _ => ?_
  unfold IX Lin one
  simp only [eq_comm]

/-- Powers of a matrix. -/
def pw (n : Nat) (A : Nat → Nat → Int) : Nat → Nat → Nat → Int
  | 0 => one
  | k + 1 => mul n A (pw n A k)

theorem pw_one {n i j : Nat} (hj : j < n) (A : Nat → Nat → Int) : pw n A 1 i j = A i j := mul_one_r hj A

/-- Their series. -/
def G (n : Nat) (A : Nat → Nat → Int) (i j : Nat) : PS := ⟨fun k => pw n A k i j⟩

theorem IX_G {n : Nat} (A : Nat → Nat → Int) (i j : Nat) (hi : i < n) : mul n (IX A) (G n A) i j = one i j := by
  refine PS.ext fun k => ?_
  unfold mul
  rw [co_S]
  unfold IX Lin
  cases k with
  | zero =>
    rw [S_congr (g := fun l => one i l * one l j) fun l _ => co_lin_zero _ _ _, S_one_l hi]
    unfold one; split <;> rfl
  | succ k =>
    rw [S_congr (g := fun l => one i l * pw n A (k + 1) l j + -(A i l * pw n A k l j)) fun l _ => by rw [co_lin_succ, Int.neg_mul]; rfl]
    rw [S_add, S_one_l hi, S_neg]
    show mul n A (pw n A k) i j + -mul n A (pw n A k) i j = _
    rw [Int.add_right_neg]
    unfold one; split <;> rfl

/-- The adjugate of that one. -/
theorem adj_IX {n : Nat} (A : Nat → Nat → Int) (i j : Nat) (hi : i < n) (hj : j < n) : adj n (IX A) i j = chi n A * G n A i j := by
  have h1 : mul n (adj n (IX A)) (mul n (IX A) (G n A)) i j = adj n (IX A) i j := by
    rw [mul_congr (A' := adj n (IX A)) (B' := one) (fun _ _ => rfl) fun l hl => IX_G A l j hl, mul_one_r hj]
  rw [← h1, ← mul_mul]
  unfold mul
  rw [S_one (k := i) hi]
  · have := adj_mul (IX A) i i hi hi
    unfold mul at this
    rw [this, if_pos rfl]; rfl
  · intro l hl hne
    have := adj_mul (IX A) i l hi hl
    unfold mul at this
    rw [this, if_neg (fun h => hne h.symm), zmul]

theorem adj_IX_co {n : Nat} (A : Nat → Nat → Int) (i j k : Nat) (hi : i < n) (hj : j < n) : S (k + 1) (fun t => (chi n A).co t * pw n A (k - t) i j) = (adj n (IX A) i j).co k := by
  rw [adj_IX A i j hi hj, co_mul]; rfl

theorem adj_lin {n : Nat} (A : Nat → Nat → Int) (i j : Nat) : adj n (IX A) i j = sg (i + j) * det (n - 1) (Lin (fun a b => one (sk j a) (sk i b)) fun a b => -A (sk j a) (sk i b)) := rfl

/-- Cayley and Hamilton. -/
theorem hamilton {n : Nat} (A : Nat → Nat → Int) (i j : Nat) (hi : i < n) (hj : j < n) : S (n + 1) (fun t => (chi n A).co t * pw n A (n - t) i j) = 0 := by
  rw [adj_IX_co A i j n hi hj, adj_lin, co_sg, det_lin_over (n - 1) _ _ n (by omega), Int.mul_zero]

theorem adj_chi {n : Nat} (A : Nat → Nat → Int) (i j : Nat) (hi : i < n) (hj : j < n) : S n (fun t => (chi n A).co t * pw n A (n - 1 - t) i j) = sg (n - 1) * adj n A i j := by
  have h := adj_IX_co A i j (n - 1) hi hj
  rw [adj_lin, co_sg, det_lin_top, det_neg] at h
  rw [show n - 1 + 1 = n by omega] at h
  rw [h]
  unfold adj
  ac_rfl

/-- The column beside the part of n rows, t times the part. -/
def bc (n : Nat) (A : Nat → Nat → Int) : Nat → Nat → Int
  | 0, i => A i n
  | t + 1, i => S n fun l => A i l * bc n A t l

theorem bc_eq (n : Nat) (A : Nat → Nat → Int) (t i : Nat) (hi : i < n) : bc n A t i = S n fun l => pw n A t i l * A l n := by
  induction t generalizing i with
  | zero => exact (S_one_l hi _).symm
  | succ t ih =>
    simp only [bc]
    rw [S_congr (g := fun l => S n fun m => A i l * pw n A t l m * A m n) fun l hl => by rw [ih l hl, ← S_mul]; exact S_congr fun m _ => (Int.mul_assoc _ _ _).symm]
    rw [S_comm]
    exact S_congr fun m _ => S_mulr n (A m n) fun l => A i l * pw n A t l m

/-- Berkowitz' first column. -/
def fst (n : Nat) (A : Nat → Nat → Int) : PS := ⟨fun k => match k with
  | 0 => 1
  | 1 => -A n n
  | t + 2 => -S n fun i => A n i * bc n A t i⟩

theorem chi_succ (n : Nat) (A : Nat → Nat → Int) : chi (n + 1) A = chi n A * fst n A := by
  cases n with
  | zero =>
    unfold chi
    simp only [det, S]
    rw [zadd, omul, mulo, show sg (0 + 0) = (1 : PS) from rfl, omul]
    refine PS.ext fun k => ?_
    match k with
    | 0 => rfl
    | 1 => rfl
    | k + 2 => rfl
  | succ m =>
    unfold chi
    rw [border m (IX A)]
    have e1 : S (m + 1) (fun j => S (m + 1) fun i => -(sg (i + j) * (IX A (m + 1) j * (IX A i (m + 1) * det m fun a b => IX A (sk i a) (sk j b))))) =
        -(det (m + 1) (IX A) * S (m + 1) fun j => S (m + 1) fun i => IX A (m + 1) j * (IX A i (m + 1) * G (m + 1) A j i)) := by
      rw [← S_mul, ← S_neg]
      refine S_congr fun j hj => ?_
      rw [← S_mul, ← S_neg]
      refine S_congr fun i hi => ?_
      congr 1
      have := adj_IX A j i hj hi
      unfold adj chi at this
      rw [Nat.add_sub_cancel] at this
      rw [show det (m + 1) (IX A) * (IX A (m + 1) j * (IX A i (m + 1) * G (m + 1) A j i)) = IX A (m + 1) j * (IX A i (m + 1) * (det (m + 1) (IX A) * G (m + 1) A j i)) by ac_rfl, ← this, Nat.add_comm j i]
      ac_rfl
    rw [e1, CR.mul_comm (IX A (m + 1) (m + 1)), ← muln, ← mula]
    congr 1
    refine PS.ext fun k => ?_
    rw [co_add, co_neg, co_S]
    have off : ∀ i j, i ≠ j → IX A i j = lin 0 (-A i j) := fun i j h => by unfold IX Lin one; rw [if_neg h]
    match k with
    | 0 =>
      rw [S_zero fun j hj => by
        rw [co_S]
        exact S_zero fun i hi => by rw [off (m + 1) j (by omega), co_lin_zero, Int.zero_mul]]
      unfold IX Lin one lin fst
      simp
    | 1 =>
      rw [S_zero fun j hj => by
        rw [co_S]
        exact S_zero fun i hi => by rw [off (m + 1) j (by omega), off i (m + 1) (by omega), co_lin_succ, co_lin_zero, Int.zero_mul, Int.zero_mul, Int.mul_zero, Int.zero_add]]
      unfold IX Lin one lin fst
      simp
    | k + 2 =>
      have e2 : (IX A (m + 1) (m + 1)).co (k + 2) = 0 := rfl
      rw [e2, Int.zero_add]
      show -_ = -S (m + 1) fun i => A (m + 1) i * bc (m + 1) A k i
      congr 1
      refine S_congr fun j hj => ?_
      rw [co_S, bc_eq (m + 1) A k j hj, ← S_mul]
      refine S_congr fun i hi => ?_
      rw [off (m + 1) j (by omega), off i (m + 1) (by omega), co_lin_succ, Int.zero_mul, Int.zero_add, co_lin_succ, Int.zero_mul, Int.zero_add, Int.neg_mul, Int.neg_mul, Int.mul_neg, Int.neg_neg]
      show A (m + 1) j * (A i (m + 1) * pw (m + 1) A k j i) = _
      rw [Int.mul_comm (A i (m + 1))]

/-- Row by row, as Berkowitz reckons. -/
theorem chi_step (n : Nat) (A : Nat → Nat → Int) (i : Nat) : (chi (n + 1) A).co i = S (n + 1) fun j => if j ≤ i then (fst n A).co (i - j) * (chi n A).co j else 0 := by
  rw [chi_succ, co_mul]
  have e : ∀ m, i + 1 ≤ m → S m (fun j => if j ≤ i then (fst n A).co (i - j) * (chi n A).co j else 0) = S (i + 1) fun j => (chi n A).co j * (fst n A).co (i - j) := by
    intro m hm
    obtain ⟨d, rfl⟩ : ∃ d, m = i + 1 + d := ⟨m - (i + 1), by omega⟩
    rw [S_split, S_zero (n := d) fun k _ => if_neg (by omega), addz]
    exact S_congr fun j hj => by rw [if_pos (by omega), Int.mul_comm]
  have f : ∀ m, n + 1 ≤ m → S m (fun j => if j ≤ i then (fst n A).co (i - j) * (chi n A).co j else 0) = S (n + 1) fun j => if j ≤ i then (fst n A).co (i - j) * (chi n A).co j else 0 := by
    intro m hm
    obtain ⟨d, rfl⟩ : ∃ d, m = n + 1 + d := ⟨m - (n + 1), by omega⟩
    rw [S_split (n + 1) d, S_zero (n := d) (f := fun k => if n + 1 + k ≤ i then (fst n A).co (i - (n + 1 + k)) * (chi n A).co (n + 1 + k) else 0) fun k _ => by rw [chi_over A (by omega), Int.mul_zero]; split <;> rfl, addz]
  rw [← e (i + 1 + (n + 1)) (by omega), f _ (by omega)]

theorem chi_trace (n : Nat) (A : Nat → Nat → Int) : (chi (n + 1) A).co 1 = -S (n + 1) fun i => A i i := by
  induction n with
  | zero => rw [chi_step]; simp only [S]; simp [fst, chi_zero]
  | succ n ih =>
    rw [chi_succ, co_mul]
    simp only [S]
    rw [Int.zero_add, chi_zero]
    show 1 * -A (n + 1) (n + 1) + (chi (n + 1) A).co 1 * 1 = _
    rw [ih]
    simp only [S]
    omega

theorem mul_pw (n : Nat) (A : Nat → Nat → Int) (k : Nat) : ∀ l i j, i < n → mul n (pw n A k) (pw n A l) i j = pw n A (k + l) i j := by
  induction k with
  | zero => intro l i j hi; rw [Nat.zero_add]; exact mul_one_l hi _
  | succ k ih =>
    intro l i j hi
    rw [show k + 1 + l = k + l + 1 by omega]
    show mul n (mul n A (pw n A k)) (pw n A l) i j = mul n A (pw n A (k + l)) i j
    rw [mul_mul]
    exact mul_congr (fun _ _ => rfl) fun m hm => ih l m j hm

/-- Either way round. -/
theorem chi_sylvester (n : Nat) (A B : Nat → Nat → Int) : chi n (mul n A B) = chi n (mul n B A) := by
  have e : ∀ P Q : Nat → Nat → Int, ∀ i j, IX (mul n P Q) i j = one i j + -mul n (fun i j => lin 0 (P i j)) (fun i j => lin (Q i j) 0) i j := by
    intro P Q i j
    refine PS.ext fun k => ?_
    rw [co_add, co_neg]
    unfold mul
    rw [co_S]
    match k with
    | 0 =>
      rw [S_zero fun l _ => by rw [co_lin_zero, Int.zero_mul]]
      show (one i j : Int) = (one i j : PS).co 0 + -0
      unfold one; split <;> rfl
    | 1 =>
      rw [S_congr (g := fun l => P i l * Q l j) fun l _ => by rw [co_lin_succ, Int.zero_mul, Int.zero_add]; rfl]
      show -_ = (one i j : PS).co 1 + -_
      have : (one i j : PS).co 1 = 0 := by unfold one; split <;> rfl
      rw [this, Int.zero_add]
    | k + 2 =>
      rw [S_zero fun l _ => by rw [co_lin_succ, Int.zero_mul, Int.zero_add, show (lin (Q l j) 0).co (k + 1) = 0 from ite_self _, Int.mul_zero]]
      show 0 = (one i j : PS).co (k + 2) + -0
      have : (one i j : PS).co (k + 2) = 0 := by unfold one; split <;> rfl
      rw [this]; rfl
  have c : ∀ P Q : Nat → Nat → Int, ∀ i j, mul n (fun i j => lin (Q i j) 0) (fun i j => lin 0 (P i j)) i j = mul n (fun i j => lin 0 (Q i j)) (fun i j => lin (P i j) 0) i j := by
    intro P Q i j
    refine S_congr fun l _ => ?_
    refine PS.ext fun k => ?_
    match k with
    | 0 => rw [co_lin_zero, co_lin_zero]; simp [lin]
    | 1 => rw [co_lin_succ, co_lin_succ]; simp [lin]
    | k + 2 => rw [co_lin_succ, co_lin_succ]; simp [lin]
  unfold chi
  rw [det_congr fun i j _ _ => e A B i j, det_sylvester, det_congr fun i j _ _ => e B A i j]
  exact det_congr fun i j _ _ => by rw [c]

end Go.Proofs.Ytohnimfjekemjaa.Mx
