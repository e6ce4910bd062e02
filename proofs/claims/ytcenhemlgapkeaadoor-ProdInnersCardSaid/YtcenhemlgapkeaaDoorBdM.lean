/- Texts that lie in one file: what is plain, rows, boxes, squares, and what is known of a world. No condition. -/
import Derived.Test.YtcenhemlgapkeaaDoorBdA
/- Determinants over any commutative ring, from nothing: expansion by the last row, both hands alike, columns and rows in turn, shears, blocks, products, the adjugate. No program in sight; no condition. -/
namespace Go.Proofs.YtcenhemlgapkeaaDoor.Mx
set_option linter.unusedSectionVars false

/-- A commutative ring. -/
class CR (R : Type) [Add R] [Mul R] [Neg R] [OfNat R 0] [OfNat R 1] : Prop where
  add_assoc : ∀ a b c : R, a + b + c = a + (b + c)
  add_comm : ∀ a b : R, a + b = b + a
  zero_add : ∀ a : R, 0 + a = a
  neg_add : ∀ a : R, -a + a = 0
  mul_assoc : ∀ a b c : R, a * b * c = a * (b * c)
  mul_comm : ∀ a b : R, a * b = b * a
  one_mul : ∀ a : R, 1 * a = a
  add_mul : ∀ a b c : R, (a + b) * c = a * c + b * c

section
variable {R : Type} [Add R] [Mul R] [Neg R] [OfNat R 0] [OfNat R 1] [CR R]

instance : Std.Associative (α := R) (· + ·) := ⟨CR.add_assoc⟩
instance : Std.Commutative (α := R) (· + ·) := ⟨CR.add_comm⟩
instance : Std.Associative (α := R) (· * ·) := ⟨CR.mul_assoc⟩
instance : Std.Commutative (α := R) (· * ·) := ⟨CR.mul_comm⟩

theorem zadd (a : R) : 0 + a = a := CR.zero_add a
theorem addz (a : R) : a + 0 = a := by rw [CR.add_comm, CR.zero_add]
theorem nadd (a : R) : -a + a = 0 := CR.neg_add a
theorem addn (a : R) : a + -a = 0 := by rw [CR.add_comm, CR.neg_add]
theorem omul (a : R) : 1 * a = a := CR.one_mul a
theorem mulo (a : R) : a * 1 = a := by rw [CR.mul_comm, CR.one_mul]
theorem amul (a b c : R) : (a + b) * c = a * c + b * c := CR.add_mul a b c
theorem mula (a b c : R) : c * (a + b) = c * a + c * b := by rw [CR.mul_comm, CR.add_mul, CR.mul_comm a, CR.mul_comm b]
theorem acan {a b c : R} (h : a + b = a + c) : b = c := by
  rw [← zadd b, ← nadd a, CR.add_assoc, h, ← CR.add_assoc, nadd, zadd]
theorem zmul (a : R) : 0 * a = 0 := by
  have h : 0 * a + 0 * a = 0 * a + 0 := by rw [← amul, zadd, addz]
  exact acan h
theorem mulz (a : R) : a * 0 = 0 := by rw [CR.mul_comm, zmul]
theorem neg_of {a b : R} (h : a + b = 0) : b = -a := by
  have : a + b = a + -a := by rw [h, addn]
  exact acan this
theorem nmul (a b : R) : -a * b = -(a * b) := neg_of (by rw [← amul, addn, zmul])
theorem muln (a b : R) : a * -b = -(a * b) := by rw [CR.mul_comm, nmul, CR.mul_comm]
theorem nneg (a : R) : - -a = a := (neg_of (nadd a)).symm
theorem nzero : -(0 : R) = 0 := (neg_of (addz (0 : R))).symm
theorem nadd2 (a b : R) : -(a + b) = -a + -b := by
  refine (neg_of ?_).symm
  rw [show a + b + (-a + -b) = (a + -a) + (b + -b) by ac_rfl, addn, addn, addz]

/-- A sum. -/
def S : Nat → (Nat → R) → R
  | 0, _ => 0
  | n + 1, f => S n f + f n

theorem S_congr {n : Nat} {f g : Nat → R} (h : ∀ i, i < n → f i = g i) : S n f = S n g := by
  induction n with
  | zero => rfl
  | succ n ih => simp only [S]; rw [ih fun i hi => h i (by omega), h n (by omega)]

theorem S_zero {n : Nat} {f : Nat → R} (h : ∀ i, i < n → f i = 0) : S n f = 0 := by
  induction n with
  | zero => rfl
  | succ n ih => simp only [S]; rw [ih fun i hi => h i (by omega), h n (by omega), addz]

theorem S_add (n : Nat) (f g : Nat → R) : S n (fun i => f i + g i) = S n f + S n g := by
  induction n with
  | zero => exact (addz 0).symm
  | succ n ih => simp only [S]; rw [ih]; ac_rfl

theorem S_mul (n : Nat) (c : R) (f : Nat → R) : S n (fun i => c * f i) = c * S n f := by
  induction n with
  | zero => exact (mulz c).symm
  | succ n ih => simp only [S]; rw [ih, mula]

theorem S_mulr (n : Nat) (c : R) (f : Nat → R) : S n (fun i => f i * c) = S n f * c := by
  rw [CR.mul_comm, ← S_mul]; exact S_congr fun i _ => CR.mul_comm _ _

theorem S_neg (n : Nat) (f : Nat → R) : S n (fun i => -f i) = -S n f := by
  induction n with
  | zero => exact nzero.symm
  | succ n ih => simp only [S]; rw [ih, nadd2]

theorem S_comm (n m : Nat) (f : Nat → Nat → R) : S n (fun i => S m (fun j => f i j)) = S m (fun j => S n (fun i => f i j)) := by
  induction n with
  | zero => exact (S_zero fun _ _ => rfl).symm
  | succ n ih => simp only [S]; rw [ih, ← S_add]

theorem S_one {n k : Nat} {f : Nat → R} (hk : k < n) (h : ∀ i, i < n → i ≠ k → f i = 0) : S n f = f k := by
  induction n with
  | zero => omega
  | succ n ih =>
    simp only [S]
    by_cases e : k = n
    · subst e; rw [S_zero fun i hi => h i (by omega) (by omega), zadd]
    · rw [ih (by omega) fun i hi hne => h i (by omega) hne, h n (by omega) (by omega), addz]

theorem S_two {n k : Nat} {f : Nat → R} (hk : k + 1 < n) (h : ∀ i, i < n → i ≠ k → i ≠ k + 1 → f i = 0) : S n f = f k + f (k + 1) := by
  induction n with
  | zero => omega
  | succ n ih =>
    simp only [S]
    by_cases e : k + 1 = n
    · subst e; rw [S_one (k := k) (by omega) fun i hi hne => h i (by omega) hne (by omega)]
    · rw [ih (by omega) fun i hi h1 h2 => h i (by omega) h1 h2, h n (by omega) (by omega) (by omega), addz]

theorem S_split (n m : Nat) (f : Nat → R) : S (n + m) f = S n f + S m (fun k => f (n + k)) := by
  induction m with
  | zero => exact (addz _).symm
  | succ m ih => rw [← Nat.add_assoc]; simp only [S]; rw [ih, CR.add_assoc]

theorem S_head (n : Nat) (f : Nat → R) : S (n + 1) f = f 0 + S n (fun k => f (k + 1)) := by
  rw [Nat.add_comm, S_split]
  simp only [S]
  rw [zadd]
  congr 1
  exact S_congr fun i _ => by rw [Nat.add_comm]

/-- Signs. -/
def sg (k : Nat) : R := if k % 2 = 0 then 1 else -1

theorem sg_succ (k : Nat) : sg (R := R) (k + 1) = -sg k := by
  unfold sg
  rcases Nat.mod_two_eq_zero_or_one k with h | h
  · rw [if_neg (by omega), if_pos h]
  · rw [if_pos (by omega), if_neg (by omega), nneg]

theorem sg_add (k l : Nat) : sg (R := R) (k + l) = sg k * sg l := by
  induction l with
  | zero => rw [show sg (R := R) 0 = 1 from rfl, mulo]; rfl
  | succ l ih => rw [← Nat.add_assoc, sg_succ, sg_succ, ih, muln]

theorem sg_twice (k : Nat) : sg (R := R) (k + k) = 1 := by unfold sg; rw [if_pos (by omega)]

theorem sg_even {k l : Nat} (h : k % 2 = l % 2) : sg (R := R) k = sg l := by unfold sg; rw [h]

/-- All numbers but k. -/
def sk (k l : Nat) : Nat := if l < k then l else l + 1

theorem sk_lt {k l : Nat} (h : l < k) : sk k l = l := if_pos h
theorem sk_ge {k l : Nat} (h : k ≤ l) : sk k l = l + 1 := if_neg (by omega)

/-- The determinant, by the last row. -/
def det : Nat → (Nat → Nat → R) → R
  | 0, _ => 1
  | n + 1, A => S (n + 1) fun j => sg (n + j) * (A n j * det n fun i l => A i (sk j l))

theorem det_congr {n : Nat} {A B : Nat → Nat → R} (h : ∀ i j, i < n → j < n → A i j = B i j) : det n A = det n B := by
  induction n generalizing A B with
  | zero => rfl
  | succ n ih =>
    simp only [det]
    refine S_congr fun j hj => ?_
    rw [h n j (by omega) hj, ih fun i l hi hl => h i (sk j l) (by omega) (by unfold sk; split <;> omega)]

/-- The last row and the last column taken out, where a matrix turned has the same determinant below. -/
theorem border_of {n : Nat} (A : Nat → Nat → R) (h1 : ∀ B : Nat → Nat → R, det (n + 1) (fun i j => B j i) = det (n + 1) B) (h0 : ∀ B : Nat → Nat → R, det n (fun i j => B j i) = det n B) :
    det (n + 2) A = A (n + 1) (n + 1) * det (n + 1) A + S (n + 1) fun j => S (n + 1) fun i => -(sg (i + j) * (A (n + 1) j * (A i (n + 1) * det n fun a b => A (sk i a) (sk j b)))) := by
  show S (n + 1) (fun j => sg (n + 1 + j) * (A (n + 1) j * det (n + 1) fun i l => A i (sk j l))) + sg (n + 1 + (n + 1)) * (A (n + 1) (n + 1) * det (n + 1) fun i l => A i (sk (n + 1) l)) = _
  rw [sg_twice, omul, CR.add_comm]
  congr 1
  · congr 1
    exact det_congr fun i j _ hj => by rw [sk_lt hj]
  · refine S_congr fun j hj => ?_
    rw [← h1 fun i l => A i (sk j l)]
    simp only [det]
    rw [← S_mul, ← S_mul]
    refine S_congr fun i hi => ?_
    rw [sk_ge (show j ≤ n by omega)]
    rw [← h0 fun a b => A (sk i b) (sk j a)]
    rw [show n + 1 + j = n + j + 1 by omega, sg_succ, nmul]
    congr 1
    have e : sg (R := R) (n + j) * sg (n + i) = sg (i + j) := by rw [← sg_add]; exact sg_even (by omega)
    rw [← e]
    ac_rfl

theorem det_turn (n : Nat) : ∀ A : Nat → Nat → R, det n (fun i j => A j i) = det n A := by
  induction n using Nat.strongRecOn with
  | ind n ih =>
    match n with
    | 0 => intro A; rfl
    | 1 => intro A; simp only [det, S]
    | n + 2 =>
      intro A
      have h1 := ih (n + 1) (by omega)
      have h0 := ih n (by omega)
      rw [border_of _ h1 h0, border_of A h1 h0]
      rw [h1 A, S_comm]
      congr 1
      refine S_congr fun i _ => S_congr fun j _ => ?_
      rw [h0 fun a b => A (sk j a) (sk i b), Nat.add_comm i j]
      congr 1
      ac_rfl

theorem border (n : Nat) (A : Nat → Nat → R) :
    det (n + 2) A = A (n + 1) (n + 1) * det (n + 1) A + S (n + 1) fun j => S (n + 1) fun i => -(sg (i + j) * (A (n + 1) j * (A i (n + 1) * det n fun a b => A (sk i a) (sk j b)))) :=
  border_of A (det_turn (n + 1)) (det_turn n)

/-- Another column. -/
def upd (A : Nat → Nat → R) (c : Nat) (v : Nat → R) (i j : Nat) : R := if j = c then v i else A i j

theorem upd_minor_at (A : Nat → Nat → R) (c : Nat) (v : Nat → R) (n : Nat) : det n (fun i l => upd A c v i (sk c l)) = det n (fun i l => A i (sk c l)) :=
  det_congr fun i j _ _ => if_neg (by unfold sk; split <;> omega)

theorem upd_minor {A : Nat → Nat → R} {c j : Nat} (hne : j ≠ c) (v : Nat → R) (n : Nat) :
    det n (fun i l => upd A c v i (sk j l)) = det n (upd (fun i l => A i (sk j l)) (if j < c then c - 1 else c) v) := by
  refine det_congr fun i l _ _ => ?_
  unfold upd sk
  by_cases h : j < c
  · rw [if_pos h]; congr 1
    apply propext; split <;> omega
  · rw [if_neg h]; congr 1
    apply propext; split <;> omega

theorem det_lin (n : Nat) : ∀ (A : Nat → Nat → R) (c : Nat) (u v : Nat → R) (t : R), c < n → det n (upd A c fun i => u i + t * v i) = det n (upd A c u) + t * det n (upd A c v) := by
  induction n with
  | zero => intro A c u v t h; omega
  | succ n ih =>
    intro A c u v t hc
    simp only [det]
    rw [← S_mul, ← S_add]
    refine S_congr fun j hj => ?_
    by_cases e : j = c
    · subst e
      rw [upd_minor_at, upd_minor_at, upd_minor_at]
      unfold upd
      rw [if_pos rfl, if_pos rfl, if_pos rfl, amul, mula]
      congr 1
      ac_rfl
    · rw [upd_minor e, upd_minor e, upd_minor e, ih _ _ u v t (by split <;> omega)]
      unfold upd
      rw [if_neg e, if_neg e, if_neg e, mula, mula]
      congr 1
      ac_rfl

theorem det_next (n : Nat) : ∀ (A : Nat → Nat → R) (c : Nat), c + 1 < n → (∀ i, i < n → A i c = A i (c + 1)) → det n A = 0 := by
  induction n with
  | zero => intro A c h; omega
  | succ n ih =>
    intro A c hc h
    simp only [det]
    rw [S_two (k := c) hc]
    · have e1 : det n (fun i l => A i (sk c l)) = det n (fun i l => A i (sk (c + 1) l)) := by
        refine det_congr fun i l hi _ => ?_
        unfold sk
        by_cases h1 : l < c
        · rw [if_pos h1, if_pos (by omega)]
        · rw [if_neg h1]
          by_cases h2 : l = c
          · subst h2; rw [if_pos (by omega), h i (by omega)]
          · rw [if_neg (by omega)]
      rw [e1, h n (by omega), ← Nat.add_assoc, sg_succ, nmul, addn]
    · intro j hj h1 h2
      rw [ih (fun i l => A i (sk j l)) (if j < c then c - 1 else c) (by split <;> omega) ?_, mulz, mulz]
      intro i hi
      by_cases h3 : j < c
      · rw [if_pos h3, sk_ge (by omega), sk_ge (by omega), show c - 1 + 1 = c by omega]
        exact h i (by omega)
      · rw [if_neg h3, sk_lt (by omega), sk_lt (by omega)]
        exact h i (by omega)

theorem upd_same (A : Nat → Nat → R) (c i j : Nat) : upd A c (fun i => A i c) i j = A i j := by unfold upd; split <;> simp_all

theorem det_add (n : Nat) (A : Nat → Nat → R) (c : Nat) (u v : Nat → R) (hc : c < n) : det n (upd A c fun i => u i + v i) = det n (upd A c u) + det n (upd A c v) := by
  have h := det_lin n A c u v 1 hc
  rw [omul] at h
  rw [← h]
  exact det_congr fun i j _ _ => by unfold upd; split <;> simp only [omul]

/-- Two columns change places. -/
def swp (A : Nat → Nat → R) (c d i j : Nat) : R := if j = c then A i d else if j = d then A i c else A i j

theorem det_swap_next (n : Nat) (A : Nat → Nat → R) (c : Nat) (hc : c + 1 < n) : det n (swp A c (c + 1)) = -det n A := by
  have key : ∀ u v : Nat → R, det n (upd (upd A c fun i => u i) (c + 1) v) + det n (upd (upd A c v) (c + 1) u) = 0 := by
    intro u v
    have same : ∀ x : Nat → R, det n (upd (upd A c x) (c + 1) x) = 0 := fun x => by
      refine det_next n _ c hc fun i _ => ?_
      unfold upd
      rw [if_neg (by omega), if_pos rfl, if_pos rfl]
    have h := same fun i => u i + v i
    rw [det_add n _ (c + 1) u v hc] at h
    have sw : ∀ x y : Nat → R, det n (upd (upd A c x) (c + 1) y) = det n (upd (upd A (c + 1) y) c x) := fun x y => det_congr fun i j _ _ => by
      unfold upd; split <;> split <;> first | rfl | omega
    rw [sw _ u, sw _ v, det_add n _ c u v (by omega), det_add n _ c u v (by omega), ← sw, ← sw, ← sw, ← sw, same, same, zadd, addz] at h
    rw [CR.add_comm]
    exact h
  have h := key (fun i => A i c) (fun i => A i (c + 1))
  have e1 : det n (upd (upd A c fun i => A i c) (c + 1) fun i => A i (c + 1)) = det n A := det_congr fun i j _ _ => by unfold upd; split <;> simp_all
  have e2 : det n (upd (upd A c fun i => A i (c + 1)) (c + 1) fun i => A i c) = det n (swp A c (c + 1)) := det_congr fun i j _ _ => by
    unfold upd swp; split <;> split <;> first | rfl | omega
  rw [e1, e2] at h
  exact neg_of h

theorem det_same (n : Nat) : ∀ (d : Nat) (A : Nat → Nat → R) (c : Nat), c + d + 1 < n → (∀ i, i < n → A i c = A i (c + d + 1)) → det n A = 0 := by
  intro d
  induction d with
  | zero => intro A c hc h; exact det_next n A c hc h
  | succ d ih =>
    intro A c hc h
    have h1 := det_swap_next n A (c + d + 1) (by omega)
    have h2 : det n (swp A (c + d + 1) (c + d + 1 + 1)) = 0 := by
      refine ih _ c (by omega) fun i hi => ?_
      unfold swp
      rw [if_neg (by omega), if_neg (by omega), if_pos rfl]
      exact h i hi
    rw [h2] at h1
    rw [← nneg (det n A), ← h1, nzero]

/-- Two columns the same. -/
theorem det_equal (n : Nat) (A : Nat → Nat → R) (c d : Nat) (hc : c < n) (hd : d < n) (hne : c ≠ d) (h : ∀ i, i < n → A i c = A i d) : det n A = 0 := by
  rcases Nat.lt_or_gt_of_ne hne with hl | hl
  · obtain ⟨k, rfl⟩ : ∃ k, d = c + k + 1 := ⟨d - c - 1, by omega⟩
    exact det_same n k A c hd h
  · obtain ⟨k, rfl⟩ : ∃ k, c = d + k + 1 := ⟨c - d - 1, by omega⟩
    exact det_same n k A d hc fun i hi => (h i hi).symm

/-- A shear: columns of one kind get sums of columns of the other kind. -/
theorem det_shear (n : Nat) (A : Nat → Nat → R) (J : Nat → Bool) (T : Nat → Nat → R) :
    det n (fun i j => if J j then A i j + S n (fun k => if J k then 0 else T k j * A i k) else A i j) = det n A := by
  have key : ∀ m, m ≤ n → det n (fun i j => if J j && decide (j < m) then A i j + S n (fun k => if J k then 0 else T k j * A i k) else A i j) = det n A := by
    intro m
    induction m with
    | zero => intro _; exact det_congr fun i j _ _ => by simp
    | succ m ih =>
      intro hm
      rw [← ih (by omega)]
      cases hJ : J m with
      | false =>
        refine det_congr fun i j _ _ => ?_
        by_cases e : j = m
        · subst e; simp [hJ]
        · have : decide (j < m + 1) = decide (j < m) := by rw [Bool.eq_iff_iff]; simp; omega
          rw [this]
      | true =>
        have e1 : det n (fun i j => if J j && decide (j < m + 1) then A i j + S n (fun k => if J k then 0 else T k j * A i k) else A i j)
            = det n (upd (fun i j => if J j && decide (j < m) then A i j + S n (fun k => if J k then 0 else T k j * A i k) else A i j) m (fun i => A i m + S n (fun k => if J k then 0 else T k m * A i k))) := by
          refine det_congr fun i j _ _ => ?_
          unfold upd
          by_cases e : j = m
          · subst e; simp [hJ]
          · rw [if_neg e]
            have : decide (j < m + 1) = decide (j < m) := by rw [Bool.eq_iff_iff]; simp; omega
            rw [this]
        rw [e1]
        generalize hB : (fun i j => if J j && decide (j < m) then A i j + S n (fun k => if J k then 0 else T k j * A i k) else A i j) = B
        have hBm : ∀ i, B i m = A i m := fun i => by rw [← hB]; simp
        have hBk : ∀ i k, J k = false → B i k = A i k := fun i k hk => by rw [← hB]; simp [hk]
        have sums : ∀ q, q ≤ n → ∀ u : Nat → R, det n (upd B m fun i => u i + S q (fun k => if J k then 0 else T k m * A i k)) = det n (upd B m u) := by
          intro q
          induction q with
          | zero => intro _ u; exact det_congr fun i j _ _ => by unfold upd; split <;> simp only [S, addz]
          | succ q ihq =>
            intro hq u
            have e2 : det n (upd B m fun i => u i + S (q + 1) (fun k => if J k then 0 else T k m * A i k)) = det n (upd B m fun i => (u i + S q (fun k => if J k then 0 else T k m * A i k)) + (if J q then 0 else T q m) * A i q) := by
              refine det_congr fun i j _ _ => ?_
              unfold upd
              split
              · simp only [S]
                rw [CR.add_assoc]
                cases J q
                · rfl
                · simp only [if_true]; rw [zmul]
              · rfl
            rw [e2, det_lin n B m _ _ _ (by omega), ihq (by omega)]
            cases hq2 : J q with
            | true => simp only [if_true]; rw [zmul, addz]
            | false =>
              have hne : m ≠ q := by rintro rfl; rw [hJ] at hq2; cases hq2
              have hz : det n (upd B m fun i => A i q) = 0 := by
                refine det_equal n _ m q (by omega) (by omega) hne fun i _ => ?_
                unfold upd
                rw [if_pos rfl, if_neg (fun h => hne h.symm), hBk i q hq2]
              rw [hz, mulz, addz]
        rw [sums n (Nat.le_refl _)]
        refine det_congr fun i j _ _ => ?_
        unfold upd
        split
        · rename_i e; subst e; exact (hBm i).symm
        · rfl
  rw [← key n (Nat.le_refl _)]
  exact det_congr fun i j _ hj => by simp [hj]

/-- Nothing below on the left: the two parts' product. -/
theorem det_upper (p q : Nat) : ∀ N : Nat → Nat → R, (∀ i j, i < q → j < p → N (p + i) j = 0) → det (p + q) N = det p N * det q (fun i j => N (p + i) (p + j)) := by
  induction q with
  | zero => intro N _; show det p N = det p N * 1; rw [mulo]
  | succ q ih =>
    intro N h
    have e0 : det (p + (q + 1)) N = S (p + (q + 1)) fun j => sg (p + q + j) * (N (p + q) j * det (p + q) fun i l => N i (sk j l)) := rfl
    rw [e0, S_split]
    rw [S_zero fun j hj => by rw [h q j (by omega) hj, zmul, mulz], zadd]
    simp only [det]
    rw [← S_mul]
    refine S_congr fun j hj => ?_
    rw [ih (fun i l => N i (sk (p + j) l)) fun i l hi hl => by rw [sk_lt (by omega)]; exact h i l (by omega) hl]
    rw [det_congr (A := fun i l => N i (sk (p + j) l)) (B := N) fun i l _ hl => by rw [sk_lt (by omega)]]
    rw [det_congr (A := fun i l => N (p + i) (sk (p + j) (p + l))) (B := fun i l => N (p + i) (p + sk j l)) fun i l _ _ => by unfold sk; split <;> split <;> first | rfl | omega]
    have e : sg (R := R) (p + q + (p + j)) = sg (q + j) := sg_even (by omega)
    rw [e]
    ac_rfl

theorem det_lower (p q : Nat) (N : Nat → Nat → R) (h : ∀ i j, i < p → j < q → N i (p + j) = 0) : det (p + q) N = det p N * det q (fun i j => N (p + i) (p + j)) := by
  rw [← det_turn (p + q) N, det_upper p q (fun i j => N j i) fun i j hi hj => h j i hj hi, det_turn p N, det_turn q fun i j => N (p + i) (p + j)]

/-- The unit matrix. -/
def one (i j : Nat) : R := if i = j then 1 else 0

theorem det_one (n : Nat) : det n (one (R := R)) = 1 := by
  induction n with
  | zero => rfl
  | succ n ih =>
    simp only [det]
    rw [S_one (k := n) (by omega)]
    · rw [sg_twice, omul, show one (R := R) n n = 1 from if_pos rfl, omul, ← ih]
      exact det_congr fun i j _ hj => by rw [sk_lt hj]
    · intro j _ hne
      rw [show one (R := R) n j = 0 from if_neg (by omega), zmul, mulz]

/-- The product. -/
def mul (n : Nat) (A B : Nat → Nat → R) (i j : Nat) : R := S n fun k => A i k * B k j

theorem S_one_l {n i : Nat} (hi : i < n) (f : Nat → R) : S n (fun k => one i k * f k) = f i := by
  rw [S_one (k := i) hi]
  · rw [show one (R := R) i i = 1 from if_pos rfl, omul]
  · intro k _ hne
    rw [show one (R := R) i k = 0 from if_neg (fun h => hne h.symm), zmul]

theorem S_one_r {n j : Nat} (hj : j < n) (f : Nat → R) : S n (fun k => f k * one k j) = f j := by
  rw [S_one (k := j) hj]
  · rw [show one (R := R) j j = 1 from if_pos rfl, mulo]
  · intro k _ hne
    rw [show one (R := R) k j = 0 from if_neg hne, mulz]

/-- Four parts. -/
def blk (n : Nat) (A B C D : Nat → Nat → R) (i j : Nat) : R :=
  if i < n then (if j < n then A i j else B i (j - n)) else (if j < n then C (i - n) j else D (i - n) (j - n))

theorem blk00 {n i j : Nat} {A B C D : Nat → Nat → R} (hi : i < n) (hj : j < n) : blk n A B C D i j = A i j := by unfold blk; rw [if_pos hi, if_pos hj]
theorem blk01 {n i j : Nat} {A B C D : Nat → Nat → R} (hi : i < n) : blk n A B C D i (n + j) = B i j := by unfold blk; rw [if_pos hi, if_neg (by omega), Nat.add_sub_cancel_left]
theorem blk10 {n i j : Nat} {A B C D : Nat → Nat → R} (hj : j < n) : blk n A B C D (n + i) j = C i j := by unfold blk; rw [if_neg (by omega), if_pos hj, Nat.add_sub_cancel_left]
theorem blk11 {n i j : Nat} {A B C D : Nat → Nat → R} : blk n A B C D (n + i) (n + j) = D i j := by unfold blk; rw [if_neg (by omega), if_neg (by omega), Nat.add_sub_cancel_left, Nat.add_sub_cancel_left]

theorem blk_cases {n : Nat} {P : Nat → Nat → Prop} (h00 : ∀ i j, i < n → j < n → P i j) (h01 : ∀ i j, i < n → j < n → P i (n + j)) (h10 : ∀ i j, i < n → j < n → P (n + i) j) (h11 : ∀ i j, i < n → j < n → P (n + i) (n + j)) :
    ∀ i j, i < n + n → j < n + n → P i j := by
  intro i j hi hj
  rcases Nat.lt_or_ge i n with h1 | h1
  · rcases Nat.lt_or_ge j n with h2 | h2
    · exact h00 i j h1 h2
    · obtain ⟨k, rfl⟩ : ∃ k, j = n + k := ⟨j - n, by omega⟩
      exact h01 i k h1 (by omega)
  · obtain ⟨k, rfl⟩ : ∃ k, i = n + k := ⟨i - n, by omega⟩
    rcases Nat.lt_or_ge j n with h2 | h2
    · exact h10 k j (by omega) h2
    · obtain ⟨l, rfl⟩ : ∃ l, j = n + l := ⟨j - n, by omega⟩
      exact h11 k l (by omega) (by omega)

/-- To the columns on the right, sums of those on the left. -/
theorem shear_right (n : Nat) (A B C D T : Nat → Nat → R) : det (n + n) (blk n A B C D) = det (n + n) (blk n A (fun i j => B i j + mul n A T i j) C (fun i j => D i j + mul n C T i j)) := by
  rw [← det_shear (n + n) (blk n A B C D) (fun j => decide (n ≤ j)) (fun k j => T k (j - n))]
  refine det_congr (blk_cases ?_ ?_ ?_ ?_)
  · intro i j hi hj; simp only [decide_eq_true_eq]; rw [if_neg (by omega), blk00 hi hj, blk00 hi hj]
  · intro i j hi hj
    simp only [decide_eq_true_eq]
    rw [if_pos (by omega), blk01 hi, blk01 hi, S_split]
    congr 1
    rw [S_zero (n := n) (f := fun k => if n ≤ n + k then 0 else T (n + k) (n + j - n) * blk n A B C D i (n + k)) fun k _ => if_pos (by omega), addz]
    refine S_congr fun k hk => ?_
    rw [if_neg (by omega), blk00 hi hk, Nat.add_sub_cancel_left, CR.mul_comm]
  · intro i j hi hj; simp only [decide_eq_true_eq]; rw [if_neg (by omega), blk10 hj, blk10 hj]
  · intro i j hi hj
    simp only [decide_eq_true_eq]
    rw [if_pos (by omega), blk11, blk11, S_split]
    congr 1
    rw [S_zero (n := n) (f := fun k => if n ≤ n + k then 0 else T (n + k) (n + j - n) * blk n A B C D (n + i) (n + k)) fun k _ => if_pos (by omega), addz]
    refine S_congr fun k hk => ?_
    rw [if_neg (by omega), blk10 hk, Nat.add_sub_cancel_left, CR.mul_comm]

/-- To the columns on the left, sums of those on the right. -/
theorem shear_left (n : Nat) (A B C D T : Nat → Nat → R) : det (n + n) (blk n A B C D) = det (n + n) (blk n (fun i j => A i j + mul n B T i j) B (fun i j => C i j + mul n D T i j) D) := by
  rw [← det_shear (n + n) (blk n A B C D) (fun j => decide (j < n)) (fun k j => T (k - n) j)]
  refine det_congr (blk_cases ?_ ?_ ?_ ?_)
  · intro i j hi hj
    simp only [decide_eq_true_eq]
    rw [if_pos hj, blk00 hi hj, blk00 hi hj, S_split]
    congr 1
    rw [S_zero (n := n) (f := fun k => if k < n then 0 else T (k - n) j * blk n A B C D i k) fun k hk => if_pos hk, zadd]
    refine S_congr fun k hk => ?_
    rw [if_neg (by omega), blk01 hi, Nat.add_sub_cancel_left, CR.mul_comm]
  · intro i j hi hj; simp only [decide_eq_true_eq]; rw [if_neg (by omega), blk01 hi, blk01 hi]
  · intro i j hi hj
    simp only [decide_eq_true_eq]
    rw [if_pos hj, blk10 hj, blk10 hj, S_split]
    congr 1
    rw [S_zero (n := n) (f := fun k => if k < n then 0 else T (k - n) j * blk n A B C D (n + i) k) fun k hk => if_pos hk, zadd]
    refine S_congr fun k hk => ?_
    rw [if_neg (by omega), blk11, Nat.add_sub_cancel_left, CR.mul_comm]
  · intro i j hi hj; simp only [decide_eq_true_eq]; rw [if_neg (by omega), blk11, blk11]

theorem blk_upper (n : Nat) (A B C D : Nat → Nat → R) (h : ∀ i j, i < n → j < n → C i j = 0) : det (n + n) (blk n A B C D) = det n A * det n D := by
  rw [det_upper n n _ fun i j hi hj => by rw [blk10 hj]; exact h i j hi hj]
  rw [det_congr (B := A) fun _ _ hi hj => blk00 hi hj]
  congr 1
  exact det_congr fun i j _ _ => blk11

theorem blk_lower (n : Nat) (A B C D : Nat → Nat → R) (h : ∀ i j, i < n → j < n → B i j = 0) : det (n + n) (blk n A B C D) = det n A * det n D := by
  rw [det_lower n n _ fun i j hi hj => by rw [blk01 hi]; exact h i j hi hj]
  rw [det_congr (B := A) fun _ _ hi hj => blk00 hi hj]
  congr 1
  exact det_congr fun i j _ _ => blk11

theorem mul_one_r {n i j : Nat} (hj : j < n) (A : Nat → Nat → R) : mul n A one i j = A i j := S_one_r hj _
theorem mul_one_l {n i j : Nat} (hi : i < n) (A : Nat → Nat → R) : mul n one A i j = A i j := S_one_l hi _
theorem mul_neg_r {n : Nat} (A B : Nat → Nat → R) (i j : Nat) : mul n A (fun i j => -B i j) i j = -mul n A B i j := by
  unfold mul; rw [← S_neg]; exact S_congr fun k _ => muln _ _
theorem mul_neg_l {n : Nat} (A B : Nat → Nat → R) (i j : Nat) : mul n (fun i j => -A i j) B i j = -mul n A B i j := by
  unfold mul; rw [← S_neg]; exact S_congr fun k _ => nmul _ _
theorem mul_congr {n : Nat} {A A' B B' : Nat → Nat → R} {i j : Nat} (hA : ∀ k, k < n → A i k = A' i k) (hB : ∀ k, k < n → B k j = B' k j) : mul n A B i j = mul n A' B' i j :=
  S_congr fun k hk => by rw [hA k hk, hB k hk]
theorem mul_add_l {n : Nat} (A A' B : Nat → Nat → R) (i j : Nat) : mul n (fun i j => A i j + A' i j) B i j = mul n A B i j + mul n A' B i j := by
  unfold mul; rw [← S_add]; exact S_congr fun k _ => amul _ _ _
theorem mul_add_r {n : Nat} (A B B' : Nat → Nat → R) (i j : Nat) : mul n A (fun i j => B i j + B' i j) i j = mul n A B i j + mul n A B' i j := by
  unfold mul; rw [← S_add]; exact S_congr fun k _ => mula _ _ _
theorem mul_mul (n : Nat) (A B C : Nat → Nat → R) (i j : Nat) : mul n (mul n A B) C i j = mul n A (mul n B C) i j := by
  unfold mul
  rw [S_congr (g := fun k => S n fun l => A i l * (B l k * C k j)) fun k _ => by rw [← S_mulr]; exact S_congr fun l _ => CR.mul_assoc _ _ _]
  rw [S_comm]
  exact S_congr fun l _ => S_mul _ _ _
theorem mul_turn (n : Nat) (A B : Nat → Nat → R) (i j : Nat) : mul n (fun i j => B j i) (fun i j => A j i) i j = mul n A B j i := S_congr fun k _ => CR.mul_comm _ _

/-- Cauchy: determinants are multiplied. -/
theorem det_mul (n : Nat) (A B : Nat → Nat → R) : det n (mul n A B) = det n A * det n B := by
  have h0 : det (n + n) (blk n A (fun _ _ => 0) (fun i j => -one i j) B) = det n A * det n B := blk_lower n _ _ _ _ fun _ _ _ _ => rfl
  have h1 : det (n + n) (blk n A (fun _ _ => 0) (fun i j => -one i j) B) = det (n + n) (blk n A (mul n A B) (fun i j => -one i j) fun _ _ => 0) := by
    rw [shear_right n _ _ _ _ B]
    refine det_congr (blk_cases ?_ ?_ ?_ ?_)
    · intro i j hi hj; rw [blk00 hi hj, blk00 hi hj]
    · intro i j hi hj; rw [blk01 hi, blk01 hi, zadd]
    · intro i j hi hj; rw [blk10 hj, blk10 hj]
    · intro i j hi hj; rw [blk11, blk11, mul_neg_l, mul_one_l hi, addn]
  have turn : ∀ P Q U V : Nat → Nat → R, det (n + n) (blk n P Q U V) = det (n + n) (blk n Q (fun i j => -P i j) V fun i j => -U i j) := by
    intro P Q U V
    rw [shear_left n P Q U V one, shear_right n _ Q _ V fun i j => -one i j, shear_left n _ _ _ _ one]
    refine det_congr (blk_cases ?_ ?_ ?_ ?_)
    · intro i j hi hj
      rw [blk00 hi hj, blk00 hi hj, mul_one_r hj, mul_one_r hj, mul_neg_r, mul_one_r hj, mul_one_r hj, nadd2]
      rw [show P i j + Q i j + (Q i j + (-P i j + -Q i j)) = Q i j + ((P i j + -P i j) + (Q i j + -Q i j)) by ac_rfl, addn, addn, addz, addz]
    · intro i j hi hj
      rw [blk01 hi, blk01 hi, mul_neg_r, mul_one_r hj, mul_one_r hj, nadd2]
      rw [show Q i j + (-P i j + -Q i j) = -P i j + (Q i j + -Q i j) by ac_rfl, addn, addz]
    · intro i j hi hj
      rw [blk10 hj, blk10 hj, mul_one_r hj, mul_one_r hj, mul_neg_r, mul_one_r hj, mul_one_r hj, nadd2]
      rw [show U i j + V i j + (V i j + (-U i j + -V i j)) = V i j + ((U i j + -U i j) + (V i j + -V i j)) by ac_rfl, addn, addn, addz, addz]
    · intro i j hi hj
      rw [blk11, blk11, mul_neg_r, mul_one_r hj, mul_one_r hj, nadd2]
      rw [show V i j + (-U i j + -V i j) = -U i j + (V i j + -V i j) by ac_rfl, addn, addz]
  rw [h1, turn, blk_upper n _ _ _ _ fun _ _ _ _ => rfl] at h0
  rw [det_congr (A := fun i j => - -one i j) (B := one) fun i j _ _ => nneg _, det_one, mulo] at h0
  exact h0

/-- Sylvester: 1 - X Y and 1 - Y X. -/
theorem det_sylvester (n : Nat) (X Y : Nat → Nat → R) : det n (fun i j => one i j + -mul n X Y i j) = det n (fun i j => one i j + -mul n Y X i j) := by
  have h1 : det (n + n) (blk n one X Y one) = det n (fun i j => one i j + -mul n X Y i j) := by
    rw [shear_left n _ _ _ _ fun i j => -Y i j, blk_upper]
    · rw [det_one, mulo]; exact det_congr fun i j _ _ => by rw [mul_neg_r]
    · intro i j hi hj; rw [mul_neg_r, mul_one_l hi, addn]
  have h2 : det (n + n) (blk n one X Y one) = det n (fun i j => one i j + -mul n Y X i j) := by
    rw [shear_right n _ _ _ _ fun i j => -X i j, blk_lower]
    · rw [det_one, omul]; exact det_congr fun i j _ _ => by rw [mul_neg_r]
    · intro i j hi hj; rw [mul_neg_r, mul_one_l hi, addn]
  rw [← h1, h2]

/-- Rows: as columns. -/
def updr (A : Nat → Nat → R) (r : Nat) (v : Nat → R) (i j : Nat) : R := if i = r then v j else A i j

theorem updr_turn (A : Nat → Nat → R) (r : Nat) (v : Nat → R) (n : Nat) : det n (updr A r v) = det n (upd (fun i j => A j i) r v) := by
  rw [← det_turn n (updr A r v)]; rfl

theorem det_lin_row (n : Nat) (A : Nat → Nat → R) (r : Nat) (u v : Nat → R) (t : R) (hr : r < n) : det n (updr A r fun j => u j + t * v j) = det n (updr A r u) + t * det n (updr A r v) := by
  rw [updr_turn, updr_turn, updr_turn]; exact det_lin n _ r u v t hr

theorem det_equal_row (n : Nat) (A : Nat → Nat → R) (c d : Nat) (hc : c < n) (hd : d < n) (hne : c ≠ d) (h : ∀ j, j < n → A c j = A d j) : det n A = 0 := by
  rw [← det_turn n A]; exact det_equal n _ c d hc hd hne h

/-- Any two columns change places. -/
theorem det_swap (n : Nat) (A : Nat → Nat → R) (c d : Nat) (hc : c < n) (hd : d < n) (hne : c ≠ d) : det n (swp A c d) = -det n A := by
  have same : ∀ x : Nat → R, det n (upd (upd A c x) d x) = 0 := fun x => det_equal n _ c d hc hd hne fun i _ => by
    unfold upd; rw [if_neg hne, if_pos rfl, if_pos rfl]
  have sw : ∀ x y : Nat → R, det n (upd (upd A c x) d y) = det n (upd (upd A d y) c x) := fun x y => det_congr fun i j _ _ => by
    unfold upd; split <;> split <;> first | rfl | omega
  have h := same fun i => A i c + A i d
  rw [det_add n _ d _ _ hd, sw _ fun i => A i c, sw _ fun i => A i d, det_add n _ c _ _ hc, det_add n _ c _ _ hc, ← sw, ← sw, ← sw, ← sw, same, same, zadd, addz] at h
  have e1 : det n (upd (upd A c fun i => A i c) d fun i => A i d) = det n A := det_congr fun i j _ _ => by unfold upd; split <;> simp_all
  have e2 : det n (upd (upd A c fun i => A i d) d fun i => A i c) = det n (swp A c d) := det_congr fun i j _ _ => by
    unfold upd swp; split <;> split <;> first | rfl | omega
  rw [e1, e2, CR.add_comm] at h
  exact neg_of h

def swpr (A : Nat → Nat → R) (c d i j : Nat) : R := if i = c then A d j else if i = d then A c j else A i j

theorem det_swap_row (n : Nat) (A : Nat → Nat → R) (c d : Nat) (hc : c < n) (hd : d < n) (hne : c ≠ d) : det n (swpr A c d) = -det n A := by
  rw [← det_turn n (swpr A c d), ← det_turn n A]; exact det_swap n _ c d hc hd hne

/-- By whatever row. -/
theorem det_row (n : Nat) : ∀ (d : Nat) (A : Nat → Nat → R) (r : Nat), r + d = n → det (n + 1) A = S (n + 1) fun j => sg (r + j) * (A r j * det n fun a b => A (sk r a) (sk j b)) := by
  intro d
  induction d with
  | zero =>
    intro A r hr
    obtain rfl : r = n := by omega
    simp only [det]
    refine S_congr fun j _ => ?_
    congr 2
    exact det_congr fun a b ha _ => by rw [sk_lt (k := r) ha]
  | succ d ih =>
    intro A r hr
    have h1 := det_swap_row (n + 1) A r (r + 1) (by omega) (by omega) (by omega)
    rw [ih (swpr A r (r + 1)) (r + 1) (by omega)] at h1
    rw [← nneg (det (n + 1) A), ← h1, ← S_neg]
    refine S_congr fun j _ => ?_
    rw [show r + 1 + j = r + j + 1 by omega, sg_succ, nmul, nneg]
    congr 2
    · unfold swpr; rw [if_neg (by omega), if_pos rfl]
    · refine det_congr fun a b _ _ => ?_
      unfold swpr sk
      by_cases h2 : a < r
      · simp only [if_pos h2, if_pos (show a < r + 1 by omega)]; rw [if_neg (by omega), if_neg (by omega)]
      · by_cases h3 : a = r
        · subst h3; simp
        · simp only [if_neg h2, if_neg (show ¬ a < r + 1 by omega)]; rw [if_neg (by omega), if_neg (by omega)]

/-- The adjugate. -/
def adj (n : Nat) (A : Nat → Nat → R) (i j : Nat) : R := sg (i + j) * det (n - 1) fun a b => A (sk j a) (sk i b)

theorem adj_turn (n : Nat) (A : Nat → Nat → R) (i j : Nat) : adj n (fun i j => A j i) i j = adj n A j i := by
  unfold adj
  rw [Nat.add_comm, det_turn (n - 1) fun a b => A (sk i a) (sk j b)]

/-- Laplace. -/
theorem mul_adj {n : Nat} (A : Nat → Nat → R) (i k : Nat) (hi : i < n) (hk : k < n) : mul n A (adj n A) i k = if i = k then det n A else 0 := by
  obtain ⟨m, rfl⟩ : ∃ m, n = m + 1 := ⟨n - 1, by omega⟩
  have key : ∀ B : Nat → Nat → R, S (m + 1) (fun j => B k j * (sg (j + k) * det m fun a b => B (sk k a) (sk j b))) = det (m + 1) B := by
    intro B
    rw [det_row m (m - k) B k (by omega)]
    refine S_congr fun j _ => ?_
    rw [Nat.add_comm j k]
    ac_rfl
  unfold mul adj
  by_cases e : i = k
  · subst e; rw [if_pos rfl]; exact key A
  · rw [if_neg e]
    have h := key (updr A k (A i))
    rw [det_equal_row (m + 1) _ k i hk hi (fun h => e h.symm) fun j _ => by unfold updr; rw [if_pos rfl, if_neg e]] at h
    rw [← h]
    refine S_congr fun j _ => ?_
    rw [show updr A k (A i) k j = A i j from if_pos rfl]
    congr 2
    exact det_congr fun a b _ _ => (if_neg (by unfold sk; split <;> omega)).symm

theorem adj_mul {n : Nat} (A : Nat → Nat → R) (i k : Nat) (hi : i < n) (hk : k < n) : mul n (adj n A) A i k = if i = k then det n A else 0 := by
  have h := mul_adj (fun i j => A j i) k i hk hi
  rw [det_turn n A] at h
  rw [show mul n (adj n A) A i k = mul n (fun i j => A j i) (adj n fun i j => A j i) k i by
    rw [← mul_turn]; exact mul_congr (fun _ _ => rfl) fun l _ => (adj_turn n A l i).symm]
  rw [h]
  by_cases e : i = k
  · rw [if_pos e, if_pos e.symm]
  · rw [if_neg e, if_neg fun h => e h.symm]

end
end Go.Proofs.YtcenhemlgapkeaaDoor.Mx

/- Power series over the whole numbers are a commutative ring; the characteristic of a matrix by Berkowitz' way; Cayley and Hamilton; the adjugate by the characteristic. No program in sight; no condition. -/
namespace Go.Proofs.YtcenhemlgapkeaaDoor.Mx

instance : CR Int := ⟨Int.add_assoc, Int.add_comm, Int.zero_add, Int.add_left_neg, Int.mul_assoc, Int.mul_comm, Int.one_mul, Int.add_mul⟩

/-- A power series. -/
structure PS where
  co : Nat → Int

theorem PS.ext {f g : PS} (h : ∀ k, f.co k = g.co k) : f = g := by
  cases f; cases g; congr 1; exact funext h

instance : Add PS := ⟨fun f g => ⟨fun k => f.co k + g.co k⟩⟩
instance : Neg PS := ⟨fun f => ⟨fun k => -f.co k⟩⟩
instance : Mul PS := ⟨fun f g => ⟨fun k => S (k + 1) fun i => f.co i * g.co (k - i)⟩⟩
instance : OfNat PS 0 := ⟨⟨fun _ => 0⟩⟩
instance : OfNat PS 1 := ⟨⟨fun k => if k = 0 then 1 else 0⟩⟩

theorem co_add (f g : PS) (k : Nat) : (f + g).co k = f.co k + g.co k := rfl
theorem co_neg (f : PS) (k : Nat) : (-f).co k = -f.co k := rfl
theorem co_mul (f g : PS) (k : Nat) : (f * g).co k = S (k + 1) fun i => f.co i * g.co (k - i) := rfl
theorem co_zero (k : Nat) : (0 : PS).co k = 0 := rfl
theorem co_one (k : Nat) : (1 : PS).co k = if k = 0 then 1 else 0 := rfl

theorem S_rev (n : Nat) (f : Nat → Int) : S (n + 1) f = S (n + 1) fun i => f (n - i) := by
  induction n generalizing f with
  | zero => rfl
  | succ n ih =>
    rw [S_head (n + 1) f, show S (n + 1 + 1) (fun i => f (n + 1 - i)) = S (n + 1) (fun i => f (n + 1 - i)) + f (n + 1 - (n + 1)) from rfl, ih fun k => f (k + 1), Int.add_comm]
    congr 1
    · exact S_congr fun i hi => by rw [show n - i + 1 = n + 1 - i by omega]
    · rw [Nat.sub_self]

theorem S_tri (k : Nat) (F : Nat → Nat → Int) : S (k + 1) (fun i => S (i + 1) fun j => F i j) = S (k + 1) fun j => S (k - j + 1) fun l => F (j + l) j := by
  induction k with
  | zero => rfl
  | succ k ih =>
    rw [show S (k + 1 + 1) (fun i => S (i + 1) fun j => F i j) = S (k + 1) (fun i => S (i + 1) fun j => F i j) + S (k + 1 + 1) (fun j => F (k + 1) j) from rfl, ih]
    rw [show S (k + 1 + 1) (fun j => F (k + 1) j) = S (k + 1) (fun j => F (k + 1) j) + F (k + 1) (k + 1) from rfl, ← Int.add_assoc, ← S_add]
    rw [show S (k + 1 + 1) (fun j => S (k + 1 - j + 1) fun l => F (j + l) j) = S (k + 1) (fun j => S (k + 1 - j + 1) fun l => F (j + l) j) + S (k + 1 - (k + 1) + 1) (fun l => F (k + 1 + l) (k + 1)) from rfl]
    congr 1
    · refine S_congr fun j hj => ?_
      rw [show k + 1 - j + 1 = k - j + 1 + 1 by omega, show S (k - j + 1 + 1) (fun l => F (j + l) j) = S (k - j + 1) (fun l => F (j + l) j) + F (j + (k - j + 1)) j from rfl, show j + (k - j + 1) = k + 1 by omega]
    · rw [Nat.sub_self]; exact (Int.zero_add _).symm

instance : CR PS where
  add_assoc a b c := PS.ext fun k => Int.add_assoc _ _ _
  add_comm a b := PS.ext fun k => Int.add_comm _ _
  zero_add a := PS.ext fun k => Int.zero_add _
  neg_add a := PS.ext fun k => Int.add_left_neg _
  mul_assoc a b c := PS.ext fun k => by
    rw [co_mul, co_mul]
    rw [S_congr (g := fun i => S (i + 1) fun j => a.co j * (b.co (i - j) * c.co (k - i))) fun i _ => by
      rw [co_mul, ← S_mulr]; exact S_congr fun j _ => Int.mul_assoc _ _ _]
    rw [S_tri k fun i j => a.co j * (b.co (i - j) * c.co (k - i))]
    refine S_congr fun j _ => ?_
    rw [co_mul, ← S_mul]
    exact S_congr fun l _ => by rw [show j + l - j = l by omega, show k - (j + l) = k - j - l by omega]
  mul_comm a b := PS.ext fun k => by
    rw [co_mul, co_mul, S_rev]
    exact S_congr fun i hi => by rw [show k - (k - i) = i by omega, Int.mul_comm]
  one_mul a := PS.ext fun k => by
    rw [co_mul, S_one (k := 0) (by omega)]
    · rw [co_one, if_pos rfl, Int.one_mul]; rfl
    · intro i _ hne; rw [co_one, if_neg hne, Int.zero_mul]
  add_mul a b c := PS.ext fun k => by
    rw [co_add, co_mul, co_mul, co_mul, ← S_add]
    exact S_congr fun i _ => Int.add_mul _ _ _

theorem co_S (n : Nat) (f : Nat → PS) (k : Nat) : (S n f).co k = S n fun i => (f i).co k := by
  induction n with
  | zero => rfl
  | succ n ih => simp only [S]; rw [co_add, ih]

theorem co_sg (m : Nat) (f : PS) (k : Nat) : (sg m * f).co k = sg m * f.co k := by
  unfold sg
  split
  · rw [omul, Int.one_mul]
  · rw [nmul, omul, co_neg]; omega

/-- Two numbers alone. -/
def lin (a b : Int) : PS := ⟨fun k => if k = 0 then a else if k = 1 then b else 0⟩

theorem co_lin_zero (a b : Int) (f : PS) : (lin a b * f).co 0 = a * f.co 0 := by
  rw [co_mul]; simp only [S]; exact Int.zero_add _
theorem co_lin_succ (a b : Int) (f : PS) (k : Nat) : (lin a b * f).co (k + 1) = a * f.co (k + 1) + b * f.co k := by
  rw [co_mul, S_two (k := 0) (by omega)]
  · rfl
  · intro i _ h0 h1
    rw [show (lin a b).co i = 0 by unfold lin; simp only; rw [if_neg h0, if_neg (by omega)], Int.zero_mul]

def Lin (P Q : Nat → Nat → Int) (i j : Nat) : PS := lin (P i j) (Q i j)

theorem det_lin_over (n : Nat) : ∀ (P Q : Nat → Nat → Int) (k : Nat), n < k → (det n (Lin P Q)).co k = 0 := by
  induction n with
  | zero => intro P Q k hk; exact if_neg (by omega)
  | succ n ih =>
    intro P Q k hk
    obtain ⟨k, rfl⟩ : ∃ l, k = l + 1 := ⟨k - 1, by omega⟩
    simp only [det]
    rw [co_S]
    refine S_zero fun j _ => ?_
    have h := fun k hk => ih (fun i l => P i (sk j l)) (fun i l => Q i (sk j l)) k hk
    have h1 : (det n fun i l => Lin P Q i (sk j l)).co (k + 1) = 0 := h _ (by omega)
    have h2 : (det n fun i l => Lin P Q i (sk j l)).co k = 0 := h _ (by omega)
    rw [co_sg]
    unfold Lin at h1 h2 ⊢
    rw [co_lin_succ, h1, h2, Int.mul_zero, Int.mul_zero, Int.add_zero, Int.mul_zero]

theorem det_lin_top (n : Nat) : ∀ P Q : Nat → Nat → Int, (det n (Lin P Q)).co n = det n Q := by
  induction n with
  | zero => intro P Q; rfl
  | succ n ih =>
    intro P Q
    simp only [det]
    rw [co_S]
    refine S_congr fun j _ => ?_
    have h1 : (det n fun i l => Lin P Q i (sk j l)).co (n + 1) = 0 := det_lin_over n (fun i l => P i (sk j l)) (fun i l => Q i (sk j l)) _ (by omega)
    have h2 : (det n fun i l => Lin P Q i (sk j l)).co n = det n fun i l => Q i (sk j l) := ih (fun i l => P i (sk j l)) (fun i l => Q i (sk j l))
    rw [co_sg]
    unfold Lin at h1 h2 ⊢
    rw [co_lin_succ, h1, h2, Int.mul_zero, Int.zero_add]

theorem det_lin_low (n : Nat) : ∀ P Q : Nat → Nat → Int, (det n (Lin P Q)).co 0 = det n P := by
  induction n with
  | zero => intro P Q; rfl
  | succ n ih =>
    intro P Q
    simp only [det]
    rw [co_S]
    refine S_congr fun j _ => ?_
    have h2 : (det n fun i l => Lin P Q i (sk j l)).co 0 = det n fun i l => P i (sk j l) := ih (fun i l => P i (sk j l)) (fun i l => Q i (sk j l))
    rw [co_sg]
    unfold Lin at h2 ⊢
    rw [co_lin_zero, h2]

theorem det_neg (n : Nat) (A : Nat → Nat → Int) : det n (fun i j => -A i j) = sg n * det n A := by
  induction n generalizing A with
  | zero => rfl
  | succ n ih =>
    simp only [det]
    rw [← S_mul]
    refine S_congr fun j _ => ?_
    rw [ih fun i l => A i (sk j l), sg_succ]
    simp only [nmul, muln]
    congr 1
    ac_rfl

/-- 1 less x times the matrix. -/
def IX (A : Nat → Nat → Int) : Nat → Nat → PS := Lin one fun i j => -A i j

/-- Its determinant's numbers: the characteristic, the greatest power's first. -/
def chi (n : Nat) (A : Nat → Nat → Int) : PS := det n (IX A)

theorem chi_over {n k : Nat} (A : Nat → Nat → Int) (h : n < k) : (chi n A).co k = 0 := det_lin_over n _ _ k h
theorem chi_zero (n : Nat) (A : Nat → Nat → Int) : (chi n A).co 0 = 1 := by rw [chi, IX, det_lin_low, det_one]
theorem chi_top (n : Nat) (A : Nat → Nat → Int) : (chi n A).co n = sg n * det n A := by rw [chi, IX, det_lin_top, det_neg]

theorem chi_congr {n : Nat} {A B : Nat → Nat → Int} (h : ∀ i j, i < n → j < n → A i j = B i j) : chi n A = chi n B :=
  det_congr fun i j hi hj => by show lin (one i j) (-A i j) = lin (one i j) (-B i j); rw [h i j hi hj]

theorem chi_turn (n : Nat) (A : Nat → Nat → Int) : chi n (fun i j => A j i) = chi n A := by
  unfold chi
  rw [← det_turn n (IX A)]
  refine det_congr fun i j _ _ => ?_
  unfold IX Lin one
  simp only [eq_comm]

/-- Powers of a matrix. -/
def pw (n : Nat) (A : Nat → Nat → Int) : Nat → Nat → Nat → Int
  | 0 => one
  | k + 1 => mul n A (pw n A k)

theorem pw_one {n i j : Nat} (hj : j < n) (A : Nat → Nat → Int) : pw n A 1 i j = A i j := mul_one_r hj A

/-- Their series. -/
def G (n : Nat) (A : Nat → Nat → Int) (i j : Nat) : PS := ⟨fun k => pw n A k i j⟩

theorem IX_G {n : Nat} (A : Nat → Nat → Int) (i j : Nat) (hi : i < n) : mul n (IX A) (G n A) i j = one i j := by
  refine PS.ext fun k => ?_
  unfold mul
  rw [co_S]
  unfold IX Lin
  cases k with
  | zero =>
    rw [S_congr (g := fun l => one i l * one l j) fun l _ => co_lin_zero _ _ _, S_one_l hi]
    unfold one; split <;> rfl
  | succ k =>
    rw [S_congr (g := fun l => one i l * pw n A (k + 1) l j + -(A i l * pw n A k l j)) fun l _ => by rw [co_lin_succ, Int.neg_mul]; rfl]
    rw [S_add, S_one_l hi, S_neg]
    show mul n A (pw n A k) i j + -mul n A (pw n A k) i j = _
    rw [Int.add_right_neg]
    unfold one; split <;> rfl

/-- The adjugate of that one. -/
theorem adj_IX {n : Nat} (A : Nat → Nat → Int) (i j : Nat) (hi : i < n) (hj : j < n) : adj n (IX A) i j = chi n A * G n A i j := by
  have h1 : mul n (adj n (IX A)) (mul n (IX A) (G n A)) i j = adj n (IX A) i j := by
    rw [mul_congr (A' := adj n (IX A)) (B' := one) (fun _ _ => rfl) fun l hl => IX_G A l j hl, mul_one_r hj]
  rw [← h1, ← mul_mul]
  unfold mul
  rw [S_one (k := i) hi]
  · have := adj_mul (IX A) i i hi hi
    unfold mul at this
    rw [this, if_pos rfl]; rfl
  · intro l hl hne
    have := adj_mul (IX A) i l hi hl
    unfold mul at this
    rw [this, if_neg (fun h => hne h.symm), zmul]

theorem adj_IX_co {n : Nat} (A : Nat → Nat → Int) (i j k : Nat) (hi : i < n) (hj : j < n) : S (k + 1) (fun t => (chi n A).co t * pw n A (k - t) i j) = (adj n (IX A) i j).co k := by
  rw [adj_IX A i j hi hj, co_mul]; rfl

theorem adj_lin {n : Nat} (A : Nat → Nat → Int) (i j : Nat) : adj n (IX A) i j = sg (i + j) * det (n - 1) (Lin (fun a b => one (sk j a) (sk i b)) fun a b => -A (sk j a) (sk i b)) := rfl

/-- Cayley and Hamilton. -/
theorem hamilton {n : Nat} (A : Nat → Nat → Int) (i j : Nat) (hi : i < n) (hj : j < n) : S (n + 1) (fun t => (chi n A).co t * pw n A (n - t) i j) = 0 := by
  rw [adj_IX_co A i j n hi hj, adj_lin, co_sg, det_lin_over (n - 1) _ _ n (by omega), Int.mul_zero]

theorem adj_chi {n : Nat} (A : Nat → Nat → Int) (i j : Nat) (hi : i < n) (hj : j < n) : S n (fun t => (chi n A).co t * pw n A (n - 1 - t) i j) = sg (n - 1) * adj n A i j := by
  have h := adj_IX_co A i j (n - 1) hi hj
  rw [adj_lin, co_sg, det_lin_top, det_neg] at h
  rw [show n - 1 + 1 = n by omega] at h
  rw [h]
  unfold adj
  ac_rfl

/-- The column beside the part of n rows, t times the part. -/
def bc (n : Nat) (A : Nat → Nat → Int) : Nat → Nat → Int
  | 0, i => A i n
  | t + 1, i => S n fun l => A i l * bc n A t l

theorem bc_eq (n : Nat) (A : Nat → Nat → Int) (t i : Nat) (hi : i < n) : bc n A t i = S n fun l => pw n A t i l * A l n := by
  induction t generalizing i with
  | zero => exact (S_one_l hi _).symm
  | succ t ih =>
    simp only [bc]
    rw [S_congr (g := fun l => S n fun m => A i l * pw n A t l m * A m n) fun l hl => by rw [ih l hl, ← S_mul]; exact S_congr fun m _ => (Int.mul_assoc _ _ _).symm]
    rw [S_comm]
    exact S_congr fun m _ => S_mulr n (A m n) fun l => A i l * pw n A t l m

/-- Berkowitz' first column. -/
def fst (n : Nat) (A : Nat → Nat → Int) : PS := ⟨fun k => match k with
  | 0 => 1
  | 1 => -A n n
  | t + 2 => -S n fun i => A n i * bc n A t i⟩

theorem chi_succ (n : Nat) (A : Nat → Nat → Int) : chi (n + 1) A = chi n A * fst n A := by
  cases n with
  | zero =>
    unfold chi
    simp only [det, S]
    rw [zadd, omul, mulo, show sg (0 + 0) = (1 : PS) from rfl, omul]
    refine PS.ext fun k => ?_
    match k with
    | 0 => rfl
    | 1 => rfl
    | k + 2 => rfl
  | succ m =>
    unfold chi
    rw [border m (IX A)]
    have e1 : S (m + 1) (fun j => S (m + 1) fun i => -(sg (i + j) * (IX A (m + 1) j * (IX A i (m + 1) * det m fun a b => IX A (sk i a) (sk j b))))) =
        -(det (m + 1) (IX A) * S (m + 1) fun j => S (m + 1) fun i => IX A (m + 1) j * (IX A i (m + 1) * G (m + 1) A j i)) := by
      rw [← S_mul, ← S_neg]
      refine S_congr fun j hj => ?_
      rw [← S_mul, ← S_neg]
      refine S_congr fun i hi => ?_
      congr 1
      have := adj_IX A j i hj hi
      unfold adj chi at this
      rw [Nat.add_sub_cancel] at this
      rw [show det (m + 1) (IX A) * (IX A (m + 1) j * (IX A i (m + 1) * G (m + 1) A j i)) = IX A (m + 1) j * (IX A i (m + 1) * (det (m + 1) (IX A) * G (m + 1) A j i)) by ac_rfl, ← this, Nat.add_comm j i]
      ac_rfl
    rw [e1, CR.mul_comm (IX A (m + 1) (m + 1)), ← muln, ← mula]
    congr 1
    refine PS.ext fun k => ?_
    rw [co_add, co_neg, co_S]
    have off : ∀ i j, i ≠ j → IX A i j = lin 0 (-A i j) := fun i j h => by unfold IX Lin one; rw [if_neg h]
    match k with
    | 0 =>
      rw [S_zero fun j hj => by
        rw [co_S]
        exact S_zero fun i hi => by rw [off (m + 1) j (by omega), co_lin_zero, Int.zero_mul]]
      unfold IX Lin one lin fst
      simp
    | 1 =>
      rw [S_zero fun j hj => by
        rw [co_S]
        exact S_zero fun i hi => by rw [off (m + 1) j (by omega), off i (m + 1) (by omega), co_lin_succ, co_lin_zero, Int.zero_mul, Int.zero_mul, Int.mul_zero, Int.zero_add]]
      unfold IX Lin one lin fst
      simp
    | k + 2 =>
      have e2 : (IX A (m + 1) (m + 1)).co (k + 2) = 0 := rfl
      rw [e2, Int.zero_add]
      show -_ = -S (m + 1) fun i => A (m + 1) i * bc (m + 1) A k i
      congr 1
      refine S_congr fun j hj => ?_
      rw [co_S, bc_eq (m + 1) A k j hj, ← S_mul]
      refine S_congr fun i hi => ?_
      rw [off (m + 1) j (by omega), off i (m + 1) (by omega), co_lin_succ, Int.zero_mul, Int.zero_add, co_lin_succ, Int.zero_mul, Int.zero_add, Int.neg_mul, Int.neg_mul, Int.mul_neg, Int.neg_neg]
      show A (m + 1) j * (A i (m + 1) * pw (m + 1) A k j i) = _
      rw [Int.mul_comm (A i (m + 1))]

/-- Row by row, as Berkowitz reckons. -/
theorem chi_step (n : Nat) (A : Nat → Nat → Int) (i : Nat) : (chi (n + 1) A).co i = S (n + 1) fun j => if j ≤ i then (fst n A).co (i - j) * (chi n A).co j else 0 := by
  rw [chi_succ, co_mul]
  have e : ∀ m, i + 1 ≤ m → S m (fun j => if j ≤ i then (fst n A).co (i - j) * (chi n A).co j else 0) = S (i + 1) fun j => (chi n A).co j * (fst n A).co (i - j) := by
    intro m hm
    obtain ⟨d, rfl⟩ : ∃ d, m = i + 1 + d := ⟨m - (i + 1), by omega⟩
    rw [S_split, S_zero (n := d) fun k _ => if_neg (by omega), addz]
    exact S_congr fun j hj => by rw [if_pos (by omega), Int.mul_comm]
  have f : ∀ m, n + 1 ≤ m → S m (fun j => if j ≤ i then (fst n A).co (i - j) * (chi n A).co j else 0) = S (n + 1) fun j => if j ≤ i then (fst n A).co (i - j) * (chi n A).co j else 0 := by
    intro m hm
    obtain ⟨d, rfl⟩ : ∃ d, m = n + 1 + d := ⟨m - (n + 1), by omega⟩
    rw [S_split (n + 1) d, S_zero (n := d) (f := fun k => if n + 1 + k ≤ i then (fst n A).co (i - (n + 1 + k)) * (chi n A).co (n + 1 + k) else 0) fun k _ => by rw [chi_over A (by omega), Int.mul_zero]; split <;> rfl, addz]
  rw [← e (i + 1 + (n + 1)) (by omega), f _ (by omega)]

theorem chi_trace (n : Nat) (A : Nat → Nat → Int) : (chi (n + 1) A).co 1 = -S (n + 1) fun i => A i i := by
  induction n with
  | zero => rw [chi_step]; simp only [S]; simp [fst, chi_zero]
  | succ n ih =>
    rw [chi_succ, co_mul]
    simp only [S]
    rw [Int.zero_add, chi_zero]
    show 1 * -A (n + 1) (n + 1) + (chi (n + 1) A).co 1 * 1 = _
    rw [ih]
    simp only [S]
    omega

theorem mul_pw (n : Nat) (A : Nat → Nat → Int) (k : Nat) : ∀ l i j, i < n → mul n (pw n A k) (pw n A l) i j = pw n A (k + l) i j := by
  induction k with
  | zero => intro l i j hi; rw [Nat.zero_add]; exact mul_one_l hi _
  | succ k ih =>
    intro l i j hi
    rw [show k + 1 + l = k + l + 1 by omega]
    show mul n (mul n A (pw n A k)) (pw n A l) i j = mul n A (pw n A (k + l)) i j
    rw [mul_mul]
    exact mul_congr (fun _ _ => rfl) fun m hm => ih l m j hm

/-- Either way round. -/
theorem chi_sylvester (n : Nat) (A B : Nat → Nat → Int) : chi n (mul n A B) = chi n (mul n B A) := by
  have e : ∀ P Q : Nat → Nat → Int, ∀ i j, IX (mul n P Q) i j = one i j + -mul n (fun i j => lin 0 (P i j)) (fun i j => lin (Q i j) 0) i j := by
    intro P Q i j
    refine PS.ext fun k => ?_
    rw [co_add, co_neg]
    unfold mul
    rw [co_S]
    match k with
    | 0 =>
      rw [S_zero fun l _ => by rw [co_lin_zero, Int.zero_mul]]
      show (one i j : Int) = (one i j : PS).co 0 + -0
      unfold one; split <;> rfl
    | 1 =>
      rw [S_congr (g := fun l => P i l * Q l j) fun l _ => by rw [co_lin_succ, Int.zero_mul, Int.zero_add]; rfl]
      show -_ = (one i j : PS).co 1 + -_
      have : (one i j : PS).co 1 = 0 := by unfold one; split <;> rfl
      rw [this, Int.zero_add]
    | k + 2 =>
      rw [S_zero fun l _ => by rw [co_lin_succ, Int.zero_mul, Int.zero_add, show (lin (Q l j) 0).co (k + 1) = 0 from ite_self _, Int.mul_zero]]
      show 0 = (one i j : PS).co (k + 2) + -0
      have : (one i j : PS).co (k + 2) = 0 := by unfold one; split <;> rfl
      rw [this]; rfl
  have c : ∀ P Q : Nat → Nat → Int, ∀ i j, mul n (fun i j => lin (Q i j) 0) (fun i j => lin 0 (P i j)) i j = mul n (fun i j => lin 0 (Q i j)) (fun i j => lin (P i j) 0) i j := by
    intro P Q i j
    refine S_congr fun l _ => ?_
    refine PS.ext fun k => ?_
    match k with
    | 0 => rw [co_lin_zero, co_lin_zero]; simp [lin]
    | 1 => rw [co_lin_succ, co_lin_succ]; simp [lin]
    | k + 2 => rw [co_lin_succ, co_lin_succ]; simp [lin]
  unfold chi
  rw [det_congr fun i j _ _ => e A B i j, det_sylvester, det_congr fun i j _ _ => e B A i j]
  exact det_congr fun i j _ _ => by rw [c]

end Go.Proofs.YtcenhemlgapkeaaDoor.Mx

/- Determinants, products, powers of numbers that run round at 64 bits. No program in sight, no condition. -/
namespace Go.Proofs.YtcenhemlgapkeaaDoor
open Go.RowKit

theorem S_wrap {n : Nat} {f g : Nat → Int} (h : ∀ i, i < n → wrap64 (f i) = wrap64 (g i)) : wrap64 (Mx.S n f) = wrap64 (Mx.S n g) := by
  induction n with
  | zero => rfl
  | succ n ih => exact wrap_congr_add (ih fun i hi => h i (by omega)) (h n (by omega))
theorem det_wrap (n : Nat) : ∀ {A B : Nat → Nat → Int}, (∀ i j, i < n → j < n → wrap64 (A i j) = wrap64 (B i j)) → wrap64 (Mx.det n A) = wrap64 (Mx.det n B) := by
  induction n with
  | zero => intro A B _; rfl
  | succ n ih =>
    intro A B h
    simp only [Mx.det]
    refine S_wrap fun j hj => wrap_congr_mul rfl (wrap_congr_mul (h n j (by omega) hj) (ih fun a b ha hb => h a _ (by omega) (by unfold Mx.sk; split <;> omega)))
theorem mul_wrap {n : Nat} {A A' B B' : Nat → Nat → Int} {i j : Nat} (hA : ∀ k, k < n → wrap64 (A i k) = wrap64 (A' i k)) (hB : ∀ k, k < n → wrap64 (B k j) = wrap64 (B' k j)) : wrap64 (Mx.mul n A B i j) = wrap64 (Mx.mul n A' B' i j) :=
  S_wrap fun k hk => wrap_congr_mul (hA k hk) (hB k hk)
theorem pw_wrap {n : Nat} {A B : Nat → Nat → Int} (h : ∀ i j, i < n → j < n → wrap64 (A i j) = wrap64 (B i j)) (k : Nat) : ∀ i j, i < n → j < n → wrap64 (Mx.pw n A k i j) = wrap64 (Mx.pw n B k i j) := by
  induction k with
  | zero => intro i j _ _; rfl
  | succ k ih => intro i j hi hj; exact mul_wrap (fun l hl => h i l hi hl) (fun l hl => ih l j hl hj)
/-- The adjugate. -/
theorem adj_wrap {n : Nat} {A B : Nat → Nat → Int} (h : ∀ i j, i < n → j < n → wrap64 (A i j) = wrap64 (B i j)) {i j : Nat} (hi : i < n) (hj : j < n) : wrap64 (Mx.adj n A i j) = wrap64 (Mx.adj n B i j) :=
  wrap_congr_mul rfl (det_wrap _ fun a b ha hb => h _ _ (by unfold Mx.sk; split <;> omega) (by unfold Mx.sk; split <;> omega))
/-- The characteristic, by sets of rows no: by Berkowitz' own steps. -/
theorem chi_wrap (n : Nat) : ∀ {A B : Nat → Nat → Int}, (∀ i j, i < n → j < n → wrap64 (A i j) = wrap64 (B i j)) → ∀ k, wrap64 ((Mx.chi n A).co k) = wrap64 ((Mx.chi n B).co k) := by
  induction n with
  | zero => intro A B _ k; rfl
  | succ n ih =>
    intro A B h k
    have hb : ∀ t i, i < n → wrap64 (Mx.bc n A t i) = wrap64 (Mx.bc n B t i) := by
      intro t
      induction t with
      | zero => intro i hi; exact h i n (by omega) (by omega)
      | succ t iht => intro i hi; exact S_wrap fun l hl => wrap_congr_mul (h i l (by omega) (by omega)) (iht l hl)
    have hf : ∀ t, wrap64 ((Mx.fst n A).co t) = wrap64 ((Mx.fst n B).co t) := by
      intro t
      match t with
      | 0 => rfl
      | 1 =>
        show wrap64 (-A n n) = wrap64 (-B n n)
        rw [← wrap_neg, h n n (by omega) (by omega), wrap_neg]
      | t + 2 =>
        show wrap64 (-Mx.S n _) = wrap64 (-Mx.S n _)
        rw [← wrap_neg, S_wrap fun i hi => wrap_congr_mul (h n i (by omega) (by omega)) (hb t i hi), wrap_neg]
    rw [Mx.chi_step, Mx.chi_step]
    refine S_wrap fun j _ => ?_
    split
    · exact wrap_congr_mul (hf _) (ih (fun i j hi hj => h i j (by omega) (by omega)) j)
    · rfl

end Go.Proofs.YtcenhemlgapkeaaDoor
