/- Plain facts on relations of n things: closed by way of each thing in turn; classes; orders; steps. No program in sight; no condition. -/
namespace Go.Proofs.YtiebknfmmanbiaaDoor.Re

/-- Closed by way of the first k things. -/
def wars (E : Nat → Nat → Bool) : Nat → Nat → Nat → Bool
  | 0, i, j => E i j
  | k + 1, i, j => wars E k i j || (wars E k i k && wars E k k j)

theorem wars_le (E : Nat → Nat → Bool) (k i j : Nat) (h : E i j = true) : wars E k i j = true := by
  induction k with
  | zero => exact h
  | succ k ih => simp only [wars]; rw [ih]; rfl

theorem wars_trans (E : Nat → Nat → Bool) (k : Nat) : ∀ m, m < k → ∀ i j, wars E k i m = true → wars E k m j = true → wars E k i j = true := by
  induction k with
  | zero => intro m h; omega
  | succ k ih =>
    intro m hm i j h1 h2
    simp only [wars, Bool.or_eq_true, Bool.and_eq_true] at h1 h2 ⊢
    by_cases e : m = k
    · subst e
      have h3 : wars E m i m = true := h1.elim id And.left
      have h4 : wars E m m j = true := h2.elim id And.right
      exact .inr ⟨h3, h4⟩
    · have hm' : m < k := by omega
      rcases h1 with h1 | ⟨h1, h1'⟩ <;> rcases h2 with h2 | ⟨h2, h2'⟩
      · exact .inl (ih m hm' i j h1 h2)
      · exact .inr ⟨ih m hm' i k h1 h2, h2'⟩
      · exact .inr ⟨h1, ih m hm' k j h1' h2⟩
      · exact .inr ⟨h1, h2'⟩

theorem wars_least (E B : Nat → Nat → Bool) (n : Nat) (hE : ∀ i j, i < n → j < n → E i j = true → B i j = true)
    (hB : ∀ i m j, i < n → m < n → j < n → B i m = true → B m j = true → B i j = true) :
    ∀ k, k ≤ n → ∀ i j, i < n → j < n → wars E k i j = true → B i j = true := by
  intro k
  induction k with
  | zero => intro _ i j hi hj h; exact hE i j hi hj h
  | succ k ih =>
    intro hk i j hi hj h
    simp only [wars, Bool.or_eq_true, Bool.and_eq_true] at h
    rcases h with h | ⟨h1, h2⟩
    · exact ih (by omega) i j hi hj h
    · exact hB i k j hi (by omega) hj (ih (by omega) i k hi (by omega) h1) (ih (by omega) k j (by omega) hj h2)

/-- Where one comes at last. -/
def clo (n : Nat) (E : Nat → Nat → Bool) (i j : Nat) : Bool := wars E n i j

theorem clo_le {n : Nat} {E : Nat → Nat → Bool} {i j : Nat} (h : E i j = true) : clo n E i j = true := wars_le E n i j h
theorem clo_trans {n : Nat} {E : Nat → Nat → Bool} {i m j : Nat} (hm : m < n) (h1 : clo n E i m = true) (h2 : clo n E m j = true) : clo n E i j = true := wars_trans E n m hm i j h1 h2
theorem clo_least {n : Nat} {E : Nat → Nat → Bool} (B : Nat → Nat → Bool) (hE : ∀ i j, i < n → j < n → E i j = true → B i j = true)
    (hB : ∀ i m j, i < n → m < n → j < n → B i m = true → B m j = true → B i j = true) {i j : Nat} (hi : i < n) (hj : j < n) (h : clo n E i j = true) : B i j = true :=
  wars_least E B n hE hB n (Nat.le_refl _) i j hi hj h

theorem clo_congr {n : Nat} {E F : Nat → Nat → Bool} (h : ∀ i j, i < n → j < n → E i j = F i j) {i j : Nat} (hi : i < n) (hj : j < n) : clo n E i j = clo n F i j := by
  have key : ∀ k, k ≤ n → ∀ i j, i < n → j < n → wars E k i j = wars F k i j := by
    intro k
    induction k with
    | zero => intro _ i j hi hj; exact h i j hi hj
    | succ k ih => intro hk i j hi hj; simp only [wars]; rw [ih (by omega) i j hi hj, ih (by omega) i k hi (by omega), ih (by omega) k j (by omega) hj]
  exact key n (Nat.le_refl _) i j hi hj

/-- Once more it is the same. -/
theorem clo_clo {n : Nat} {E : Nat → Nat → Bool} {i j : Nat} (hi : i < n) (hj : j < n) : clo n (clo n E) i j = clo n E i j := by
  rw [Bool.eq_iff_iff]
  exact ⟨fun h => clo_least (clo n E) (fun _ _ _ _ h => h) (fun _ _ _ _ hm _ h1 h2 => clo_trans hm h1 h2) hi hj h, fun h => clo_le h⟩

/-- Among the first k things the first one that is in i's class; none: i. -/
def first (P : Nat → Bool) (d : Nat) : Nat → Nat
  | 0 => d
  | k + 1 => if first P d k ≠ d then first P d k else if P k then k else d

theorem first_spec (P : Nat → Bool) (d k : Nat) (hk : k ≤ d) : (first P d k = d ∧ ∀ j, j < k → P j = false) ∨ (first P d k < k ∧ P (first P d k) = true ∧ ∀ j, j < first P d k → P j = false) := by
  induction k with
  | zero => exact .inl ⟨rfl, fun j hj => absurd hj (by omega)⟩
  | succ k ih =>
    simp only [first]
    rcases ih (by omega) with ⟨h1, h2⟩ | ⟨h1, h2, h3⟩
    · rw [if_neg (fun h => h h1)]
      cases hp : P k with
      | true => rw [if_pos rfl]; exact .inr ⟨by omega, hp, fun j hj => h2 j hj⟩
      | false =>
        rw [if_neg Bool.false_ne_true]
        refine .inl ⟨rfl, fun j hj => ?_⟩
        by_cases e : j = k
        · subst e; exact hp
        · exact h2 j (by omega)
    · rw [if_pos (by omega)]
      exact .inr ⟨by omega, h2, h3⟩

/-- The name of i's class. -/
def cname (n : Nat) (E : Nat → Nat → Bool) (i : Nat) : Nat := first (fun j => clo n E i j && clo n E j i) i i

theorem cname_le (n : Nat) (E : Nat → Nat → Bool) (i : Nat) : cname n E i ≤ i := by
  unfold cname
  rcases first_spec (fun j => clo n E i j && clo n E j i) i i (Nat.le_refl _) with ⟨h, _⟩ | ⟨h, _⟩ <;> omega

/-- In one class: the same, or leading to each other. -/
def mutl (n : Nat) (E : Nat → Nat → Bool) (i j : Nat) : Prop := i = j ∨ (clo n E i j = true ∧ clo n E j i = true)

theorem mut_symm {n : Nat} {E : Nat → Nat → Bool} {i j : Nat} (h : mutl n E i j) : mutl n E j i := by
  rcases h with h | ⟨h, k⟩
  · exact .inl h.symm
  · exact .inr ⟨k, h⟩
theorem mut_trans {n : Nat} {E : Nat → Nat → Bool} {i j k : Nat} (hj : j < n) (h : mutl n E i j) (g : mutl n E j k) : mutl n E i k := by
  rcases h with rfl | ⟨h1, h2⟩
  · exact g
  · rcases g with rfl | ⟨g1, g2⟩
    · exact .inr ⟨h1, h2⟩
    · exact .inr ⟨clo_trans hj h1 g1, clo_trans hj g2 h2⟩

theorem cname_mut (n : Nat) (E : Nat → Nat → Bool) (i : Nat) : mutl n E i (cname n E i) := by
  unfold cname
  rcases first_spec (fun j => clo n E i j && clo n E j i) i i (Nat.le_refl _) with ⟨h, _⟩ | ⟨_, h, _⟩
  · exact .inl h.symm
  · simp only [Bool.and_eq_true] at h; exact .inr h

theorem cname_least (n : Nat) (E : Nat → Nat → Bool) (i j : Nat) (h : mutl n E i j) : cname n E i ≤ j := by
  have hle := cname_le n E i
  rcases Nat.lt_or_ge j (cname n E i) with hlt | hge
  · exfalso
    have hf : (clo n E i j && clo n E j i) = false := by
      unfold cname at hlt hle
      rcases first_spec (fun j => clo n E i j && clo n E j i) i i (Nat.le_refl _) with ⟨h1, h2⟩ | ⟨_, _, h2⟩
      · exact h2 j (by omega)
      · exact h2 j hlt
    rcases h with rfl | ⟨h1, h2⟩
    · omega
    · rw [h1, h2] at hf; cases hf
  · exact hge

/-- One name just for one class. -/
theorem cname_iff {n : Nat} {E : Nat → Nat → Bool} {i j : Nat} (hi : i < n) (hj : j < n) : cname n E i = cname n E j ↔ mutl n E i j := by
  have li := cname_le n E i
  have lj := cname_le n E j
  constructor
  · intro h
    have h1 := cname_mut n E i
    have h2 := cname_mut n E j
    rw [h] at h1
    exact mut_trans (by omega) h1 (mut_symm h2)
  · intro h
    have h1 := cname_least n E i (cname n E j) (mut_trans hj h (cname_mut n E j))
    have h2 := cname_least n E j (cname n E i) (mut_trans hi (mut_symm h) (cname_mut n E i))
    omega

theorem cname_idem {n : Nat} {E : Nat → Nat → Bool} {i : Nat} (hi : i < n) : cname n E (cname n E i) = cname n E i :=
  (cname_iff (by have := cname_le n E i; omega) hi).2 (mut_symm (cname_mut n E i))

/-- How many of the first n things. -/
def cnt (n : Nat) (P : Nat → Bool) : Nat := match n with
  | 0 => 0
  | n + 1 => cnt n P + (if P n then 1 else 0)

theorem cnt_le (n : Nat) (P : Nat → Bool) : cnt n P ≤ n := by
  induction n with
  | zero => simp [cnt]
  | succ n ih => simp only [cnt]; split <;> omega
theorem cnt_mono {n : Nat} {P Q : Nat → Bool} (h : ∀ i, i < n → P i = true → Q i = true) : cnt n P ≤ cnt n Q := by
  induction n with
  | zero => simp [cnt]
  | succ n ih =>
    have h1 := ih fun i hi => h i (by omega)
    have h2 := h n (by omega)
    simp only [cnt]
    split
    · rename_i hp; rw [if_pos (h2 hp)]; omega
    · split <;> omega
theorem cnt_eq {n : Nat} {P Q : Nat → Bool} (h : ∀ i, i < n → P i = true → Q i = true) (he : cnt n Q ≤ cnt n P) : ∀ i, i < n → P i = Q i := by
  induction n with
  | zero => intro i hi; omega
  | succ n ih =>
    have h1 : cnt n P ≤ cnt n Q := cnt_mono fun i hi => h i (by omega)
    have h2 := h n (by omega)
    simp only [cnt] at he
    have e : P n = Q n := by
      cases hp : P n <;> cases hq : Q n <;> simp [hp, hq] at h2 he <;> first | rfl | omega
    intro i hi
    by_cases ei : i = n
    · subst ei; exact e
    · rw [e] at he
      exact ih (fun i hi => h i (by omega)) (by split at he <;> omega) i (by omega)
theorem cnt_congr {n : Nat} {P Q : Nat → Bool} (h : ∀ i, i < n → P i = Q i) : cnt n P = cnt n Q := by
  induction n with
  | zero => rfl
  | succ n ih => simp only [cnt]; rw [ih fun i hi => h i (by omega), h n (by omega)]

/-- What only grows, each step out of the last one, stands still behind n steps. -/
theorem grow_stop (n : Nat) (s : Nat → Nat → Bool) (hup : ∀ k i, i < n → s k i = true → s (k + 1) i = true)
    (hst : ∀ k, (∀ i, i < n → s (k + 1) i = s k i) → ∀ i, i < n → s (k + 2) i = s (k + 1) i) :
    ∀ k, (∀ i, i < n → s (k + 1) i = s k i) ∨ k + 1 + cnt n (s 0) ≤ cnt n (s (k + 1)) := by
  intro k
  induction k with
  | zero =>
    rcases Nat.lt_or_ge (cnt n (s 0)) (cnt n (s 1)) with h | h
    · exact .inr (by show 0 + 1 + cnt n (s 0) ≤ cnt n (s 1); omega)
    · exact .inl fun i hi => (cnt_eq (fun i hi => hup 0 i hi) h i hi).symm
  | succ k ih =>
    rcases ih with h | h
    · exact .inl (hst k h)
    · rcases Nat.lt_or_ge (cnt n (s (k + 1))) (cnt n (s (k + 2))) with g | g
      · exact .inr (by show _ ≤ cnt n (s (k + 2)); omega)
      · exact .inl fun i hi => (cnt_eq (fun i hi => hup (k + 1) i hi) g i hi).symm

/-- Reached from a thing in at most k steps. -/
def lvl (n : Nat) (E : Nat → Nat → Bool) (o : Nat) : Nat → Nat → Bool
  | 0, j => decide (j = o)
  | k + 1, j => lvl n E o k j || (List.range n).any fun i => lvl n E o k i && E i j

theorem lvl_up (n : Nat) (E : Nat → Nat → Bool) (o k j : Nat) (h : lvl n E o k j = true) : lvl n E o (k + 1) j = true := by simp only [lvl]; rw [h]; rfl
theorem lvl_mono {n : Nat} {E : Nat → Nat → Bool} {o j : Nat} {k l : Nat} (hkl : k ≤ l) (h : lvl n E o k j = true) : lvl n E o l j = true := by
  obtain ⟨d, rfl⟩ : ∃ d, l = k + d := ⟨l - k, by omega⟩
  induction d with
  | zero => exact h
  | succ d ih => exact lvl_up n E o (k + d) j (ih (by omega))
theorem lvl_succ {n : Nat} {E : Nat → Nat → Bool} {o k j : Nat} : lvl n E o (k + 1) j = true ↔ lvl n E o k j = true ∨ ∃ i, i < n ∧ lvl n E o k i = true ∧ E i j = true := by
  simp only [lvl, Bool.or_eq_true, List.any_eq_true, List.mem_range, Bool.and_eq_true]

theorem lvl_stop {n : Nat} {E : Nat → Nat → Bool} {o : Nat} (ho : o < n) : ∀ j, j < n → ∀ k, lvl n E o k j = true → lvl n E o (n - 1) j = true := by
  have hst : ∀ k, (∀ i, i < n → lvl n E o (k + 1) i = lvl n E o k i) → ∀ i, i < n → lvl n E o (k + 2) i = lvl n E o (k + 1) i := by
    intro k h i hi
    rw [Bool.eq_iff_iff, lvl_succ (k := k + 1), h i hi]
    conv => rhs; rw [← h i hi, lvl_succ]
    constructor
    · rintro (h1 | ⟨m, hm, h1, h2⟩)
      · exact .inl h1
      · exact .inr ⟨m, hm, by rw [← h m hm]; exact h1, h2⟩
    · rintro (h1 | ⟨m, hm, h1, h2⟩)
      · exact .inl h1
      · exact .inr ⟨m, hm, by rw [h m hm]; exact h1, h2⟩
  have c0 : 1 ≤ cnt n (lvl n E o 0) := by
    have : ∀ m, o < m → 1 ≤ cnt m (lvl n E o 0) := by
      intro m
      induction m with
      | zero => intro h; omega
      | succ m ih =>
        intro h
        simp only [cnt]
        by_cases e : o = m
        · subst e; rw [if_pos (by simp [lvl])]; omega
        · have := ih (by omega); omega
    exact this n ho
  have stop : ∀ i, i < n → lvl n E o (n - 1 + 1) i = lvl n E o (n - 1) i := by
    rcases grow_stop n (lvl n E o) (fun k i _ h => lvl_up n E o k i h) hst (n - 1) with h | h
    · exact h
    · have := cnt_le n (lvl n E o (n - 1 + 1)); omega
  have all : ∀ d i, i < n → lvl n E o (n - 1 + d) i = lvl n E o (n - 1) i := by
    intro d
    have two : ∀ d i, i < n → lvl n E o (n - 1 + d + 1) i = lvl n E o (n - 1 + d) i := by
      intro d
      induction d with
      | zero => exact stop
      | succ d ih => exact hst _ ih
    induction d with
    | zero => intro i _; rfl
    | succ d ih => intro i hi; rw [← Nat.add_assoc, two d i hi, ih i hi]
  intro j hj k h
  rcases Nat.lt_or_ge k (n - 1) with hlt | hge
  · exact lvl_mono (by omega) h
  · rw [← all (k - (n - 1)) j hj, show n - 1 + (k - (n - 1)) = k by omega]; exact h

/-- Reached at all, or closed: the same. -/
theorem lvl_clo {n : Nat} {E : Nat → Nat → Bool} {o : Nat} (ho : o < n) {j : Nat} (hj : j < n) (hne : j ≠ o) : (∃ k, lvl n E o k j = true) ↔ clo n E o j = true := by
  constructor
  · rintro ⟨k, h⟩
    have key : ∀ k j, j < n → lvl n E o k j = true → j = o ∨ clo n E o j = true := by
      intro k
      induction k with
      | zero => intro j _ h; simp [lvl] at h; exact .inl h
      | succ k ih =>
        intro j hj h
        rcases lvl_succ.1 h with h | ⟨i, hi, h1, h2⟩
        · exact ih j hj h
        · rcases ih i hi h1 with rfl | h3
          · exact .inr (clo_le h2)
          · exact .inr (clo_trans hi h3 (clo_le h2))
    rcases key k j hj h with h | h
    · exact absurd h hne
    · exact h
  · intro h
    have h2 := clo_least (n := n) (E := E) (fun i j => !(lvl n E o (n - 1) i) || lvl n E o (n - 1) j) (by
      intro i j hi hj he
      cases hl : lvl n E o (n - 1) i with
      | false => rfl
      | true =>
        have : lvl n E o (n - 1 + 1) j = true := lvl_succ.2 (.inr ⟨i, hi, hl, he⟩)
        rw [lvl_stop ho j hj _ this]; rfl) (by
      intro i m j _ _ _ h1 h2
      cases ha : lvl n E o (n - 1) i <;> cases hb : lvl n E o (n - 1) m <;> simp_all) ho hj h
    have h3 : lvl n E o (n - 1) o = true := lvl_mono (k := 0) (by omega) (by simp [lvl])
    rw [h3] at h2
    exact ⟨n - 1, by simpa using h2⟩

end Go.Proofs.YtiebknfmmanbiaaDoor.Re
