/- Plain facts on orders of a relation's things, and on the least numbers of steps. No program in sight; no condition. -/
import Derived.Test.YtiebknfmmanbiaaDoorRe1
namespace Go.Proofs.YtiebknfmmanbiaaDoor.Re

/-- May i stand next, behind those in out? -/
def free (n : Nat) (E : Nat → Nat → Bool) (out : List Nat) (i : Nat) : Bool := !(out.contains i) && !((List.range n).any fun j => !(out.contains j) && E j i)

theorem free_iff {n : Nat} {E : Nat → Nat → Bool} {out : List Nat} {i : Nat} : free n E out i = true ↔ i ∉ out ∧ ∀ j, j < n → j ∉ out → E j i = false := by
  unfold free
  simp only [Bool.and_eq_true, Bool.not_eq_true', List.contains_eq_mem, decide_eq_false_iff_not, List.any_eq_false, List.mem_range]
  constructor
  · rintro ⟨h1, h2⟩
    refine ⟨h1, fun j hj hn => ?_⟩
    have := h2 j hj
    simpa [hn] using this
  · rintro ⟨h1, h2⟩
    refine ⟨h1, fun j hj => ?_⟩
    by_cases hm : j ∈ out
    · simp [hm]
    · simp [hm, h2 j hj hm]

/-- The first one that may; n if none may. -/
def next (n : Nat) (E : Nat → Nat → Bool) (out : List Nat) : Nat := first (free n E out) n n

/-- The order, so far. -/
def ordK (n : Nat) (E : Nat → Nat → Bool) : Nat → List Nat
  | 0 => []
  | k + 1 => if next n E (ordK n E k) < n then ordK n E k ++ [next n E (ordK n E k)] else ordK n E k

theorem next_spec (n : Nat) (E : Nat → Nat → Bool) (out : List Nat) : (next n E out = n ∧ ∀ j, j < n → free n E out j = false) ∨ (next n E out < n ∧ free n E out (next n E out) = true ∧ ∀ j, j < next n E out → free n E out j = false) :=
  first_spec (free n E out) n n (Nat.le_refl _)

theorem ordK_stop {n : Nat} {E : Nat → Nat → Bool} {k : Nat} (h : ¬ next n E (ordK n E k) < n) : ∀ d, ordK n E (k + d) = ordK n E k := by
  intro d
  induction d with
  | zero => rfl
  | succ d ih =>
    show (if next n E (ordK n E (k + d)) < n then ordK n E (k + d) ++ [next n E (ordK n E (k + d))] else ordK n E (k + d)) = _
    rw [ih, if_neg h]

theorem ordK_le (n : Nat) (E : Nat → Nat → Bool) (k : Nat) : (ordK n E k).length ≤ k := by
  induction k with
  | zero => exact Nat.le_refl _
  | succ k ih =>
    simp only [ordK]
    split
    · simp; omega
    · omega

theorem ordK_lt (n : Nat) (E : Nat → Nat → Bool) (k : Nat) : ∀ i ∈ ordK n E k, i < n := by
  induction k with
  | zero => intro i h; cases h
  | succ k ih =>
    intro i h
    simp only [ordK] at h
    split at h
    · rename_i hlt
      rcases List.mem_append.1 h with h | h
      · exact ih i h
      · simp at h; omega
    · exact ih i h

/-- Each of the first k steps found one. -/
def Full (n : Nat) (E : Nat → Nat → Bool) (k : Nat) : Prop := ∀ m, m < k → next n E (ordK n E m) < n

theorem full_of_len {n : Nat} {E : Nat → Nat → Bool} {k : Nat} (h : (ordK n E k).length = k) : Full n E k := by
  intro m hm
  rcases Nat.lt_or_ge (next n E (ordK n E m)) n with hlt | hge
  · exact hlt
  · exfalso
    have := ordK_stop (E := E) (k := m) (Nat.not_lt.2 hge) (k - m)
    rw [show m + (k - m) = k by omega] at this
    have h1 := ordK_le n E m
    rw [← this, h] at h1
    omega

theorem Full.mono {n : Nat} {E : Nat → Nat → Bool} {k l : Nat} (h : Full n E k) (hl : l ≤ k) : Full n E l := fun m hm => h m (by omega)

theorem Full.succ {n : Nat} {E : Nat → Nat → Bool} {k : Nat} (h : Full n E (k + 1)) : ordK n E (k + 1) = ordK n E k ++ [next n E (ordK n E k)] := if_pos (h k (by omega))

theorem Full.len {n : Nat} {E : Nat → Nat → Bool} {k : Nat} (h : Full n E k) : (ordK n E k).length = k := by
  induction k with
  | zero => rfl
  | succ k ih => rw [h.succ, List.length_append, ih (h.mono (by omega))]; rfl

theorem mem_mono {n : Nat} {E : Nat → Nat → Bool} {k l x : Nat} (hkl : k ≤ l) (h : x ∈ ordK n E k) : x ∈ ordK n E l := by
  obtain ⟨d, rfl⟩ : ∃ d, l = k + d := ⟨l - k, by omega⟩
  induction d with
  | zero => exact h
  | succ d ih =>
    have := ih (by omega)
    show x ∈ (if next n E (ordK n E (k + d)) < n then _ else _)
    split
    · exact List.mem_append_left _ this
    · exact this

theorem Full.get {n : Nat} {E : Nat → Nat → Bool} {k : Nat} (h : Full n E k) {a : Nat} (ha : a < k) : (ordK n E k).getD a 0 = next n E (ordK n E a) := by
  induction k with
  | zero => omega
  | succ k ih =>
    rw [h.succ, List.getD_eq_getElem?_getD]
    have hl := (h.mono (Nat.le_succ k)).len
    by_cases e : a = k
    · subst e
      rw [List.getElem?_append_right (by omega), hl, Nat.sub_self]; rfl
    · rw [List.getElem?_append_left (by omega), ← List.getD_eq_getElem?_getD]
      exact ih (h.mono (Nat.le_succ k)) (by omega)

theorem Full.free {n : Nat} {E : Nat → Nat → Bool} {k : Nat} (h : Full n E k) {a : Nat} (ha : a < k) : next n E (ordK n E a) ∉ ordK n E a ∧ ∀ j, j < n → j ∉ ordK n E a → E j (next n E (ordK n E a)) = false := by
  have hlt := h a ha
  rcases next_spec n E (ordK n E a) with ⟨e, _⟩ | ⟨_, hf, _⟩
  · omega
  · exact free_iff.1 hf

theorem Full.mem {n : Nat} {E : Nat → Nat → Bool} {k : Nat} (h : Full n E k) {a : Nat} (ha : a < k) : next n E (ordK n E a) ∈ ordK n E (a + 1) := by
  rw [(h.mono (show a + 1 ≤ k by omega)).succ]; simp

theorem cnt_add {n : Nat} {P Q : Nat → Bool} {x : Nat} (hx : x < n) (hP : P x = false) (h : ∀ i, i < n → Q i = (P i || decide (i = x))) : cnt n Q = cnt n P + 1 := by
  induction n with
  | zero => omega
  | succ n ih =>
    simp only [cnt]
    by_cases e : x = n
    · subst e
      rw [h x (by omega), hP]
      rw [cnt_congr (P := Q) (Q := P) fun i hi => by rw [h i (by omega), decide_eq_false (by omega), Bool.or_false]]
      simp
    · rw [ih (by omega) fun i hi => h i (by omega), h n (by omega), decide_eq_false (by omega), Bool.or_false]
      omega

theorem Full.cnt {n : Nat} {E : Nat → Nat → Bool} {k : Nat} (h : Full n E k) : cnt n (fun i => decide (i ∈ ordK n E k)) = k := by
  induction k with
  | zero =>
    have : ∀ m, Re.cnt m (fun i => decide (i ∈ ordK n E 0)) = 0 := by
      intro m
      induction m with
      | zero => rfl
      | succ m ih => simp only [Re.cnt]; rw [ih]; simp [ordK]
    exact this n
  | succ k ih =>
    rw [cnt_add (P := fun i => decide (i ∈ ordK n E k)) (x := next n E (ordK n E k)) (h k (by omega)) (decide_eq_false (h.free (Nat.lt_succ_self k)).1), ih (h.mono (Nat.le_succ k))]
    intro i _
    rw [h.succ]
    simp [Bool.decide_or]

theorem cnt_true (n : Nat) : cnt n (fun _ => true) = n := by
  induction n with
  | zero => rfl
  | succ n ih => simp only [cnt]; rw [ih]; rfl

theorem Full.all {n : Nat} {E : Nat → Nat → Bool} (h : Full n E n) {v : Nat} (hv : v < n) : v ∈ ordK n E n := by
  have := cnt_eq (n := n) (P := fun i => decide (i ∈ ordK n E n)) (Q := fun _ => true) (fun _ _ _ => rfl) (by rw [cnt_true, h.cnt]; exact Nat.le_refl _) v hv
  simpa using this

/-- Where each stands. -/
theorem Full.at {n : Nat} {E : Nat → Nat → Bool} {k : Nat} (h : Full n E k) {v : Nat} (hv : v ∈ ordK n E k) : ∃ b, b < k ∧ v = next n E (ordK n E b) := by
  induction k with
  | zero => cases hv
  | succ k ih =>
    rw [h.succ] at hv
    rcases List.mem_append.1 hv with hv | hv
    · obtain ⟨b, hb, e⟩ := ih (h.mono (Nat.le_succ k)) hv
      exact ⟨b, by omega, e⟩
    · exact ⟨k, by omega, by simpa using hv⟩

/-- What leads at last to another one stands ahead of it. -/
theorem Full.ahead {n : Nat} {E : Nat → Nat → Bool} (h : Full n E n) {u v : Nat} (hu : u < n) (hv : v < n) (hc : clo n E u v = true) : ∃ a, a ≤ n ∧ u ∈ ordK n E a ∧ v ∉ ordK n E a := by
  have := clo_least (n := n) (E := E) (fun u v => (List.range (n + 1)).any fun a => decide (u ∈ ordK n E a) && !decide (v ∈ ordK n E a)) (by
    intro i j hi hj he
    obtain ⟨b, hb, e⟩ := h.at (h.all hj)
    rw [List.any_eq_true]
    refine ⟨b, List.mem_range.2 (by omega), ?_⟩
    have hf := h.free hb
    rw [← e] at hf
    simp only [Bool.and_eq_true, Bool.not_eq_true', decide_eq_true_eq, decide_eq_false_iff_not]
    refine ⟨?_, hf.1⟩
    by_cases hm : i ∈ ordK n E b
    · exact hm
    · have := hf.2 i hi hm
      rw [he] at this; cases this) (by
    intro i m j _ _ _ h1 h2
    rw [List.any_eq_true] at h1 h2 ⊢
    obtain ⟨a, ha, h1⟩ := h1
    obtain ⟨b, hb, h2⟩ := h2
    simp only [Bool.and_eq_true, Bool.not_eq_true', decide_eq_true_eq, decide_eq_false_iff_not] at h1 h2
    refine ⟨b, hb, ?_⟩
    simp only [Bool.and_eq_true, Bool.not_eq_true', decide_eq_true_eq, decide_eq_false_iff_not]
    refine ⟨?_, h2.2⟩
    rcases Nat.lt_or_ge b a with hlt | hge
    · exact absurd (mem_mono (Nat.le_of_lt hlt) h2.1) h1.2
    · exact mem_mono hge h1.1) hu hv hc
  rw [List.any_eq_true] at this
  obtain ⟨a, ha, h1⟩ := this
  simp only [Bool.and_eq_true, Bool.not_eq_true', decide_eq_true_eq, decide_eq_false_iff_not] at h1
  have := List.mem_range.1 ha
  exact ⟨a, by omega, h1⟩

/-- In the order nothing leads back. -/
theorem Full.never {n : Nat} {E : Nat → Nat → Bool} (h : Full n E n) {a b : Nat} (hab : a ≤ b) (hb : b < n) : clo n E ((ordK n E n).getD b 0) ((ordK n E n).getD a 0) = false := by
  rw [h.get hb, h.get (by omega)]
  cases hc : clo n E (next n E (ordK n E b)) (next n E (ordK n E a)) with
  | false => rfl
  | true =>
    obtain ⟨c, _, h1, h2⟩ := h.ahead (h b hb) (h a (by omega)) hc
    have hbc : b < c := by
      rcases Nat.lt_or_ge b c with hlt | hge
      · exact hlt
      · exact absurd (mem_mono hge h1) (h.free hb).1
    exact absurd (mem_mono (show a + 1 ≤ c by omega) (h.mem (show a < n by omega))) h2

theorem Full.irrefl {n : Nat} {E : Nat → Nat → Bool} (h : Full n E n) {u : Nat} (hu : u < n) : clo n E u u = false := by
  obtain ⟨b, hb, e⟩ := h.at (h.all hu)
  have := h.never (Nat.le_refl b) hb
  rwa [h.get hb, ← e] at this

/-- A least one. -/
theorem least_exists {n : Nat} {R : Nat → Nat → Bool} (htr : ∀ i m j, i < n → m < n → j < n → R i m = true → R m j = true → R i j = true) (hir : ∀ i, i < n → R i i = false) (L : Nat → Bool) :
    ∀ c i, i < n → L i = true → cnt n (fun j => L j && R j i) ≤ c → ∃ i, i < n ∧ L i = true ∧ ∀ j, j < n → L j = true → R j i = false := by
  intro c
  induction c with
  | zero =>
    intro i hi hL hc
    refine ⟨i, hi, hL, fun j hj hLj => ?_⟩
    cases hr : R j i with
    | false => rfl
    | true =>
      exfalso
      have : 1 ≤ cnt n (fun j => L j && R j i) := by
        have h1 : ∀ m, j < m → 1 ≤ cnt m (fun j => L j && R j i) := by
          intro m
          induction m with
          | zero => intro h; omega
          | succ m ih =>
            intro h
            simp only [cnt]
            by_cases e : j = m
            · subst e; rw [if_pos (by simp [hLj, hr])]; omega
            · have := ih (by omega); omega
        exact h1 n hj
      omega
  | succ c ih =>
    intro i hi hL hc
    by_cases h : ∃ j, j < n ∧ L j = true ∧ R j i = true
    · obtain ⟨j, hj, hLj, hr⟩ := h
      refine ih j hj hLj ?_
      rcases Nat.lt_or_ge (cnt n (fun k => L k && R k j)) (cnt n (fun k => L k && R k i)) with hlt | hge
      · omega
      · exfalso
        have := cnt_eq (n := n) (P := fun k => L k && R k j) (Q := fun k => L k && R k i) (by
          intro k hk h
          simp only [Bool.and_eq_true] at h ⊢
          exact ⟨h.1, htr k j i hk hj hi h.2 hr⟩) hge j hj
        simp only [hLj, hr, hir j hj] at this
        cases this
    · refine ⟨i, hi, hL, fun j hj hLj => ?_⟩
      cases hr : R j i with
      | false => rfl
      | true => exact absurd ⟨j, hj, hLj, hr⟩ h

/-- Where none may stand next some thing leads back to itself. -/
theorem circle {n : Nat} {E : Nat → Nat → Bool} {k : Nat} (h : Full n E k) (hk : k < n) (hno : next n E (ordK n E k) = n) : ∃ i, i < n ∧ clo n E i i = true := by
  by_cases hc : ∃ i, i < n ∧ clo n E i i = true
  · exact hc
  exfalso
  have hir : ∀ i, i < n → clo n E i i = false := fun i hi => by
    cases hr : clo n E i i with
    | false => rfl
    | true => exact absurd ⟨i, hi, hr⟩ hc
  have hex : ∃ i, i < n ∧ i ∉ ordK n E k := by
    by_cases hx : ∃ i, i < n ∧ i ∉ ordK n E k
    · exact hx
    · exfalso
      have e : cnt n (fun i => decide (i ∈ ordK n E k)) = n := by
        rw [cnt_congr (Q := fun _ => true) fun i hi => decide_eq_true (Classical.byContradiction fun hn => hx ⟨i, hi, hn⟩), cnt_true]
      rw [h.cnt] at e; omega
  obtain ⟨i, hi, hni⟩ := hex
  obtain ⟨m, hm, hLm, hmin⟩ := least_exists (n := n) (R := clo n E) (fun i m j _ hm _ h1 h2 => clo_trans hm h1 h2) hir (fun i => !decide (i ∈ ordK n E k)) n i hi (by simpa using hni) (cnt_le _ _)
  rcases next_spec n E (ordK n E k) with ⟨_, hf⟩ | ⟨e, _, _⟩
  · have := hf m hm
    rw [Bool.eq_false_iff] at this
    refine this (free_iff.2 ⟨by simpa using hLm, fun j hj hnj => ?_⟩)
    cases he : E j m with
    | false => rfl
    | true =>
      have := hmin j hj (by simpa using hnj)
      rw [clo_le he] at this; cases this
  · omega

/-- The least number of steps; n where one never comes. -/
def lev (n : Nat) (E : Nat → Nat → Bool) (o j : Nat) : Nat := first (fun k => lvl n E o k j) n n

theorem lev_le (n : Nat) (E : Nat → Nat → Bool) (o j : Nat) : lev n E o j ≤ n := by
  rcases first_spec (fun k => lvl n E o k j) n n (Nat.le_refl _) with ⟨h, _⟩ | ⟨h, _⟩ <;> unfold lev <;> omega

theorem lvl_iff {n : Nat} {E : Nat → Nat → Bool} {o j : Nat} (ho : o < n) (hj : j < n) (k : Nat) : lvl n E o k j = true ↔ lev n E o j ≤ k ∧ lev n E o j < n := by
  unfold lev
  rcases first_spec (fun k => lvl n E o k j) n n (Nat.le_refl _) with ⟨h1, h2⟩ | ⟨h1, h2, h3⟩
  · constructor
    · intro h
      have := lvl_stop ho j hj k h
      have := h2 (n - 1) (by omega)
      simp_all
    · rintro ⟨_, h⟩; omega
  · constructor
    · intro h
      refine ⟨?_, h1⟩
      rcases Nat.lt_or_ge k (first (fun k => lvl n E o k j) n n) with hlt | hge
      · have := h3 k hlt; simp_all
      · exact hge
    · rintro ⟨h, _⟩
      exact lvl_mono h h2

theorem lev_zero {n : Nat} {E : Nat → Nat → Bool} {o j : Nat} (ho : o < n) (hj : j < n) : lev n E o j = 0 ↔ j = o := by
  have h := lvl_iff (E := E) ho hj 0
  simp only [lvl, decide_eq_true_eq] at h
  rw [h]; omega

/-- A step makes it at most one more. -/
theorem lev_step {n : Nat} {E : Nat → Nat → Bool} {o i j : Nat} (ho : o < n) (hi : i < n) (hj : j < n) (hl : lev n E o i < n) (he : E i j = true) : lev n E o j ≤ lev n E o i + 1 ∧ lev n E o j < n := by
  have h1 := (lvl_iff (E := E) ho hi (lev n E o i)).2 ⟨Nat.le_refl _, hl⟩
  have h2 : lvl n E o (lev n E o i + 1) j = true := lvl_succ.2 (.inr ⟨i, hi, h1, he⟩)
  exact (lvl_iff ho hj _).1 h2

/-- What is further has a thing one step ahead. -/
theorem lev_pred {n : Nat} {E : Nat → Nat → Bool} {o j : Nat} (ho : o < n) (hj : j < n) (hl : lev n E o j < n) (hp : 0 < lev n E o j) : ∃ i, i < n ∧ E i j = true ∧ lev n E o i + 1 = lev n E o j := by
  obtain ⟨k, hk⟩ : ∃ k, lev n E o j = k + 1 := ⟨lev n E o j - 1, by omega⟩
  have h1 := (lvl_iff (E := E) ho hj (k + 1)).2 ⟨by omega, hl⟩
  rcases lvl_succ.1 h1 with h | ⟨i, hi, h2, he⟩
  · have := (lvl_iff ho hj k).1 h; omega
  · refine ⟨i, hi, he, ?_⟩
    have h3 := (lvl_iff ho hi k).1 h2
    have h4 := (lev_step ho hi hj h3.2 he).1
    omega

theorem lev_clo {n : Nat} {E : Nat → Nat → Bool} {o j : Nat} (ho : o < n) (hj : j < n) (hne : j ≠ o) : lev n E o j < n ↔ clo n E o j = true := by
  rw [← lvl_clo ho hj hne]
  constructor
  · intro h; exact ⟨_, (lvl_iff ho hj _).2 ⟨Nat.le_refl _, h⟩⟩
  · rintro ⟨k, h⟩; exact ((lvl_iff ho hj k).1 h).2

end Go.Proofs.YtiebknfmmanbiaaDoor.Re
