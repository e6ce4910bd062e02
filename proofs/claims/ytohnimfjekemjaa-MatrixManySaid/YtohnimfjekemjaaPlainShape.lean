/- Plain facts on shapes: how many cells, and where a cell lies. No program in sight. -/
import Derived.Test.YtohnimfjekemjaaPlace
namespace Go.Proofs.Ytohnimfjekemjaa
open Go.RowKit
namespace M

def prod : List Int → Int
  | [] => 1
  | n :: r => n * prod r

/-- Each index lies on its axis (as many of the one as of the other). -/
def InR : List Int → List Int → Prop
  | [], [] => True
  | n :: s, i :: t => 0 ≤ i ∧ i < n ∧ InR s t
  | _, _ => False

def placeN : Int → List Int → List Int → Int
  | p, n :: s, i :: t => placeN (p * n + i) s t
  | p, _, _ => p

theorem prod_append (s t : List Int) : prod (s ++ t) = prod s * prod t := by
  induction s with
  | nil => simp [prod]
  | cons n s ih => simp [prod, ih, Int.mul_assoc]

theorem prod_nonneg {s : List Int} (h : ∀ x ∈ s, 0 ≤ x) : 0 ≤ prod s := by
  induction s with
  | nil => simp [prod]
  | cons n s ih => exact Int.mul_nonneg (h n (by simp)) (ih fun x hx => h x (by simp [hx]))

theorem prod_pos {s : List Int} (h : ∀ x ∈ s, 1 ≤ x) : 1 ≤ prod s := by
  induction s with
  | nil => simp [prod]
  | cons n s ih =>
    have h1 := h n (by simp)
    have h2 := ih fun x hx => h x (by simp [hx])
    exact Int.mul_pos (by omega) (by omega)

theorem prod_zero {s : List Int} (h : (0 : Int) ∈ s) : prod s = 0 := by
  induction s with
  | nil => simp at h
  | cons n s ih =>
    simp only [List.mem_cons] at h
    rcases h with h | h
    · simp [prod, ← h]
    · simp [prod, ih h]

theorem mulUp_eq {s : List Int} (h : ∀ x ∈ s, 1 ≤ x) : ∀ a : Int, 1 ≤ a → a ≤ 4096 → mulUp a s = if a * prod s ≤ 4096 then .ok (a * prod s) else .error 7 := by
  induction s with
  | nil => intro a _ h2; simp [mulUp, prod, h2]
  | cons n s ih =>
    intro a h1 h2
    have hn := h n (by simp)
    have hs : ∀ x ∈ s, 1 ≤ x := fun x hx => h x (by simp [hx])
    have hp := prod_pos hs
    have han : 1 ≤ a * n := Int.mul_pos (by omega) (by omega)
    have e : a * prod (n :: s) = a * n * prod s := by simp [prod, Int.mul_assoc]
    rw [e]
    by_cases hc : 4096 < a * n
    · have : a * n * 1 ≤ a * n * prod s := Int.mul_le_mul_of_nonneg_left hp (by omega)
      rw [mulUp, if_pos hc, if_neg (by omega)]
    · rw [mulUp, if_neg hc, ih hs (a * n) han (by omega)]

theorem badLen_none {s : List Int} (h : ∀ x ∈ s, 0 ≤ x ∧ x ≤ 4096) : badLen s = 0 := by
  induction s with
  | nil => rfl
  | cons n s ih =>
    have hn := h n (by simp)
    rw [badLen, if_neg (by omega), if_neg (by omega)]
    exact ih fun x hx => h x (by simp [hx])

theorem count_ok {s : List Int} {n : Int} (h : count s = .ok n) : s.length ≤ 6 ∧ (∀ x ∈ s, 0 ≤ x ∧ x ≤ 4096) ∧ n = prod s ∧ 0 ≤ n ∧ n ≤ 4096 := by
  unfold count at h
  split at h
  · cases h
  · rename_i h6
    split at h
    · cases h
    · rename_i hb
      have hb := badLen_zero (Decidable.of_not_not hb)
      split at h
      · rename_i h0
        obtain rfl := Except.ok.inj h
        exact ⟨by omega, hb, (prod_zero h0).symm, by omega, by omega⟩
      · rename_i h0
        have h1 : ∀ x ∈ s, 1 ≤ x := fun x hx => by
          have := (hb x hx).1
          rcases Int.lt_or_le x 1 with hlt | hge
          · have : x = 0 := by omega
            exact absurd (this ▸ hx) h0
          · exact hge
        rw [mulUp_eq h1 1 (by omega) (by omega)] at h
        split at h
        · have hp := prod_pos h1
          obtain rfl := Except.ok.inj h
          exact ⟨by omega, hb, by simp, by omega, by omega⟩
        · cases h

theorem count_mk {s : List Int} (h6 : s.length ≤ 6) (hb : ∀ x ∈ s, 0 ≤ x ∧ x ≤ 4096) (hp : prod s ≤ 4096) : count s = .ok (prod s) := by
  rw [count, if_neg (by omega), badLen_none hb, if_neg (by simp)]
  by_cases h0 : (0 : Int) ∈ s
  · rw [if_pos h0, prod_zero h0]
  · rw [if_neg h0]
    have h1 : ∀ x ∈ s, 1 ≤ x := fun x hx => by
      have := (hb x hx).1
      rcases Int.lt_or_le x 1 with hlt | hge
      · have : x = 0 := by omega
        exact absurd (this ▸ hx) h0
      · exact hge
    rw [mulUp_eq h1 1 (by omega) (by omega)]
    simp [hp]

/-- Errors of a shape are known ones. -/
theorem count_err {s : List Int} {e : Int} (h : count s = .error e) : e = 3 ∨ e = 4 ∨ e = 7 := by
  have hb : ∀ s : List Int, badLen s = 0 ∨ badLen s = 4 ∨ badLen s = 7 := by
    intro s
    induction s with
    | nil => simp [badLen]
    | cons n r ih => rw [badLen]; split; · simp
                     split; · simp
                     exact ih
  have hm : ∀ (s : List Int) (a e : Int), mulUp a s = .error e → e = 7 := by
    intro s
    induction s with
    | nil => intro a e h; cases h
    | cons n r ih =>
      intro a e h
      rw [mulUp] at h
      split at h
      · exact (Except.error.inj h).symm
      · exact ih _ _ h
  unfold count at h
  split at h
  · left; exact (Except.error.inj h).symm
  · split at h
    · have := Except.error.inj h
      have := hb s
      rename_i hne _
      omega
    · split at h
      · cases h
      · have := hm _ _ _ h; omega

theorem InR.length {s t : List Int} (h : InR s t) : t.length = s.length := by
  induction s generalizing t with
  | nil => cases t with
    | nil => rfl
    | cons => exact h.elim
  | cons n s ih => cases t with
    | nil => exact h.elim
    | cons i t => simp [ih h.2.2]

theorem InR.pos {s t : List Int} (h : InR s t) : ∀ x ∈ s, 1 ≤ x := by
  induction s generalizing t with
  | nil => simp
  | cons n s ih => cases t with
    | nil => exact h.elim
    | cons i t =>
      intro x hx
      simp only [List.mem_cons] at hx
      rcases hx with rfl | hx
      · have := h.1; have := h.2.1; omega
      · exact ih h.2.2 x hx

theorem InR_append {s t u v : List Int} (h : t.length = s.length) : InR (s ++ u) (t ++ v) ↔ InR s t ∧ InR u v := by
  induction s generalizing t with
  | nil => cases t with
    | nil => simp [InR]
    | cons => simp at h
  | cons n s ih => cases t with
    | nil => simp at h
    | cons i t =>
      simp only [List.length_cons, Nat.add_right_cancel_iff] at h
      simp [InR, ih h, and_assoc]

theorem placeN_append {s t u v : List Int} (h : t.length = s.length) (p : Int) : placeN p (s ++ u) (t ++ v) = placeN (placeN p s t) u v := by
  induction s generalizing t p with
  | nil => cases t with
    | nil => simp [placeN]
    | cons => simp at h
  | cons n s ih => cases t with
    | nil => simp at h
    | cons i t =>
      simp only [List.length_cons, Nat.add_right_cancel_iff] at h
      simp [placeN, ih h]

theorem placeN_at {s t : List Int} (h : InR s t) (p : Int) : placeN p s t = p * prod s + placeN 0 s t := by
  induction s generalizing t p with
  | nil => cases t with
    | nil => simp [placeN, prod]
    | cons => exact h.elim
  | cons n s ih => cases t with
    | nil => exact h.elim
    | cons i t =>
      simp only [placeN, prod]
      rw [ih h.2.2 (p * n + i), ih h.2.2 (0 * n + i)]
      simp [Int.add_mul, Int.mul_assoc, Int.add_assoc]

theorem placeN_bound {s t : List Int} (h : InR s t) : 0 ≤ placeN 0 s t ∧ placeN 0 s t < prod s := by
  induction s generalizing t with
  | nil => cases t with
    | nil => simp [placeN, prod]
    | cons => exact h.elim
  | cons n s ih => cases t with
    | nil => exact h.elim
    | cons i t =>
      have hi := ih h.2.2
      obtain ⟨h0, h1, h2⟩ := h
      have hp := prod_pos h2.pos
      simp only [placeN, prod]
      rw [placeN_at h2]
      simp only [Int.zero_mul, Int.zero_add]
      have hle : i * prod s ≤ (n - 1) * prod s := Int.mul_le_mul_of_nonneg_right (by omega) (by omega)
      rw [Int.sub_mul, Int.one_mul] at hle
      have : 0 ≤ i * prod s := Int.mul_nonneg h0 (by omega)
      omega

/-- Within the bounds nothing runs round. -/
theorem placeFrom_in {s t : List Int} (h : InR s t) : ∀ p : Int, 0 ≤ p → (p + 1) * prod s ≤ 4096 → placeFrom p s t = .ok (placeN p s t) := by
  induction s generalizing t with
  | nil => cases t with
    | nil => intro p _ _; rfl
    | cons => exact h.elim
  | cons n s ih => cases t with
    | nil => exact h.elim
    | cons i t =>
      intro p hp hb
      obtain ⟨h0, h1, h2⟩ := h
      have hps := prod_pos h2.pos
      have e : (p + 1) * prod (n :: s) = (p * n + n) * prod s := by simp only [prod]; rw [← Int.mul_assoc, Int.add_mul, Int.one_mul]
      rw [e] at hb
      have hpn : 0 ≤ p * n := Int.mul_nonneg hp (by omega)
      have hq : (p * n + i + 1) * prod s ≤ (p * n + n) * prod s := Int.mul_le_mul_of_nonneg_right (by omega) (by omega)
      have hq2 : (p * n + n) * 1 ≤ (p * n + n) * prod s := Int.mul_le_mul_of_nonneg_left hps (by omega)
      rw [placeFrom, if_neg (by omega), IntWalk.wrap64_in (p * n) (by omega), IntWalk.wrap64_in (p * n + i) (by omega), ih h2 _ (by omega) (by omega)]
      rfl

theorem placeFrom_ok {s t : List Int} (hl : t.length = s.length) : ∀ {p q : Int}, placeFrom p s t = .ok q → InR s t := by
  induction s generalizing t with
  | nil => cases t with
    | nil => intro _ _ _; trivial
    | cons => simp at hl
  | cons n s ih => cases t with
    | nil => simp at hl
    | cons i t =>
      simp only [List.length_cons, Nat.add_right_cancel_iff] at hl
      intro p q h
      rw [placeFrom] at h
      split at h
      · cases h
      · exact ⟨by omega, by omega, ih hl h⟩

theorem place_mk {s t : List Int} {n : Int} (hc : count s = .ok n) (h : InR s t) : place s t = .ok (placeN 0 s t) := by
  obtain ⟨_, _, hn, _, hm⟩ := count_ok hc
  rw [place, hc]
  simp only [h.length, ne_eq, not_true_eq_false, if_false]
  exact placeFrom_in h 0 (by omega) (by omega)

theorem place_ok {s t : List Int} {p : Int} (h : place s t = .ok p) : (∃ n, count s = .ok n) ∧ InR s t ∧ p = placeN 0 s t ∧ 0 ≤ p ∧ p < prod s := by
  cases hc : count s with
  | error e => rw [place, hc] at h; cases h
  | ok n =>
    have h' := h
    rw [place, hc] at h
    simp only at h
    split at h
    · cases h
    · rename_i hl
      have hin := placeFrom_ok (by omega) h
      have hp := place_mk hc hin
      rw [h'] at hp
      obtain rfl := Except.ok.inj hp
      exact ⟨⟨n, rfl⟩, hin, rfl, placeN_bound hin⟩

/-- ONE BEHIND THE OTHER. -/
theorem place_joined {s t a b : List Int} {p : Int} (hs : s.length ≤ 6) (ht : t.length ≤ 6) (ha : a.length = s.length) (h : place (s ++ t) (a ++ b) = .ok p) :
    ∃ x y m n, place s a = .ok x ∧ place t b = .ok y ∧ count s = .ok m ∧ count t = .ok n ∧ count (s ++ t) = .ok (m * n) ∧ p = x * n + y ∧
      (0 ≤ m ∧ m ≤ 4096) ∧ (0 ≤ n ∧ n ≤ 4096) ∧ (0 ≤ x ∧ x ≤ 4096) ∧ (0 ≤ y ∧ y ≤ 4096) := by
  obtain ⟨⟨c, hc⟩, hin, hp, _, _⟩ := place_ok h
  obtain ⟨h6, hb, hcp, hc0, hc1⟩ := count_ok hc
  rw [InR_append ha] at hin
  obtain ⟨h1, h2⟩ := hin
  have p1 := prod_pos h1.pos
  have p2 := prod_pos h2.pos
  rw [prod_append] at hcp
  have b1 : prod s * 1 ≤ prod s * prod t := Int.mul_le_mul_of_nonneg_left p2 (by omega)
  have b2 : 1 * prod t ≤ prod s * prod t := Int.mul_le_mul_of_nonneg_right p1 (by omega)
  have c1 := count_mk hs (fun x hx => hb x (by simp [hx])) (by omega)
  have c2 := count_mk ht (fun x hx => hb x (by simp [hx])) (by omega)
  have x1 := placeN_bound h1
  have x2 := placeN_bound h2
  refine ⟨_, _, _, _, place_mk c1 h1, place_mk c2 h2, c1, c2, by rw [hc, hcp], ?_, by omega, by omega, by omega, by omega⟩
  rw [hp, placeN_append ha, placeN_at h2]

end M
end Go.Proofs.Ytohnimfjekemjaa
