/- Plain facts: a place is its indices; row by row; axes go and come back. No program in sight. -/
import Derived.Test.YtldhklbpmfckcaaDoorPlainShape
import Derived.Test.YtldhklbpmfckcaaDoorAt
import Derived.Test.YtldhklbpmfckcaaDoorAxes
namespace Go.Proofs.YtldhklbpmfckcaaDoor
open Go.RowKit
namespace M

theorem emod_two (p a b : Int) (ha : 0 < a) (hb : 0 < b) : p % (a * b) = p % a + a * (p / a % b) := by
  have h1 := Int.mul_ediv_add_emod p a
  have h2 := Int.mul_ediv_add_emod (p / a) b
  have e : p = (p % a + a * (p / a % b)) + (a * b) * (p / a / b) := by
    have : a * (p / a) = a * b * (p / a / b) + a * (p / a % b) := by
      conv => lhs; rw [← h2]
      rw [Int.mul_add, Int.mul_assoc]
    omega
  have r1 := Int.emod_nonneg p (Int.ne_of_gt ha)
  have r2 := Int.emod_lt_of_pos p ha
  have r3 := Int.emod_nonneg (p / a) (Int.ne_of_gt hb)
  have r4 := Int.emod_lt_of_pos (p / a) hb
  have r5 : a * (p / a % b) ≤ a * (b - 1) := Int.mul_le_mul_of_nonneg_left (by omega) (by omega)
  have r6 : 0 ≤ a * (p / a % b) := Int.mul_nonneg (by omega) r3
  rw [Int.mul_sub, Int.mul_one] at r5
  conv => lhs; rw [e, Int.add_mul_emod_self_left]
  exact Int.emod_eq_of_lt (by omega) (by omega)

theorem coords_spec {s : List Int} (hs : ∀ x ∈ s, 1 ≤ x) (p : Int) (h0 : 0 ≤ p) :
    (coords s p).2 = p / prod s ∧ InR s (coords s p).1 ∧ placeN 0 s (coords s p).1 = p % prod s := by
  induction s with
  | nil => simp [coords, prod, InR, placeN, Int.emod_one]
  | cons n s ih =>
    have hn := hs n (by simp)
    have hs' : ∀ x ∈ s, 1 ≤ x := fun x hx => hs x (by simp [hx])
    obtain ⟨h1, h2, h3⟩ := ih hs'
    have hp := prod_pos hs'
    simp only [coords, prod, InR, placeN]
    refine ⟨?_, ⟨Int.emod_nonneg _ (by omega), Int.emod_lt_of_pos _ (by omega), h2⟩, ?_⟩
    · rw [h1, Int.ediv_ediv_of_nonneg (by omega), Int.mul_comm]
    · rw [placeN_at h2, h3, h1, Int.zero_mul, Int.zero_add]
      rw [Int.mul_comm n, emod_two p _ n (by omega) (by omega), Int.mul_comm (prod s)]
      omega

theorem coords_place {s t : List Int} (h : InR s t) : coords s (placeN 0 s t) = (t, 0) := by
  have key : ∀ (s t : List Int), InR s t → ∀ p : Int, 0 ≤ p → coords s (p * prod s + placeN 0 s t) = (t, p) := by
    intro s
    induction s with
    | nil => intro t h p _; cases t with
      | nil => simp [coords, prod, placeN]
      | cons => exact h.elim
    | cons n s ih =>
      intro t h p hp
      cases t with
      | nil => exact h.elim
      | cons i t =>
        obtain ⟨h0, h1, h2⟩ := h
        have e : p * prod (n :: s) + placeN 0 (n :: s) (i :: t) = (p * n + i) * prod s + placeN 0 s t := by
          simp only [prod, placeN, Int.zero_mul, Int.zero_add]
          rw [placeN_at h2 i, Int.add_mul, Int.mul_assoc, Int.add_assoc]
        have hpn : 0 ≤ p * n := Int.mul_nonneg hp (by omega)
        rw [e, coords, ih t h2 (p * n + i) (by omega)]
        have hmod : (p * n + i) % n = i := by rw [Int.add_comm, Int.add_mul_emod_self_right, Int.emod_eq_of_lt h0 h1]
        have hdiv : (p * n + i) / n = p := by rw [Int.add_comm, Int.add_mul_ediv_right _ _ (by omega), Int.ediv_eq_zero_of_lt h0 h1, Int.zero_add]
        simp only [hmod, hdiv]
  have := key s t h 0 (by omega)
  simpa using this

/-- A shape that has a place has no axis of length 0. -/
theorem count_pos {s : List Int} {q p : Int} (hc : count s = .ok q) (h0 : 0 ≤ p) (hp : p < q) : ∀ x ∈ s, 1 ≤ x := by
  obtain ⟨_, hb, hq, _, _⟩ := count_ok hc
  intro x hx
  have h1 := (hb x hx).1
  rcases Int.lt_or_le 0 x with h | h
  · exact h
  · have hz : x = 0 := by omega
    have := prod_zero (hz ▸ hx)
    omega

theorem atp_ok {s c : List Int} {p : Int} (h : atp s p = .ok c) : (∃ q, count s = .ok q) ∧ 0 ≤ p ∧ p < prod s ∧ (∀ x ∈ s, 1 ≤ x) ∧ InR s c ∧ placeN 0 s c = p ∧ c = (coords s p).1 := by
  cases hc : count s with
  | error e => rw [atp, hc] at h; cases h
  | ok q =>
    rw [atp, hc] at h
    simp only at h
    split at h
    · cases h
    · rename_i hn
      obtain rfl := Except.ok.inj h
      obtain ⟨_, _, hq, _, _⟩ := count_ok hc
      have hpos := count_pos hc (p := p) (by omega) (by omega)
      obtain ⟨h1, h2, h3⟩ := coords_spec hpos p (by omega)
      exact ⟨⟨q, rfl⟩, by omega, by omega, hpos, h2, by rw [h3, Int.emod_eq_of_lt (by omega) (by omega)], rfl⟩

theorem atp_in {s c : List Int} {p : Int} (h : atp s p = .ok c) : InR s c ∧ placeN 0 s c = p := by
  obtain ⟨_, _, _, _, h1, h2, _⟩ := atp_ok h
  exact ⟨h1, h2⟩

theorem atp_mk {s t : List Int} {q : Int} (hc : count s = .ok q) (h : InR s t) : atp s (placeN 0 s t) = .ok t := by
  have hb := placeN_bound h
  obtain ⟨_, _, hq, _, _⟩ := count_ok hc
  rw [atp, hc]
  simp only
  rw [if_neg (by omega), coords_place h]

/-- THERE AND BACK. -/
theorem place_atp {s c : List Int} {p : Int} (h : atp s p = .ok c) : place s c = .ok p := by
  obtain ⟨⟨q, hq⟩, _, _, _, hin, hp, _⟩ := atp_ok h
  rw [place_mk hq hin, hp]

theorem atp_place {s t : List Int} {p : Int} (h : place s t = .ok p) : atp s p = .ok t ∧ ∃ q, count s = .ok q ∧ 0 ≤ p ∧ p < q := by
  obtain ⟨⟨q, hq⟩, hin, rfl, h0, h1⟩ := place_ok h
  obtain ⟨_, _, hqp, _, _⟩ := count_ok hq
  exact ⟨atp_mk hq hin, q, hq, h0, by omega⟩

theorem InR.get {s t : List Int} (h : InR s t) {k : Nat} (hk : k < s.length) : 0 ≤ t.getD k 0 ∧ t.getD k 0 < s.getD k 0 := by
  induction s generalizing t k with
  | nil => simp at hk
  | cons n s ih => cases t with
    | nil => exact h.elim
    | cons i t =>
      cases k with
      | zero => simpa using ⟨h.1, h.2.1⟩
      | succ k => simpa using ih h.2.2 (by simpa using hk)

theorem InR.drop {s t : List Int} (h : InR s t) (k : Nat) : InR (s.drop k) (t.drop k) := by
  induction k generalizing s t with
  | zero => simpa using h
  | succ k ih => cases s with
    | nil => cases t with
      | nil => simpa using h
      | cons => exact h.elim
    | cons n s => cases t with
      | nil => exact h.elim
      | cons i t => simpa using ih h.2.2

/-- ROW BY ROW: what differs first decides. -/
theorem placeN_lt {s x y : List Int} (hx : InR s x) (hy : InR s y) {k : Nat} (hk : k < s.length) (he : x.take k = y.take k) (hlt : x.getD k 0 < y.getD k 0) :
    placeN 0 s x < placeN 0 s y := by
  induction s generalizing x y k with
  | nil => simp at hk
  | cons n s ih => cases x with
    | nil => exact hx.elim
    | cons i x => cases y with
      | nil => exact hy.elim
      | cons j y =>
        simp only [placeN, Int.zero_mul, Int.zero_add]
        rw [placeN_at hx.2.2, placeN_at hy.2.2]
        have b1 := placeN_bound hx.2.2
        have b2 := placeN_bound hy.2.2
        cases k with
        | zero =>
          simp at hlt
          have : (i + 1) * prod s ≤ j * prod s := Int.mul_le_mul_of_nonneg_right (by omega) (by omega)
          rw [Int.add_mul, Int.one_mul] at this
          omega
        | succ k =>
          simp only [List.take_succ_cons, List.cons.injEq] at he
          have := ih hx.2.2 hy.2.2 (by simpa using hk) he.2 (by simpa using hlt)
          rw [he.1]
          omega

end M
end Go.Proofs.YtldhklbpmfckcaaDoor
