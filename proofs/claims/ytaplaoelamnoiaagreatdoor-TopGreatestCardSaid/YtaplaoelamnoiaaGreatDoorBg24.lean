/- Texts that lie in one file: what is plain, rows, boxes, squares, and what is known of a world. No condition. -/
import Derived.Test.YtaplaoelamnoiaaGreatDoorBg00
import Derived.Test.YtaplaoelamnoiaaGreatDoorBg04
/- What the library's stable sort does to a row, in plain Lean: moves inside a part of it, sorted parts, two sorted parts made one. No program in sight; no condition. -/
namespace Go.Proofs.YtaplaoelamnoiaaGreatDoor
open Go.RowKit

/-- Inside [a, b) the same members, outside the same cells. -/
structure Mv (a b : Nat) (f g : Nat → Int) : Prop where
  out : ∀ p, p < a ∨ b ≤ p → g p = f p
  fwd : ∀ p, a ≤ p → p < b → ∃ q, a ≤ q ∧ q < b ∧ g p = f q
  bwd : ∀ q, a ≤ q → q < b → ∃ p, a ≤ p ∧ p < b ∧ g p = f q
theorem Mv.refl (a b : Nat) (f : Nat → Int) : Mv a b f f := ⟨fun _ _ => rfl, fun p h1 h2 => ⟨p, h1, h2, rfl⟩, fun p h1 h2 => ⟨p, h1, h2, rfl⟩⟩
theorem Mv.trans {a b : Nat} {f g h : Nat → Int} (x : Mv a b f g) (y : Mv a b g h) : Mv a b f h := by
  refine ⟨fun p hp => (y.out p hp).trans (x.out p hp), fun p h1 h2 => ?_, fun q h1 h2 => ?_⟩
  · obtain ⟨q, h3, h4, e⟩ := y.fwd p h1 h2
    obtain ⟨r, h5, h6, e'⟩ := x.fwd q h3 h4
    exact ⟨r, h5, h6, e.trans e'⟩
  · obtain ⟨r, h3, h4, e⟩ := x.bwd q h1 h2
    obtain ⟨p, h5, h6, e'⟩ := y.bwd r h3 h4
    exact ⟨p, h5, h6, e'.trans e⟩
theorem Mv.mono {a b a' b' : Nat} {f g : Nat → Int} (x : Mv a b f g) (ha : a' ≤ a) (hb : b ≤ b') : Mv a' b' f g := by
  refine ⟨fun p hp => x.out p (by omega), fun p h1 h2 => ?_, fun q h1 h2 => ?_⟩
  · by_cases h : a ≤ p ∧ p < b
    · obtain ⟨q, h3, h4, e⟩ := x.fwd p h.1 h.2
      exact ⟨q, by omega, by omega, e⟩
    · exact ⟨p, h1, h2, x.out p (by omega)⟩
  · by_cases h : a ≤ q ∧ q < b
    · obtain ⟨p, h3, h4, e⟩ := x.bwd q h.1 h.2
      exact ⟨p, by omega, by omega, e⟩
    · exact ⟨q, h1, h2, x.out q (by omega)⟩
theorem Mv.of_eq {a b : Nat} {f g h : Nat → Int} (x : Mv a b f g) (e : ∀ p, h p = g p) : Mv a b f h :=
  ⟨fun p hp => (e p).trans (x.out p hp), fun p h1 h2 => by rw [e]; exact x.fwd p h1 h2, fun q h1 h2 => by obtain ⟨p, h3, h4, h5⟩ := x.bwd q h1 h2; exact ⟨p, h3, h4, (e p).trans h5⟩⟩

/-- Two cells change places. -/
def sw (i j : Nat) (f : Nat → Int) (p : Nat) : Int := if p = i then f j else if p = j then f i else f p
theorem sw_one (i j : Nat) (f : Nat → Int) : sw i j f i = f j := if_pos rfl
theorem sw_two (i j : Nat) (f : Nat → Int) : sw i j f j = f i := by
  unfold sw
  by_cases h : j = i
  · rw [if_pos h, h]
  · rw [if_neg h, if_pos rfl]
theorem sw_far {i j p : Nat} (f : Nat → Int) (h : p ≠ i) (h' : p ≠ j) : sw i j f p = f p := by unfold sw; rw [if_neg h, if_neg h']
theorem mv_sw {a b i j : Nat} (f : Nat → Int) (hi : a ≤ i ∧ i < b) (hj : a ≤ j ∧ j < b) : Mv a b f (sw i j f) := by
  refine ⟨fun p hp => sw_far f (by omega) (by omega), fun p h1 h2 => ?_, fun q h1 h2 => ?_⟩
  · by_cases e : p = i
    · exact ⟨j, hj.1, hj.2, by rw [e, sw_one]⟩
    · by_cases e' : p = j
      · exact ⟨i, hi.1, hi.2, by rw [e', sw_two]⟩
      · exact ⟨p, h1, h2, sw_far f e e'⟩
  · by_cases e : q = i
    · exact ⟨j, hj.1, hj.2, by rw [e, sw_two]⟩
    · by_cases e' : q = j
      · exact ⟨i, hi.1, hi.2, by rw [e', sw_one]⟩
      · exact ⟨q, h1, h2, sw_far f e e'⟩

/-- In order by a key. -/
def Srt (key : Int → Int) (f : Nat → Int) (a b : Nat) : Prop := ∀ p q, a ≤ p → p ≤ q → q < b → key (f p) ≤ key (f q)
theorem Srt.same {key : Int → Int} {f g : Nat → Int} {a b : Nat} (h : Srt key f a b) (e : ∀ p, a ≤ p → p < b → g p = f p) : Srt key g a b := fun p q h1 h2 h3 => by
  rw [e p h1 (by omega), e q (by omega) h3]; exact h p q h1 h2 h3
theorem Srt.none {key : Int → Int} {f : Nat → Int} {a b : Nat} (h : b ≤ a + 1) : Srt key f a b := fun p q h1 h2 h3 => by
  rw [show p = q by omega]; exact Int.le_refl _
theorem Srt.join {key : Int → Int} {f : Nat → Int} {a m b : Nat} (h1 : Srt key f a m) (h2 : Srt key f m b) (hc : ∀ p q, a ≤ p → p < m → m ≤ q → q < b → key (f p) ≤ key (f q)) : Srt key f a b := fun p q k1 k2 k3 => by
  by_cases e : q < m
  · exact h1 p q k1 k2 e
  · by_cases e' : p < m
    · exact hc p q k1 e' (by omega) k3
    · exact h2 p q (by omega) k2 k3

/-- One cell, at j, is still on its way down; all others up to i are in order. -/
def Hole (key : Int → Int) (f : Nat → Int) (a i j : Nat) : Prop :=
  (∀ p q, a ≤ p → p ≤ q → q ≤ i → p ≠ j → q ≠ j → key (f p) ≤ key (f q)) ∧ ∀ q, j < q → q ≤ i → key (f j) ≤ key (f q)
theorem hole_start {key : Int → Int} {f : Nat → Int} {a i : Nat} (h : Srt key f a i) : Hole key f a i i :=
  ⟨fun p q h1 h2 h3 h4 h5 => h p q h1 h2 (by omega), fun q h1 h2 => absurd h1 (by omega)⟩
theorem hole_step {key : Int → Int} {f : Nat → Int} {a i k : Nat} (ha : a ≤ k) (hk : k + 1 ≤ i) (h : Hole key f a i (k + 1)) (hlt : key (f (k + 1)) < key (f k)) : Hole key (sw (k + 1) k f) a i k := by
  refine ⟨fun p q h1 h2 h3 h4 h5 => ?_, fun q h1 h2 => ?_⟩
  · by_cases e : q = k + 1
    · by_cases e' : p = k + 1
      · rw [e, e']; exact Int.le_refl _
      · rw [e, sw_one, sw_far f e' h4]
        exact h.1 p k h1 (by omega) (by omega) (by omega) (by omega)
    · by_cases e' : p = k + 1
      · rw [e', sw_one, sw_far f e h5]
        exact h.1 k q ha (by omega) h3 (by omega) e
      · rw [sw_far f e' h4, sw_far f e h5]
        exact h.1 p q h1 h2 h3 e' e
  · rw [sw_two]
    by_cases e : q = k + 1
    · rw [e, sw_one]; omega
    · rw [sw_far f e (by omega)]
      exact h.2 q (by omega) h2
theorem hole_end {key : Int → Int} {f : Nat → Int} {a i j : Nat} (h : Hole key f a i j) (hj : j ≤ i) (he : j = a ∨ ∃ k, j = k + 1 ∧ key (f k) ≤ key (f j)) : Srt key f a (i + 1) := by
  intro p q h1 h2 h3
  by_cases e : q = j
  · by_cases e' : p = j
    · rw [e, e']; exact Int.le_refl _
    · rcases he with he | ⟨k, hk, he⟩
      · omega
      · rw [e]
        by_cases e2 : p = k
        · rw [e2]; exact he
        · exact Int.le_trans (h.1 p k h1 (by omega) (by omega) e' (by omega)) he
  · by_cases e' : p = j
    · rw [e']; exact h.2 q (by omega) (by omega)
    · exact h.1 p q h1 h2 (by omega) e' e

/-- The cell at a, behind those up to k. -/
def mvUp (f : Nat → Int) (a k p : Nat) : Int := if p < a then f p else if p < k then f (p + 1) else if p = k then f a else f p
theorem mvUp_zero (f : Nat → Int) (a p : Nat) : mvUp f a a p = f p := by
  unfold mvUp
  by_cases h : p < a
  · rw [if_pos h]
  · rw [if_neg h, if_neg h]
    by_cases h' : p = a
    · rw [if_pos h', h']
    · rw [if_neg h']
theorem mvUp_step (f : Nat → Int) (a k p : Nat) (h : a ≤ k) : sw k (k + 1) (mvUp f a k) p = mvUp f a (k + 1) p := by
  unfold sw mvUp
  by_cases h1 : p = k
  · rw [if_pos h1, if_neg (by omega), if_neg (by omega), if_neg (by omega), if_neg (by omega), if_pos (by omega), h1]
  · rw [if_neg h1]
    by_cases h2 : p = k + 1
    · rw [if_pos h2, if_neg (by omega), if_neg (by omega), if_pos rfl, if_neg (by omega), if_neg (by omega), if_pos h2]
    · rw [if_neg h2]
      by_cases h3 : p < a
      · rw [if_pos h3, if_pos h3]
      · rw [if_neg h3, if_neg h3]
        by_cases h4 : p < k
        · rw [if_pos h4, if_pos (by omega)]
        · rw [if_neg h4, if_neg h1, if_neg (show ¬ p < k + 1 by omega), if_neg h2]
theorem mv_up {f : Nat → Int} {a k b : Nat} (h : a ≤ k) (hb : k < b) : Mv a b f (mvUp f a k) := by
  refine ⟨fun p hp => ?_, fun p h1 h2 => ?_, fun q h1 h2 => ?_⟩
  · unfold mvUp
    by_cases h3 : p < a
    · rw [if_pos h3]
    · rw [if_neg h3, if_neg (by omega), if_neg (by omega)]
  · unfold mvUp
    rw [if_neg (by omega)]
    by_cases h3 : p < k
    · exact ⟨p + 1, by omega, by omega, by rw [if_pos h3]⟩
    · by_cases h4 : p = k
      · exact ⟨a, by omega, by omega, by rw [if_neg h3, if_pos h4]⟩
      · exact ⟨p, h1, h2, by rw [if_neg h3, if_neg h4]⟩
  · unfold mvUp
    by_cases h3 : q = a
    · exact ⟨k, h, hb, by rw [if_neg (by omega), if_neg (by omega), if_pos rfl, h3]⟩
    · by_cases h4 : q ≤ k
      · exact ⟨q - 1, by omega, by omega, by rw [if_neg (by omega), if_pos (by omega), show q - 1 + 1 = q by omega]⟩
      · exact ⟨q, h1, h2, by rw [if_neg (by omega), if_neg (by omega), if_neg (by omega)]⟩
/-- The cell at m, ahead of those from k on. -/
def mvDn (f : Nat → Int) (m k p : Nat) : Int := if p < k then f p else if p = k then f m else if p ≤ m then f (p - 1) else f p
theorem mvDn_zero (f : Nat → Int) (m p : Nat) : mvDn f m m p = f p := by
  unfold mvDn
  by_cases h : p < m
  · rw [if_pos h]
  · rw [if_neg h]
    by_cases h' : p = m
    · rw [if_pos h', h']
    · rw [if_neg h', if_neg (by omega)]
theorem mvDn_step (f : Nat → Int) (m k p : Nat) (h : k + 1 ≤ m) : sw (k + 1) k (mvDn f m (k + 1)) p = mvDn f m k p := by
  unfold sw mvDn
  by_cases h1 : p = k + 1
  · rw [if_pos h1, if_pos (by omega), if_neg (by omega), if_neg (by omega), if_pos (by omega), h1, show k + 1 - 1 = k by omega]
  · rw [if_neg h1]
    by_cases h2 : p = k
    · rw [if_pos h2, if_neg (by omega), if_pos rfl, if_neg (by omega), if_pos h2]
    · rw [if_neg h2]
      by_cases h3 : p < k
      · rw [if_pos (by omega), if_pos h3]
      · rw [if_neg (by omega), if_neg h1, if_neg h3, if_neg h2]
theorem mv_dn {f : Nat → Int} {m k a b : Nat} (ha : a ≤ k) (h : k ≤ m) (hb : m < b) : Mv a b f (mvDn f m k) := by
  refine ⟨fun p hp => ?_, fun p h1 h2 => ?_, fun q h1 h2 => ?_⟩
  · unfold mvDn
    by_cases h3 : p < k
    · rw [if_pos h3]
    · rw [if_neg h3, if_neg (by omega), if_neg (by omega)]
  · unfold mvDn
    by_cases h3 : p < k
    · exact ⟨p, h1, h2, by rw [if_pos h3]⟩
    · by_cases h4 : p = k
      · exact ⟨m, by omega, by omega, by rw [if_neg h3, if_pos h4]⟩
      · by_cases h5 : p ≤ m
        · exact ⟨p - 1, by omega, by omega, by rw [if_neg h3, if_neg h4, if_pos h5]⟩
        · exact ⟨p, h1, h2, by rw [if_neg h3, if_neg h4, if_neg h5]⟩
  · unfold mvDn
    by_cases h3 : q = m
    · exact ⟨k, ha, by omega, by rw [if_neg (by omega), if_pos rfl, h3]⟩
    · by_cases h4 : k ≤ q ∧ q < m
      · exact ⟨q + 1, by omega, by omega, by rw [if_neg (by omega), if_neg (by omega), if_pos (by omega), show q + 1 - 1 = q by omega]⟩
      · by_cases h5 : q < k
        · exact ⟨q, h1, h2, by rw [if_pos h5]⟩
        · exact ⟨q, h1, h2, by rw [if_neg h5, if_neg (by omega), if_neg (by omega)]⟩

theorem mvUp_mid {f : Nat → Int} {a k p : Nat} (h : a ≤ p) (h' : p < k) : mvUp f a k p = f (p + 1) := by unfold mvUp; rw [if_neg (by omega), if_pos h']
theorem mvUp_at {f : Nat → Int} {a k p : Nat} (h : a ≤ k) (e : p = k) : mvUp f a k p = f a := by unfold mvUp; rw [if_neg (by omega), if_neg (by omega), if_pos e]
theorem mvUp_hi {f : Nat → Int} {a k p : Nat} (h : a ≤ k) (e : k < p) : mvUp f a k p = f p := by unfold mvUp; rw [if_neg (by omega), if_neg (by omega), if_neg (by omega)]
theorem mvDn_lo {f : Nat → Int} {m k p : Nat} (h : p < k) : mvDn f m k p = f p := by unfold mvDn; rw [if_pos h]
theorem mvDn_at {f : Nat → Int} {m k p : Nat} (h : p = k) : mvDn f m k p = f m := by unfold mvDn; rw [if_neg (by omega), if_pos h]
theorem mvDn_mid {f : Nat → Int} {m k p : Nat} (h : k < p) (h' : p ≤ m) : mvDn f m k p = f (p - 1) := by unfold mvDn; rw [if_neg (by omega), if_neg (by omega), if_pos h']
/-- One cell ahead of a sorted part, put into it. -/
theorem sym_up {key : Int → Int} {f : Nat → Int} {a b i : Nat} (hs : Srt key f (a + 1) b) (hi : a < i) (hb : i ≤ b) (hl : a + 1 < i → key (f (i - 1)) < key (f a)) (hr : i < b → key (f a) ≤ key (f i)) : Srt key (mvUp f a (i - 1)) a b := by
  obtain ⟨k, rfl⟩ : ∃ k, i = k + 1 := ⟨i - 1, by omega⟩
  rw [Nat.add_sub_cancel] at hl ⊢
  intro p q h1 h2 h3
  by_cases k1 : q < k
  · rw [mvUp_mid (p := q) (by omega) k1, mvUp_mid h1 (by omega)]
    exact hs _ _ (by omega) (by omega) (by omega)
  · by_cases k2 : q = k
    · rw [mvUp_at (p := q) (by omega) k2]
      by_cases k3 : p < k
      · rw [mvUp_mid h1 k3]
        have e1 := hs (p + 1) k (by omega) (by omega) (by omega)
        have e2 := hl (by omega)
        omega
      · rw [mvUp_at (by omega) (by omega)]
        exact Int.le_refl _
    · rw [mvUp_hi (p := q) (by omega) (by omega)]
      by_cases k3 : p < k
      · rw [mvUp_mid h1 k3]
        exact hs _ _ (by omega) (by omega) h3
      · by_cases k4 : p = k
        · rw [mvUp_at (by omega) k4]
          have e1 := hr (by omega)
          have e2 := hs (k + 1) q (by omega) (by omega) h3
          omega
        · rw [mvUp_hi (by omega) (by omega)]
          exact hs _ _ (by omega) h2 h3
/-- One cell behind a sorted part, put into it. -/
theorem sym_dn {key : Int → Int} {f : Nat → Int} {a m i : Nat} (hs : Srt key f a m) (hi : a ≤ i) (hb : i ≤ m) (hl : a < i → key (f (i - 1)) ≤ key (f m)) (hr : i < m → key (f m) < key (f i)) : Srt key (mvDn f m i) a (m + 1) := by
  intro p q h1 h2 h3
  by_cases k1 : q < i
  · rw [mvDn_lo (p := q) k1, mvDn_lo (by omega)]
    exact hs _ _ h1 h2 (by omega)
  · by_cases k2 : q = i
    · rw [mvDn_at (p := q) k2]
      by_cases k3 : p < i
      · rw [mvDn_lo k3]
        have e1 := hs p (i - 1) h1 (by omega) (by omega)
        have e2 := hl (by omega)
        omega
      · rw [mvDn_at (by omega)]
        exact Int.le_refl _
    · rw [mvDn_mid (p := q) (by omega) (by omega)]
      by_cases k3 : p < i
      · rw [mvDn_lo k3]
        exact hs _ _ h1 (by omega) (by omega)
      · by_cases k4 : p = i
        · rw [mvDn_at k4]
          have e1 := hr (by omega)
          have e2 := hs i (q - 1) (by omega) (by omega) (by omega)
          omega
        · rw [mvDn_mid (by omega) (by omega)]
          exact hs _ _ (by omega) (by omega) (by omega)

/-- [a, m) behind [m, b). -/
def rot (f : Nat → Int) (a m b p : Nat) : Int := if p < a then f p else if p < a + (b - m) then f (p + (m - a)) else if p < b then f (p - (b - m)) else f p
theorem rot_lo {f : Nat → Int} {a m b p : Nat} (h : p < a) : rot f a m b p = f p := by unfold rot; rw [if_pos h]
theorem rot_left {f : Nat → Int} {a m b p : Nat} (h : a ≤ p) (h' : p < a + (b - m)) : rot f a m b p = f (p + (m - a)) := by unfold rot; rw [if_neg (by omega), if_pos h']
theorem rot_right {f : Nat → Int} {a m b p : Nat} (h : a + (b - m) ≤ p) (h' : p < b) : rot f a m b p = f (p - (b - m)) := by unfold rot; rw [if_neg (by omega), if_neg (by omega), if_pos h']
theorem rot_hi {f : Nat → Int} {a m b p : Nat} (h : b ≤ p) (hm : m ≤ b) (ha : a ≤ m) : rot f a m b p = f p := by unfold rot; rw [if_neg (by omega), if_neg (by omega), if_neg (by omega)]
theorem mv_rot {f : Nat → Int} {a m b : Nat} (ha : a ≤ m) (hm : m ≤ b) : Mv a b f (rot f a m b) := by
  refine ⟨fun p hp => ?_, fun p h1 h2 => ?_, fun q h1 h2 => ?_⟩
  · by_cases h3 : p < a
    · exact rot_lo h3
    · exact rot_hi (by omega) hm ha
  · by_cases h3 : p < a + (b - m)
    · exact ⟨p + (m - a), by omega, by omega, rot_left h1 h3⟩
    · exact ⟨p - (b - m), by omega, by omega, rot_right (by omega) h2⟩
  · by_cases h3 : q < m
    · exact ⟨q + (b - m), by omega, by omega, by rw [rot_right (by omega) (by omega), show q + (b - m) - (b - m) = q by omega]⟩
    · exact ⟨q - (m - a), by omega, by omega, by rw [rot_left (by omega) (by omega), show q - (m - a) + (m - a) = q by omega]⟩
/-- What is still to be turned. -/
def RotInv (T d : Nat → Int) (m i j : Nat) : Prop :=
  (∀ p, m - i ≤ p → p < m - i + j → T p = d (p + i)) ∧ (∀ p, m - i + j ≤ p → p < m + j → T p = d (p - j)) ∧ ∀ p, p < m - i ∨ m + j ≤ p → T p = d p
theorem rot_start {f : Nat → Int} {a m b : Nat} (ha : a ≤ m) (hm : m ≤ b) : RotInv (rot f a m b) f m (m - a) (b - m) := by
  refine ⟨fun p h1 h2 => ?_, fun p h1 h2 => ?_, fun p hp => ?_⟩
  · exact rot_left (by omega) (by omega)
  · exact rot_right (by omega) (by omega)
  · by_cases h3 : p < a
    · exact rot_lo h3
    · exact rot_hi (by omega) hm ha
/-- n cells from a on and n cells from b on, the first i of them changed. -/
def swr (f : Nat → Int) (a b i p : Nat) : Int := if a ≤ p ∧ p < a + i then f (p + (b - a)) else if b ≤ p ∧ p < b + i then f (p - (b - a)) else f p
theorem swr_zero (f : Nat → Int) (a b p : Nat) : swr f a b 0 p = f p := by unfold swr; rw [if_neg (by omega), if_neg (by omega)]
theorem swr_step (f : Nat → Int) {a b i n : Nat} (hi : i < n) (hab : a + n ≤ b) (p : Nat) : sw (a + i) (b + i) (swr f a b i) p = swr f a b (i + 1) p := by
  unfold sw swr
  by_cases h1 : p = a + i
  · rw [if_pos h1, if_neg (by omega), if_neg (by omega), if_pos (show a ≤ p ∧ p < a + (i + 1) by omega), h1, show a + i + (b - a) = b + i by omega]
  · rw [if_neg h1]
    by_cases h2 : p = b + i
    · rw [if_pos h2, if_neg (by omega), if_neg (by omega), if_neg (show ¬ (a ≤ p ∧ p < a + (i + 1)) by omega), if_pos (show b ≤ p ∧ p < b + (i + 1) by omega), h2, show b + i - (b - a) = a + i by omega]
    · rw [if_neg h2]
      by_cases h3 : a ≤ p ∧ p < a + i
      · rw [if_pos h3, if_pos (show a ≤ p ∧ p < a + (i + 1) by omega)]
      · rw [if_neg h3, if_neg (show ¬ (a ≤ p ∧ p < a + (i + 1)) by omega)]
        by_cases h4 : b ≤ p ∧ p < b + i
        · rw [if_pos h4, if_pos (show b ≤ p ∧ p < b + (i + 1) by omega)]
        · rw [if_neg h4, if_neg (show ¬ (b ≤ p ∧ p < b + (i + 1)) by omega)]
theorem swr_a {f : Nat → Int} {a b i p : Nat} (h : a ≤ p) (h' : p < a + i) : swr f a b i p = f (p + (b - a)) := by unfold swr; rw [if_pos ⟨h, h'⟩]
theorem swr_b {f : Nat → Int} {a b i p : Nat} (hab : a + i ≤ b) (h : b ≤ p) (h' : p < b + i) : swr f a b i p = f (p - (b - a)) := by unfold swr; rw [if_neg (by omega), if_pos ⟨h, h'⟩]
theorem swr_far {f : Nat → Int} {a b i p : Nat} (h : ¬ (a ≤ p ∧ p < a + i)) (h' : ¬ (b ≤ p ∧ p < b + i)) : swr f a b i p = f p := by unfold swr; rw [if_neg h, if_neg h']
theorem rot_one {T d : Nat → Int} {m i j : Nat} (hi : i ≤ m) (hij : j < i) (h : RotInv T d m i j) : RotInv T (swr d (m - i) m j) m (i - j) j := by
  obtain ⟨h1, h2, h3⟩ := h
  refine ⟨fun p k1 k2 => ?_, fun p k1 k2 => ?_, fun p kp => ?_⟩
  · rw [swr_b (by omega) (by omega) (by omega), h2 p (by omega) (by omega)]
    congr 1; omega
  · rw [swr_far (by omega) (by omega), h2 p (by omega) (by omega)]
  · by_cases k : m - i ≤ p ∧ p < m - i + j
    · rw [swr_a k.1 k.2, h1 p k.1 k.2]
      congr 1; omega
    · rw [swr_far k (by omega), h3 p (by omega)]
theorem rot_two {T d : Nat → Int} {m i j : Nat} (hi : i ≤ m) (hij : i < j) (h : RotInv T d m i j) : RotInv T (swr d (m - i) (m + j - i) i) m i (j - i) := by
  obtain ⟨h1, h2, h3⟩ := h
  refine ⟨fun p k1 k2 => ?_, fun p k1 k2 => ?_, fun p kp => ?_⟩
  · rw [swr_far (by omega) (by omega), h1 p (by omega) (by omega)]
  · rw [swr_a (by omega) (by omega), h1 p (by omega) (by omega)]
    congr 1; omega
  · by_cases k : m + j - i ≤ p ∧ p < m + j
    · rw [swr_b (by omega) k.1 (by omega), h2 p (by omega) k.2]
      congr 1; omega
    · rw [swr_far (by omega) (by omega), h3 p (by omega)]
theorem rot_end {T d : Nat → Int} {m i : Nat} (hi : i ≤ m) (h : RotInv T d m i i) (p : Nat) : swr d (m - i) m i p = T p := by
  obtain ⟨h1, h2, h3⟩ := h
  by_cases k1 : m - i ≤ p ∧ p < m
  · rw [swr_a k1.1 (by omega), h1 p (by omega) (by omega)]
    congr 1; omega
  · by_cases k2 : m ≤ p ∧ p < m + i
    · rw [swr_b (by omega) k2.1 k2.2, h2 p (by omega) (by omega)]
      congr 1; omega
    · rw [swr_far (by omega) k2, h3 p (by omega)]

/-- Where the two parts are cut, found by halves: what is known at start and at r. -/
def Cutk (key : Int → Int) (f : Nat → Int) (n s0 r0 s r : Nat) : Prop :=
  s0 ≤ s ∧ s ≤ r ∧ r ≤ r0 ∧ (s0 < s → key (f (s - 1)) ≤ key (f (n - s))) ∧ (r < r0 → key (f (n - 1 - r)) < key (f r))
/-- Two sorted parts, cut and turned: four sorted parts, and those of the left half come ahead of those of the right half. -/
theorem sym_cut {key : Int → Int} {f : Nat → Int} {a m b mid s s0 r0 : Nat} (hm : a < m) (hb : m < b) (hmid : mid = (a + b) / 2) (h1 : Srt key f a m) (h2 : Srt key f m b)
    (h0 : (mid < m ∧ s0 = mid + m - b ∧ r0 = mid) ∨ (m ≤ mid ∧ s0 = a ∧ r0 = m)) (hc : Cutk key f (mid + m) s0 r0 s s) :
    a ≤ s ∧ s ≤ m ∧ s ≤ mid ∧ m ≤ mid + m - s ∧ mid ≤ mid + m - s ∧ mid + m - s ≤ b ∧
    Srt key (rot f s m (mid + m - s)) a s ∧ Srt key (rot f s m (mid + m - s)) s mid ∧ Srt key (rot f s m (mid + m - s)) mid (mid + m - s) ∧ Srt key (rot f s m (mid + m - s)) (mid + m - s) b ∧
    ∀ p q, a ≤ p → p < mid → mid ≤ q → q < b → key (rot f s m (mid + m - s) p) ≤ key (rot f s m (mid + m - s) q) := by
  obtain ⟨c1, c2, c3, c4, c5⟩ := hc
  have e1 : a ≤ s := by omega
  have e2 : s ≤ m := by omega
  have e3 : s ≤ mid := by omega
  have e4 : m ≤ mid + m - s := by omega
  have e5 : mid ≤ mid + m - s := by omega
  have e6 : mid + m - s ≤ b := by omega
  generalize hE : mid + m - s = E at *
  refine ⟨e1, e2, e3, e4, e5, e6, ?_, ?_, ?_, ?_, ?_⟩
  · exact fun p q k1 k2 k3 => by rw [rot_lo (by omega), rot_lo k3]; exact h1 p q k1 k2 (by omega)
  · exact fun p q k1 k2 k3 => by rw [rot_left k1 (by omega), rot_left (by omega) (by omega)]; exact h2 _ _ (by omega) (by omega) (by omega)
  · exact fun p q k1 k2 k3 => by rw [rot_right (by omega) (by omega), rot_right (by omega) k3]; exact h1 _ _ (by omega) (by omega) (by omega)
  · exact fun p q k1 k2 k3 => by rw [rot_hi k1 e4 e2, rot_hi (by omega) e4 e2]; exact h2 _ _ (by omega) (by omega) k3
  · intro p q k1 k2 k3 k4
    by_cases p1 : p < s
    · rw [rot_lo p1]
      by_cases q1 : q < E
      · rw [rot_right (by omega) q1]
        exact h1 _ _ k1 (by omega) (by omega)
      · rw [rot_hi (by omega) e4 e2]
        have x1 := h1 p (s - 1) k1 (by omega) (by omega)
        have x2 := c4 (by omega)
        have x3 := h2 E q (by omega) (by omega) k4
        omega
    · rw [rot_left (by omega) (by omega)]
      by_cases q1 : q < E
      · rw [rot_right (by omega) q1]
        have x1 := h2 (p + (m - s)) (E - 1) (by omega) (by omega) (by omega)
        have x2 := c5 (by omega)
        have x3 := h1 s (q - (E - m)) (by omega) (by omega) (by omega)
        rw [show mid + m - 1 - s = E - 1 by omega] at x2
        omega
      · rw [rot_hi (by omega) e4 e2]
        exact h2 _ _ (by omega) (by omega) k4
theorem rot_id {f : Nat → Int} {s m e : Nat} (hs : s ≤ m) (he : m ≤ e) (h : ¬ (s < m ∧ m < e)) (p : Nat) : rot f s m e p = f p := by
  by_cases h1 : p < s
  · exact rot_lo h1
  · by_cases h2 : p < s + (e - m)
    · rw [rot_left (by omega) h2, show m - s = 0 by omega, Nat.add_zero]
    · by_cases h3 : p < e
      · rw [rot_right (by omega) h3, show e - m = 0 by omega, Nat.sub_zero]
      · exact rot_hi (by omega) he hs
/-- Both halves in order, each of the left one ahead of each of the right one: all in order. -/
theorem sym_join {key : Int → Int} {f g h : Nat → Int} {a mid b : Nat} (h1 : Mv a mid f g) (h2 : Mv mid b g h) (s1 : Srt key g a mid) (s2 : Srt key h mid b)
    (hc : ∀ p q, a ≤ p → p < mid → mid ≤ q → q < b → key (f p) ≤ key (f q)) : Srt key h a b := by
  refine Srt.join (m := mid) (s1.same fun p k1 k2 => h2.out p (.inl k2)) s2 fun p q k1 k2 k3 k4 => ?_
  rw [h2.out p (.inl k2)]
  obtain ⟨p', l1, l2, e1⟩ := h1.fwd p k1 k2
  obtain ⟨q', l3, l4, e2⟩ := h2.fwd q k3 k4
  rw [e1, e2, h1.out q' (.inr l3)]
  exact hc p' q' l1 l2 l3 l4

/-- The first parts of twice the length are in order, the other ones are parts of one length in order. -/
def Pass (key : Int → Int) (f : Nat → Int) (n bs i : Nat) : Prop :=
  (∀ t, t < i → Srt key f (2 * bs * t) (2 * bs * (t + 1))) ∧ ∀ t, 2 * i ≤ t → Srt key f (bs * t) (min (bs * (t + 1)) n)
theorem pass_start {key : Int → Int} {f : Nat → Int} {n bs : Nat} (h : ∀ t, Srt key f (bs * t) (min (bs * (t + 1)) n)) : Pass key f n bs 0 := ⟨fun t ht => absurd ht (by omega), fun t _ => h t⟩
theorem blk_two (bs i : Nat) : bs * (2 * i) = 2 * bs * i := by rw [Nat.mul_comm 2 bs, Nat.mul_assoc]
theorem blk_two1 (bs i : Nat) : bs * (2 * i + 1) = 2 * bs * i + bs := by rw [Nat.mul_add, blk_two, Nat.mul_one]
theorem blk_two2 (bs i : Nat) : bs * (2 * i + 1 + 1) = 2 * bs * (i + 1) := by rw [show 2 * i + 1 + 1 = 2 * (i + 1) by omega, blk_two]
theorem pass_left {key : Int → Int} {f : Nat → Int} {n bs i : Nat} (h : Pass key f n bs i) (hb : 2 * bs * i + bs ≤ n) : Srt key f (2 * bs * i) (2 * bs * i + bs) := by
  have h2 := h.2 (2 * i) (Nat.le_refl _)
  rw [blk_two, blk_two1, Nat.min_eq_left hb] at h2
  exact h2
theorem pass_right {key : Int → Int} {f : Nat → Int} {n bs i : Nat} (h : Pass key f n bs i) : Srt key f (2 * bs * i + bs) (min (2 * bs * (i + 1)) n) := by
  have h2 := h.2 (2 * i + 1) (by omega)
  rw [blk_two1, blk_two2] at h2
  exact h2
theorem pass_step {key : Int → Int} {f g : Nat → Int} {n bs i : Nat} (h : Pass key f n bs i) (hm : Mv (2 * bs * i) (2 * bs * (i + 1)) f g) (hs : Srt key g (2 * bs * i) (2 * bs * (i + 1))) : Pass key g n bs (i + 1) := by
  refine ⟨fun t ht => ?_, fun t ht => ?_⟩
  · by_cases e : t = i
    · rw [e]; exact hs
    · have hle : 2 * bs * (t + 1) ≤ 2 * bs * i := Nat.mul_le_mul_left _ (by omega)
      exact (h.1 t (by omega)).same fun p _ k2 => hm.out p (.inl (by omega))
  · have hle : 2 * bs * (i + 1) ≤ bs * t := by rw [← blk_two]; exact Nat.mul_le_mul_left _ ht
    exact (h.2 t (by omega)).same fun p k1 _ => hm.out p (.inr (by omega))
theorem pass_end {key : Int → Int} {f g : Nat → Int} {n bs i : Nat} (h : Pass key f n bs i) (hn : n < 2 * bs * (i + 1)) (hm : Mv (2 * bs * i) n f g) (hs : Srt key g (2 * bs * i) n) (t : Nat) : Srt key g (2 * bs * t) (min (2 * bs * (t + 1)) n) := by
  by_cases e : t = i
  · rw [e, Nat.min_eq_right (Nat.le_of_lt hn)]; exact hs
  · by_cases e' : t < i
    · have hle : 2 * bs * (t + 1) ≤ 2 * bs * i := Nat.mul_le_mul_left _ (by omega)
      intro p q k1 k2 k3
      rw [hm.out p (.inl (by omega)), hm.out q (.inl (by omega))]
      exact h.1 t e' p q k1 k2 (by omega)
    · have hle : 2 * bs * (i + 1) ≤ 2 * bs * t := Nat.mul_le_mul_left _ (by omega)
      exact fun p q k1 k2 k3 => absurd k3 (by omega)
theorem pass_short {key : Int → Int} {f : Nat → Int} {n bs i : Nat} (h : Pass key f n bs i) (hb : n ≤ 2 * bs * i + bs) : Srt key f (2 * bs * i) n := by
  have h2 := h.2 (2 * i) (Nat.le_refl _)
  rw [blk_two, blk_two1, Nat.min_eq_right hb] at h2
  exact h2
theorem pass_all {key : Int → Int} {f : Nat → Int} {n bs : Nat} (h : ∀ t, Srt key f (bs * t) (min (bs * (t + 1)) n)) (hb : n ≤ bs) : Srt key f 0 n := by
  have h2 := h 0
  rw [Nat.mul_zero, Nat.zero_add, Nat.mul_one, Nat.min_eq_right hb] at h2
  exact h2

/-- Of one key the lesser index comes first. -/
def St (key : Int → Int) (f : Nat → Int) (a b : Nat) : Prop := ∀ p q, a ≤ p → p < q → q < b → key (f p) = key (f q) → f p < f q
theorem St.same {key : Int → Int} {f g : Nat → Int} {a b : Nat} (h : St key f a b) (e : ∀ p, g p = f p) : St key g a b := fun p q h1 h2 h3 h4 => by
  rw [e, e] at h4 ⊢; exact h p q h1 h2 h3 h4
theorem st_rot {key : Int → Int} {f : Nat → Int} {a b s m e : Nat} (h : St key f a b) (ha : a ≤ s) (hs : s ≤ m) (hm : m ≤ e) (hb : e ≤ b) (hlt : ∀ i j, s ≤ i → i < m → m ≤ j → j < e → key (f j) < key (f i)) : St key (rot f s m e) a b := by
  intro p q h1 h2 h3 h4
  by_cases p1 : p < s
  · rw [rot_lo p1] at h4 ⊢
    by_cases q1 : q < s
    · rw [rot_lo q1] at h4 ⊢; exact h _ _ h1 h2 h3 h4
    · by_cases q2 : q < s + (e - m)
      · rw [rot_left (by omega) q2] at h4 ⊢; exact h _ _ h1 (by omega) (by omega) h4
      · by_cases q3 : q < e
        · rw [rot_right (by omega) q3] at h4 ⊢; exact h _ _ h1 (by omega) (by omega) h4
        · rw [rot_hi (by omega) hm hs] at h4 ⊢; exact h _ _ h1 h2 h3 h4
  · by_cases p2 : p < s + (e - m)
    · rw [rot_left (by omega) p2] at h4 ⊢
      by_cases q2 : q < s + (e - m)
      · rw [rot_left (by omega) q2] at h4 ⊢; exact h _ _ (by omega) (by omega) (by omega) h4
      · by_cases q3 : q < e
        · rw [rot_right (by omega) q3] at h4
          have := hlt (q - (e - m)) (p + (m - s)) (by omega) (by omega) (by omega) (by omega)
          omega
        · rw [rot_hi (by omega) hm hs] at h4 ⊢; exact h _ _ (by omega) (by omega) h3 h4
    · by_cases p3 : p < e
      · rw [rot_right (by omega) p3] at h4 ⊢
        by_cases q3 : q < e
        · rw [rot_right (by omega) q3] at h4 ⊢; exact h _ _ (by omega) (by omega) (by omega) h4
        · rw [rot_hi (by omega) hm hs] at h4 ⊢; exact h _ _ (by omega) (by omega) h3 h4
      · rw [rot_hi (by omega) hm hs] at h4 ⊢
        rw [rot_hi (by omega) hm hs] at h4 ⊢
        exact h _ _ h1 h2 h3 h4
theorem mvUp_rot (f : Nat → Int) {a k : Nat} (h : a ≤ k) (p : Nat) : mvUp f a k p = rot f a (a + 1) (k + 1) p := by
  by_cases h1 : p < a
  · rw [rot_lo h1]; unfold mvUp; rw [if_pos h1]
  · by_cases h2 : p < k
    · rw [mvUp_mid (by omega) h2, rot_left (by omega) (by omega)]; congr 1; omega
    · by_cases h3 : p = k
      · rw [mvUp_at h h3, rot_right (by omega) (by omega)]; congr 1; omega
      · rw [mvUp_hi h (by omega), rot_hi (by omega) (by omega) (by omega)]
theorem mvDn_rot (f : Nat → Int) {m k : Nat} (h : k ≤ m) (p : Nat) : mvDn f m k p = rot f k m (m + 1) p := by
  by_cases h1 : p < k
  · rw [rot_lo h1, mvDn_lo h1]
  · by_cases h2 : p = k
    · rw [mvDn_at h2, rot_left (by omega) (by omega)]; congr 1; omega
    · by_cases h3 : p ≤ m
      · rw [mvDn_mid (by omega) h3, rot_right (by omega) (by omega)]; congr 1; omega
      · rw [rot_hi (by omega) (by omega) h]; unfold mvDn; rw [if_neg h1, if_neg h2, if_neg h3]
theorem st_up {key : Int → Int} {f : Nat → Int} {a i b n : Nat} (h : St key f 0 n) (hs : Srt key f (a + 1) b) (hi : a < i) (hib : i ≤ b) (hn : b ≤ n) (hl : a + 1 < i → key (f (i - 1)) < key (f a)) : St key (mvUp f a (i - 1)) 0 n := by
  refine (st_rot (s := a) (m := a + 1) (e := i) h (Nat.zero_le _) (by omega) (by omega) (by omega) fun x j h1 h2 h3 h4 => ?_).same fun p => by rw [mvUp_rot f (by omega), show i - 1 + 1 = i by omega]
  have h5 := hs j (i - 1) (by omega) (by omega) (by omega)
  have h6 := hl (by omega)
  rw [show x = a by omega]
  omega
theorem st_dn {key : Int → Int} {f : Nat → Int} {a i m n : Nat} (h : St key f 0 n) (hs : Srt key f a m) (hai : a ≤ i) (hi : i ≤ m) (hn : m < n) (hr : i < m → key (f m) < key (f i)) : St key (mvDn f m i) 0 n := by
  refine (st_rot (s := i) (m := m) (e := m + 1) h (Nat.zero_le _) hi (by omega) (by omega) fun x j h1 h2 h3 h4 => ?_).same fun p => mvDn_rot f hi p
  have h5 := hs i x (by omega) h1 h2
  have h6 := hr (by omega)
  rw [show j = m by omega]
  omega
theorem st_step {key : Int → Int} {f : Nat → Int} {k n : Nat} (h : St key f 0 n) (hk : k + 1 < n) (hlt : key (f (k + 1)) < key (f k)) : St key (sw (k + 1) k f) 0 n := by
  refine (st_rot (s := k) (m := k + 1) (e := k + 1 + 1) h (Nat.zero_le _) (by omega) (by omega) (by omega) fun x j h1 h2 h3 h4 => by rw [show x = k by omega, show j = k + 1 by omega]; exact hlt).same fun p => ?_
  by_cases h1 : p = k + 1
  · rw [h1, sw_one, rot_right (by omega) (by omega)]; congr 1; omega
  · by_cases h2 : p = k
    · rw [h2, sw_two, rot_left (by omega) (by omega)]; congr 1; omega
    · rw [sw_far f h1 h2]
      by_cases h3 : p < k
      · rw [rot_lo h3]
      · rw [rot_hi (by omega) (by omega) (by omega)]
/-- What is cut off from the left part is greater than what is cut off from the right one. -/
theorem cut_strict {key : Int → Int} {f : Nat → Int} {a m b mid s s0 r0 : Nat} (hm : a < m) (hb : m < b) (hmid : mid = (a + b) / 2) (h1 : Srt key f a m) (h2 : Srt key f m b)
    (h0 : (mid < m ∧ s0 = mid + m - b ∧ r0 = mid) ∨ (m ≤ mid ∧ s0 = a ∧ r0 = m)) (hc : Cutk key f (mid + m) s0 r0 s s) (i j : Nat) (hi : s ≤ i) (him : i < m) (hj : m ≤ j) (hje : j < mid + m - s) : key (f j) < key (f i) := by
  obtain ⟨c1, c2, c3, c4, c5⟩ := hc
  have x1 := h1 s i (by omega) hi him
  have x2 := h2 j (mid + m - 1 - s) hj (by omega) (by omega)
  have x3 := c5 (by omega)
  omega
end Go.Proofs.YtaplaoelamnoiaaGreatDoor

/- The row that the library's stable sort works on: its cells are told, all else stays. No condition. -/
namespace Go.Proofs.YtaplaoelamnoiaaGreatDoor
open Go.RowKit

/-- The row that is being sorted: its cells, and all else as it was. -/
structure SRel (w0 : World) (g n : Nat) (f : Nat → Int) (w : World) : Prop where
  row : ∀ p, p < n → w.cell? ⟨g, p, none⟩ = some (.int .i64 (f p))
  fz : ∀ p, w.frozen? ⟨g, p, none⟩ = false
  but : But g w0 w
  bel : Below g w0 w
theorem SRel.drew {w0 w : World} {g n : Nat} {f : Nat → Int} (h : SRel w0 g n f w) (k : Nat) : SRel w0 g n f (w.drewN k) := ⟨h.row, h.fz, h.but, below_drewN h.bel k⟩
theorem SRel.same {w0 w : World} {g n : Nat} {f f' : Nat → Int} (h : SRel w0 g n f w) (e : ∀ p, p < n → f' p = f p) : SRel w0 g n f' w := ⟨fun p hp => by rw [e p hp]; exact h.row p hp, h.fz, h.but, h.bel⟩
theorem SRel.swap {w0 w : World} {g n : Nat} {f : Nat → Int} (h : SRel w0 g n f w) {i j : Nat} (hi : i < n) (hj : j < n) :
    SRel w0 g n (sw i j f) ((w.setCell ⟨g, i, none⟩ (.int .i64 (f j))).setCell ⟨g, j, none⟩ (.int .i64 (f i))) := by
  have hs : ∀ q, q < n → (w.cell? ⟨g, q, none⟩).isSome = true := fun q hq => by rw [h.row q hq]; rfl
  refine ⟨fun p hp => ?_, fun p => ?_, (h.but.set _ _).set _ _, (h.bel.setCell (by show g ≤ g; omega) _).setCell (by show g ≤ g; omega) _⟩
  · by_cases e2 : p = j
    · subst e2
      rw [sw_two]
      refine World.cell?_setCell_same' _ _ _ ?_
      by_cases e1 : p = i
      · subst e1
        rw [World.cell?_setCell_same' _ _ _ (hs p hp)]; rfl
      · rw [World.cell?_setCell_other _ _ _ _ (by first | (simp; done) | (simp; omega))]; exact hs p hp
    · rw [World.cell?_setCell_other _ _ _ _ (by first | (simp; done) | (simp; omega))]
      by_cases e1 : p = i
      · subst e1
        rw [sw_one]
        exact World.cell?_setCell_same' _ _ _ (hs p hp)
      · rw [World.cell?_setCell_other _ _ _ _ (by first | (simp; done) | (simp; omega)), sw_far f e1 e2]
        exact h.row p hp
  · rw [World.frozen?_setCell, World.frozen?_setCell]; exact h.fz p
end Go.Proofs.YtaplaoelamnoiaaGreatDoor

/- The calls cell.One and cell.Neutral: what they return is M.one and M.neutral; nothing in memory turns. Condition: none. -/
namespace Go.Proofs.YtaplaoelamnoiaaGreatDoor
open Go.RowKit
namespace M

def one (f a : Int) : Except Int Int :=
  if f = 1 then .ok a
  else if f = 2 then .ok (wrap64 (-a))
  else if f = 3 then .ok (if a < 0 then -1 else if 0 < a then 1 else 0)
  else if f = 5 then .ok (if a < 0 then wrap64 (-a) else a)
  else if f = 17 then (if a = 0 ∨ a = 1 then .ok (1 - a) else .error 6)
  else .error 1

end M

set_option maxHeartbeats 1000000 in
theorem cellOne_any (f a : Int) (w : World) : Calls Tryz.prog 219 #[.int .i64 f, .int .i64 a] w fun e w' => e = .returned (resI (M.one f a)) ∧ w = w' := by
  by_cases h1 : f = 1
  · subst h1
    have hf := Lib.hid (show M.one 1 a = .ok a from rfl)
    go_enter Tryz.func219, Tryz.ntmps219
    go_wp2
    go_ret2
    exact ⟨by rw [hf.out]; rfl, rfl⟩
  by_cases h2 : f = 2
  · subst h2
    have hf := Lib.hid (show M.one 2 a = .ok (wrap64 (-a)) from rfl)
    go_enter Tryz.func219, Tryz.ntmps219
    go_wp2
    go_ret2
    exact ⟨by rw [hf.out]; rfl, rfl⟩
  by_cases h3 : f = 3
  · subst h3
    by_cases h0 : a < 0
    · have hf := Lib.hid (show M.one 3 a = .ok (-1) by simp [M.one, h0])
      go_enter Tryz.func219, Tryz.ntmps219
      go_wp2
      go_ret2
      exact ⟨by rw [hf.out]; rfl, rfl⟩
    · by_cases hp : 0 < a
      · have hf := Lib.hid (show M.one 3 a = .ok 1 by simp [M.one, h0, hp])
        go_enter Tryz.func219, Tryz.ntmps219
        go_wp2
        go_ret2
        exact ⟨by rw [hf.out]; rfl, rfl⟩
      · have hf := Lib.hid (show M.one 3 a = .ok 0 by simp [M.one, h0, hp])
        go_enter Tryz.func219, Tryz.ntmps219
        go_wp2
        go_ret2
        exact ⟨by rw [hf.out]; rfl, rfl⟩
  by_cases h5 : f = 5
  · subst h5
    by_cases h0 : a < 0
    · have hf := Lib.hid (show M.one 5 a = .ok (wrap64 (-a)) by simp [M.one, h0])
      go_enter Tryz.func219, Tryz.ntmps219
      go_wp2
      go_ret2
      exact ⟨by rw [hf.out]; rfl, rfl⟩
    · have hf := Lib.hid (show M.one 5 a = .ok a by simp [M.one, h0])
      go_enter Tryz.func219, Tryz.ntmps219
      go_wp2
      go_ret2
      exact ⟨by rw [hf.out]; rfl, rfl⟩
  by_cases h17 : f = 17
  · subst h17
    by_cases h0 : a = 0
    · subst h0
      have hf := Lib.hid (show M.one 17 0 = .ok 1 from rfl)
      go_enter Tryz.func219, Tryz.ntmps219
      go_wp2
      go_ret2
      exact ⟨by rw [hf.out]; rfl, rfl⟩
    · by_cases hp : a = 1
      · subst hp
        have hf := Lib.hid (show M.one 17 1 = .ok 0 from rfl)
        go_enter Tryz.func219, Tryz.ntmps219
        go_wp2
        go_ret2
        exact ⟨by rw [hf.out]; rfl, rfl⟩
      · have hf := Lib.hid (show M.one 17 a = .error 6 by simp [M.one, h0, hp])
        have e0 : (a == 0) = false := by simpa using h0
        have e1 : (a == 1) = false := by simpa using hp
        have e2 : (a != 0) = true := by simpa using h0
        have e3 : (a != 1) = true := by simpa using hp
        clear h0 hp
        go_enter Tryz.func219, Tryz.ntmps219
        go_wp2
        go_ret2
        exact ⟨by rw [hf.out]; rfl, rfl⟩
  have hf := Lib.hid (show M.one f a = .error 1 by unfold M.one; rw [if_neg h1, if_neg h2, if_neg h3, if_neg h5, if_neg h17])
  have e1 : (f == 1) = false := by simpa using h1
  have e2 : (f == 2) = false := by simpa using h2
  have e3 : (f == 3) = false := by simpa using h3
  have e5 : (f == 5) = false := by simpa using h5
  have e17 : (f == 17) = false := by simpa using h17
  clear h1 h2 h3 h5 h17
  go_enter Tryz.func219, Tryz.ntmps219
  go_wp2
  go_ret2
  exact ⟨by rw [hf.out]; rfl, rfl⟩

end Go.Proofs.YtaplaoelamnoiaaGreatDoor