/- The characters of a text, in plain data: step by step, as they are read, and of two texts one behind the other. No program in sight; no condition. -/
import Derived.Lib.ValidLaws
namespace Go.Proofs.YtcenhemlgapkeaaDoor
open Go.RowKit Go.Lib

/-- The characters, by at most so many steps. -/
def runesGo : Nat → List UInt8 → List Int
  | 0, _ => []
  | n + 1, l => if l = [] then [] else ((decodeL l).1 : Int) :: runesGo n (l.drop (decodeL l).2)
def runesD (l : List UInt8) : List Int := runesGo l.length l
theorem runesGo_nil : ∀ n, runesGo n [] = []
  | 0 => rfl
  | _ + 1 => by simp [runesGo]
theorem runesGo_fuel : ∀ (n m : Nat) (l : List UInt8), l.length ≤ n → l.length ≤ m → runesGo n l = runesGo m l
  | 0, m, l, hn, _ => by
    have : l = [] := List.eq_nil_of_length_eq_zero (by omega)
    subst this
    rw [runesGo_nil, runesGo_nil]
  | n + 1, 0, l, _, hm => by
    have : l = [] := List.eq_nil_of_length_eq_zero (by omega)
    subst this
    rw [runesGo_nil, runesGo_nil]
  | n + 1, m + 1, l, hn, hm => by
    unfold runesGo
    by_cases hne : l = []
    · simp [hne]
    · have hw := decodeL_width l
      have hl : 0 < l.length := List.length_pos_iff.2 hne
      rw [if_neg hne, if_neg hne, runesGo_fuel n m (l.drop (decodeL l).2) (by rw [List.length_drop]; omega) (by rw [List.length_drop]; omega)]
theorem runesD_nil : runesD [] = [] := rfl
theorem runesD_step (l : List UInt8) (hne : l ≠ []) : runesD l = ((decodeL l).1 : Int) :: runesD (l.drop (decodeL l).2) := by
  have hl : 0 < l.length := List.length_pos_iff.2 hne
  have hw := decodeL_width l
  obtain ⟨n, hn⟩ : ∃ n, l.length = n + 1 := ⟨l.length - 1, by omega⟩
  unfold runesD
  rw [hn]
  show (if l = [] then [] else _) = _
  rw [if_neg hne, runesGo_fuel n (l.drop (decodeL l).2).length _ (by rw [List.length_drop]; omega) (Nat.le_refl _)]
theorem runesD_range : ∀ (n : Nat) (l : List UInt8), l.length ≤ n → ∀ x ∈ runesD l, 0 ≤ x ∧ x ≤ 1114111
  | 0, l, hn => by
    have : l = [] := List.eq_nil_of_length_eq_zero (by omega)
    subst this
    intro x hx; cases hx
  | n + 1, l, hn => by
    by_cases hne : l = []
    · subst hne; intro x hx; cases hx
    · have hl : 0 < l.length := List.length_pos_iff.2 hne
      have hw := decodeL_width l
      have hr := decodeL_rune l
      rw [runesD_step l hne]
      intro x hx
      rcases List.mem_cons.1 hx with rfl | hx
      · omega
      · exact runesD_range n _ (by rw [List.length_drop]; omega) x hx

/-! ### one text behind the other -/
/-- A step that is good lies within the text. -/
theorem decodeN_good {n b0 b1 b2 b3 : Nat} (hn : 1 ≤ n) (h : ¬ ((decodeN n b0 b1 b2 b3).1 = 65533 ∧ (decodeN n b0 b1 b2 b3).2 = 1)) :
    (decodeN n b0 b1 b2 b3).2 ≤ n ∧ ∀ m c1 c2 c3, n ≤ m → (1 < n → c1 = b1) → (2 < n → c2 = b2) → (3 < n → c3 = b3) → decodeN m b0 c1 c2 c3 = decodeN n b0 b1 b2 b3 := by
  unfold decodeN at h
  by_cases h1 : b0 < 128
  · refine ⟨by unfold decodeN; rw [if_pos h1]; exact hn, fun m c1 c2 c3 _ _ _ _ => by unfold decodeN; rw [if_pos h1, if_pos h1]⟩
  rw [if_neg h1] at h
  by_cases h2 : b0 / 32 = 6 ∧ (1 < n ∧ b1 / 64 = 2)
  · refine ⟨by unfold decodeN; rw [if_neg h1, if_pos h2]; split <;> simp <;> omega, fun m c1 c2 c3 hm e1 _ _ => ?_⟩
    rw [e1 h2.2.1]
    unfold decodeN
    rw [if_neg h1, if_neg h1, if_pos h2, if_pos ⟨h2.1, by omega, h2.2.2⟩]
  rw [if_neg h2] at h
  by_cases h3 : b0 / 16 = 14 ∧ (1 < n ∧ b1 / 64 = 2) ∧ (2 < n ∧ b2 / 64 = 2)
  · refine ⟨by unfold decodeN; rw [if_neg h1, if_neg h2, if_pos h3]; split <;> simp <;> omega, fun m c1 c2 c3 hm e1 e2 _ => ?_⟩
    rw [e1 h3.2.1.1, e2 h3.2.2.1]
    unfold decodeN
    rw [if_neg h1, if_neg h1, if_neg h2, if_neg (by omega), if_pos h3, if_pos ⟨h3.1, ⟨by omega, h3.2.1.2⟩, by omega, h3.2.2.2⟩]
  rw [if_neg h3] at h
  by_cases h4 : b0 / 8 = 30 ∧ (1 < n ∧ b1 / 64 = 2) ∧ (2 < n ∧ b2 / 64 = 2) ∧ (3 < n ∧ b3 / 64 = 2)
  · refine ⟨by unfold decodeN; rw [if_neg h1, if_neg h2, if_neg h3, if_pos h4]; split <;> simp <;> omega, fun m c1 c2 c3 hm e1 e2 e3 => ?_⟩
    rw [e1 h4.2.1.1, e2 h4.2.2.1.1, e3 h4.2.2.2.1]
    unfold decodeN
    rw [if_neg h1, if_neg h1, if_neg h2, if_neg (by omega), if_neg h3, if_neg (by omega), if_pos h4, if_pos ⟨h4.1, ⟨by omega, h4.2.1.2⟩, ⟨by omega, h4.2.2.1.2⟩, by omega, h4.2.2.2.2⟩]
  rw [if_neg h4] at h
  exact absurd ⟨rfl, rfl⟩ h
theorem decodeL_append {l m : List UInt8} (hne : l ≠ []) (h : ¬ ((decodeL l).1 = 65533 ∧ (decodeL l).2 = 1)) : (decodeL l).2 ≤ l.length ∧ decodeL (l ++ m) = decodeL l := by
  have hl : 0 < l.length := List.length_pos_iff.2 hne
  rw [decodeL_N] at h ⊢
  obtain ⟨k1, k2⟩ := decodeN_good hl h
  refine ⟨k1, ?_⟩
  have hg : ∀ j, j < l.length → (l ++ m).getD j 0 = l.getD j 0 := fun j hj => by
    rw [List.getD_eq_getElem?_getD, List.getElem?_append_left hj, ← List.getD_eq_getElem?_getD]
  rw [decodeL_N, hg 0 hl]
  exact k2 _ _ _ _ (by simp) (fun h => by rw [hg 1 h]) (fun h => by rw [hg 2 h]) (fun h => by rw [hg 3 h])
theorem valid_append : ∀ (n : Nat) (l m : List UInt8), l.length ≤ n → validD l = true → validD m = true → validD (l ++ m) = true ∧ runesD (l ++ m) = runesD l ++ runesD m
  | 0, l, m, hn, _, hm => by
    have : l = [] := List.eq_nil_of_length_eq_zero (by omega)
    subst this
    exact ⟨hm, rfl⟩
  | n + 1, l, m, hn, hl, hm => by
    by_cases hne : l = []
    · subst hne; exact ⟨hm, rfl⟩
    · have hpos : 0 < l.length := List.length_pos_iff.2 hne
      have hw := decodeL_width l
      rw [validD_step l hne] at hl
      by_cases hg : (decodeL l).1 = 65533 ∧ (decodeL l).2 = 1
      · rw [if_pos hg] at hl; cases hl
      rw [if_neg hg] at hl
      obtain ⟨h1, h2⟩ := decodeL_append (m := m) hne hg
      obtain ⟨i1, i2⟩ := valid_append n (l.drop (decodeL l).2) m (by rw [List.length_drop]; omega) hl hm
      have hne2 : l ++ m ≠ [] := fun h => hne (List.append_eq_nil_iff.1 h).1
      rw [validD_step _ hne2, runesD_step _ hne2, h2, if_neg hg, List.drop_append_of_le_length h1, runesD_step l hne]
      exact ⟨i1, by rw [i2]; rfl⟩

/-! ### byte by byte -/
/-- How many bytes more, the least number, the first byte's part. -/
def runeCls (b : Nat) : Option (Nat × Nat × Nat) :=
  if 240 ≤ b ∧ b < 248 then some (3, 65536, b - 240)
  else if 224 ≤ b ∧ b < 240 then some (2, 2048, b - 224)
  else if 192 ≤ b ∧ b < 224 then some (1, 128, b - 192)
  else if 128 ≤ b then none else some (0, 0, b)
/-- The number that the bytes so far make. -/
def runeAcc (c0 : Nat) (B : Nat → Nat) : Nat → Nat
  | 0 => c0
  | k + 1 => runeAcc c0 B k * 64 + B (k + 1) - 128
theorem rune_none {n b0 b1 b2 b3 : Nat} (hb : b0 < 256) (h : runeCls b0 = none) : decodeN n b0 b1 b2 b3 = (65533, 1) := by
  have hb0 : 128 ≤ b0 ∧ (b0 < 192 ∨ 248 ≤ b0) := by
    unfold runeCls at h
    by_cases c1 : 240 ≤ b0 ∧ b0 < 248
    · rw [if_pos c1] at h; cases h
    rw [if_neg c1] at h
    by_cases c2 : 224 ≤ b0 ∧ b0 < 240
    · rw [if_pos c2] at h; cases h
    rw [if_neg c2] at h
    by_cases c3 : 192 ≤ b0 ∧ b0 < 224
    · rw [if_pos c3] at h; cases h
    rw [if_neg c3] at h
    by_cases c4 : 128 ≤ b0
    · omega
    · rw [if_neg c4] at h; cases h
  unfold decodeN
  rw [if_neg (by omega), if_neg (by omega), if_neg (by omega), if_neg (by omega)]
theorem rune_short {n b0 : Nat} {B : Nat → Nat} {more least c0 k : Nat} (h : runeCls b0 = some (more, least, c0)) (hk : 1 ≤ k) (hkm : k ≤ more) (hbad : n ≤ k ∨ B k < 128 ∨ 192 ≤ B k) : decodeN n b0 (B 1) (B 2) (B 3) = (65533, 1) := by
  unfold runeCls at h
  unfold decodeN
  by_cases c1 : 240 ≤ b0 ∧ b0 < 248
  · rw [if_pos c1] at h
    obtain ⟨rfl, rfl, rfl⟩ := by simpa using h
    rw [if_neg (by omega), if_neg (by omega), if_neg (by omega), if_neg]
    rintro ⟨_, ⟨q1, q2⟩, ⟨q3, q4⟩, q5, q6⟩
    have : k = 1 ∨ k = 2 ∨ k = 3 := by omega
    rcases this with rfl | rfl | rfl <;> omega
  rw [if_neg c1] at h
  by_cases c2 : 224 ≤ b0 ∧ b0 < 240
  · rw [if_pos c2] at h
    obtain ⟨rfl, rfl, rfl⟩ := by simpa using h
    rw [if_neg (by omega), if_neg (by omega), if_neg, if_neg (by omega)]
    rintro ⟨_, ⟨q1, q2⟩, q3, q4⟩
    have : k = 1 ∨ k = 2 := by omega
    rcases this with rfl | rfl <;> omega
  rw [if_neg c2] at h
  by_cases c3 : 192 ≤ b0 ∧ b0 < 224
  · rw [if_pos c3] at h
    obtain ⟨rfl, rfl, rfl⟩ := by simpa using h
    obtain rfl : k = 1 := by omega
    rw [if_neg (by omega), if_neg (by omega), if_neg (by omega), if_neg (by omega)]
  rw [if_neg c3] at h
  by_cases c4 : 128 ≤ b0
  · rw [if_pos c4] at h; cases h
  · rw [if_neg c4] at h
    obtain ⟨rfl, rfl, rfl⟩ := by simpa using h
    omega
theorem rune_whole {n b0 : Nat} {B : Nat → Nat} {more least c0 : Nat} (h : runeCls b0 = some (more, least, c0)) (hok : ∀ j, 1 ≤ j → j ≤ more → j < n ∧ 128 ≤ B j ∧ B j < 192) :
    decodeN n b0 (B 1) (B 2) (B 3) = if runeAcc c0 B more < least ∨ 1114111 < runeAcc c0 B more ∨ (55295 < runeAcc c0 B more ∧ runeAcc c0 B more < 57344) then (65533, 1) else (runeAcc c0 B more, more + 1) := by
  unfold runeCls at h
  unfold decodeN
  by_cases c1 : 240 ≤ b0 ∧ b0 < 248
  · rw [if_pos c1] at h
    obtain ⟨rfl, rfl, rfl⟩ := by simpa using h
    have k1 := hok 1 (by omega) (by omega)
    have k2 := hok 2 (by omega) (by omega)
    have k3 := hok 3 (by omega) (by omega)
    have e : runeAcc (b0 - 240) B 3 = b0 % 8 * 262144 + B 1 % 64 * 4096 + B 2 % 64 * 64 + B 3 % 64 := by
      show (((b0 - 240) * 64 + B 1 - 128) * 64 + B 2 - 128) * 64 + B 3 - 128 = _
      obtain ⟨y, hy⟩ : ∃ y, b0 = 240 + y := ⟨b0 - 240, by omega⟩
      obtain ⟨x1, h1⟩ : ∃ x, B 1 = 128 + x := ⟨B 1 - 128, by omega⟩
      obtain ⟨x2, h2⟩ : ∃ x, B 2 = 128 + x := ⟨B 2 - 128, by omega⟩
      obtain ⟨x3, h3⟩ : ∃ x, B 3 = 128 + x := ⟨B 3 - 128, by omega⟩
      rw [h1, h2, h3, hy, show (240 + y) % 8 = y by omega, show (128 + x1) % 64 = x1 by omega, show (128 + x2) % 64 = x2 by omega, show (128 + x3) % 64 = x3 by omega]
      omega
    rw [e, if_neg (by omega), if_neg (by omega), if_neg (by omega), if_pos (by omega)]
    generalize b0 % 8 * 262144 + B 1 % 64 * 4096 + B 2 % 64 * 64 + B 3 % 64 = c
    split <;> split <;> first | rfl | omega
  rw [if_neg c1] at h
  by_cases c2 : 224 ≤ b0 ∧ b0 < 240
  · rw [if_pos c2] at h
    obtain ⟨rfl, rfl, rfl⟩ := by simpa using h
    have k1 := hok 1 (by omega) (by omega)
    have k2 := hok 2 (by omega) (by omega)
    have e : runeAcc (b0 - 224) B 2 = b0 % 16 * 4096 + B 1 % 64 * 64 + B 2 % 64 := by
      show ((b0 - 224) * 64 + B 1 - 128) * 64 + B 2 - 128 = _
      obtain ⟨y, hy⟩ : ∃ y, b0 = 224 + y := ⟨b0 - 224, by omega⟩
      obtain ⟨x1, h1⟩ : ∃ x, B 1 = 128 + x := ⟨B 1 - 128, by omega⟩
      obtain ⟨x2, h2⟩ : ∃ x, B 2 = 128 + x := ⟨B 2 - 128, by omega⟩
      rw [h1, h2, hy, show (224 + y) % 16 = y by omega, show (128 + x1) % 64 = x1 by omega, show (128 + x2) % 64 = x2 by omega]
      omega
    rw [e, if_neg (by omega), if_neg (by omega), if_pos (by omega)]
    generalize b0 % 16 * 4096 + B 1 % 64 * 64 + B 2 % 64 = c
    split <;> split <;> first | rfl | omega
  rw [if_neg c2] at h
  by_cases c3 : 192 ≤ b0 ∧ b0 < 224
  · rw [if_pos c3] at h
    obtain ⟨rfl, rfl, rfl⟩ := by simpa using h
    have k1 := hok 1 (by omega) (by omega)
    have e : runeAcc (b0 - 192) B 1 = b0 % 32 * 64 + B 1 % 64 := by
      show (b0 - 192) * 64 + B 1 - 128 = _
      omega
    rw [e, if_neg (by omega), if_pos (by omega)]
    have hc : b0 % 32 * 64 + B 1 % 64 < 2048 := by omega
    generalize b0 % 32 * 64 + B 1 % 64 = c at *
    split <;> split <;> first | rfl | omega
  rw [if_neg c3] at h
  by_cases c4 : 128 ≤ b0
  · rw [if_pos c4] at h; cases h
  · rw [if_neg c4] at h
    obtain ⟨rfl, rfl, rfl⟩ := by simpa using h
    rw [if_pos (by omega), if_neg (by show ¬ (b0 < 0 ∨ 1114111 < b0 ∨ (55295 < b0 ∧ b0 < 57344)); omega)]
    rfl
end Go.Proofs.YtcenhemlgapkeaaDoor
