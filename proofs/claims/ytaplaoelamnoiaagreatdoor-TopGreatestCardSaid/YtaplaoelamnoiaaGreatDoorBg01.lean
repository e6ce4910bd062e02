/- Texts that lie in one file: what is plain, rows, boxes, squares, and what is known of a world. No condition. -/
import Derived.Test.YtaplaoelamnoiaaGreatDoorBg00
import Derived.BigQuiet
import Derived.Deep.QuietTactic
import Derived.Test.YtaplaoelamnoiaaGreatDoorBg04
/- The lexer's small functions: kinds of bytes, signs of functions and of kinds. No condition. -/
namespace Go.Proofs.YtaplaoelamnoiaaGreatDoor
open Go.RowKit
namespace M
def dig (b : Int) : Bool := decide (48 ≤ b) && decide (b ≤ 57)
def lett (b : Int) : Bool := (decide (97 ≤ b) && decide (b ≤ 122)) || (decide (65 ≤ b) && decide (b ≤ 90))
def spc (b : Int) : Bool := b == 32
def inn (b : Int) : Bool := lett b || dig b || b == 95
/-- The signs of the functions 1 .. 34. -/
def glyphs : List Int := [43, 45, 215, 247, 124, 8968, 8970, 61, 8800, 60, 8804, 8805, 62, 8743, 8744, 42, 126, 9076, 44, 9021, 9033, 8593, 8595, 9075, 8714, 9035, 9042, 8746, 8745, 8869, 8868, 8801, 47, 92]
def glyph (f : Int) : Int := if 1 ≤ f ∧ f ≤ 34 then glyphs.getD (f - 1).toNat 0 else 0
/-- The signs of the kinds 5 .. 20. -/
def signs : List Int := [40, 41, 91, 93, 59, 8592, 8728, 46, 9064, 123, 125, 58, 8900, 9082, 9077, 8711]
def sign (k : Int) : Int := if 5 ≤ k ∧ k ≤ 20 then signs.getD (k - 5).toNat 0 else 0
end M

theorem digit_any (b : Int) (w : World) : Calls Tryz.prog 46 #[.int .u8 b] w fun e w' => e = .returned (.bool (M.dig b)) ∧ w = w' := by
  unfold M.dig
  by_cases h1 : 48 ≤ b
  · by_cases h2 : b ≤ 57
    all_goals
      have e1 : decide (48 ≤ b) = true := decide_eq_true h1
      go_enter Tryz.func46, Tryz.ntmps46
      go_wp2
      go_ret
      simp [h1, h2]
  · have e1 : decide (48 ≤ b) = false := decide_eq_false h1
    go_enter Tryz.func46, Tryz.ntmps46
    go_wp2
    go_ret
    simp [h1]
theorem letter_any (b : Int) (w : World) : Calls Tryz.prog 48 #[.int .u8 b] w fun e w' => e = .returned (.bool (M.lett b)) ∧ w = w' := by
  unfold M.lett
  have c : b < 65 ∨ (65 ≤ b ∧ b ≤ 90) ∨ (90 < b ∧ b < 97) ∨ (97 ≤ b ∧ b ≤ 122) ∨ 122 < b := by omega
  rcases c with h | ⟨h, h'⟩ | ⟨h, h'⟩ | ⟨h, h'⟩ | h
  all_goals
    have d1 : decide (97 ≤ b) = true ∨ decide (97 ≤ b) = false := by cases decide (97 ≤ b) <;> simp
    have d2 : decide (b ≤ 122) = true ∨ decide (b ≤ 122) = false := by cases decide (b ≤ 122) <;> simp
    have d3 : decide (65 ≤ b) = true ∨ decide (65 ≤ b) = false := by cases decide (65 ≤ b) <;> simp
    have d4 : decide (b ≤ 90) = true ∨ decide (b ≤ 90) = false := by cases decide (b ≤ 90) <;> simp
    rcases d1 with d1 | d1 <;> rcases d2 with d2 | d2 <;> rcases d3 with d3 | d3 <;> rcases d4 with d4 | d4
    all_goals
      have q1 := d1
      have q2 := d2
      have q3 := d3
      have q4 := d4
      simp only [decide_eq_true_eq, decide_eq_false_iff_not] at q1 q2 q3 q4
      first
        | (exfalso; omega)
        | (clear h q1 q2 q3 q4
           try clear h'
           go_enter Tryz.func48, Tryz.ntmps48
           go_wp2
           go_ret
           simp [d1, d2, d3, d4])
theorem space_any (b : Int) (w : World) : Calls Tryz.prog 32 #[.int .u8 b] w fun e w' => e = .returned (.bool (M.spc b)) ∧ w = w' := by
  go_enter Tryz.func32, Tryz.ntmps32
  go_wp2
  go_ret
  exact ⟨rfl, rfl⟩
theorem within_any (b : Int) (w : World) : Calls Tryz.prog 49 #[.int .u8 b] w fun e w' => e = .returned (.bool (M.inn b)) ∧ w = w' := by
  have hl := letter_any b w
  have hd := digit_any b w
  unfold M.inn
  cases h1 : M.lett b with
  | true =>
    rw [h1] at hl
    replace hl := Lib.hid hl
    clear hd
    go_enter Tryz.func49, Tryz.ntmps49
    go_wp2_with fail
    refine hl.out.mono ?_
    rintro e w1 ⟨rfl, rfl⟩
    go_wp2
    go_ret
    exact ⟨rfl, rfl⟩
  | false =>
    rw [h1] at hl
    replace hl := Lib.hid hl
    cases h2 : M.dig b with
    | true =>
      rw [h2] at hd
      replace hd := Lib.hid hd
      go_enter Tryz.func49, Tryz.ntmps49
      go_wp2_with fail
      refine hl.out.mono ?_
      rintro e w1 ⟨rfl, rfl⟩
      go_wp2_with fail
      refine hd.out.mono ?_
      rintro e w1 ⟨rfl, rfl⟩
      go_wp2
      go_ret
      exact ⟨rfl, rfl⟩
    | false =>
      rw [h2] at hd
      replace hd := Lib.hid hd
      go_enter Tryz.func49, Tryz.ntmps49
      go_wp2_with fail
      refine hl.out.mono ?_
      rintro e w1 ⟨rfl, rfl⟩
      go_wp2_with fail
      refine hd.out.mono ?_
      rintro e w1 ⟨rfl, rfl⟩
      go_wp2
      go_ret
      exact ⟨rfl, rfl⟩
set_option maxHeartbeats 4000000 in
theorem glyphOf_any (f : Int) (h1 : 1 ≤ f) (h2 : f ≤ 34) (w : World) : Calls Tryz.prog 57 #[.int .i64 f] w fun e w' => e = .returned (.int .i32 (M.glyph f)) ∧ w = w' := by
  have hs : ∃ k : Nat, f = (k : Int) + 1 ∧ k < 34 := ⟨(f - 1).toNat, by omega, by omega⟩
  obtain ⟨k, rfl, hk⟩ := hs
  clear h1 h2
  have hd : ∀ k, k < 34 → Calls Tryz.prog 57 #[.int .i64 ((k : Nat) + 1 : Int)] w fun e w' => e = .returned (.int .i32 (M.glyph ((k : Nat) + 1))) ∧ w = w' := by
    intro k hk
    have : k = 0 ∨ k = 1 ∨ k = 2 ∨ k = 3 ∨ k = 4 ∨ k = 5 ∨ k = 6 ∨ k = 7 ∨ k = 8 ∨ k = 9 ∨ k = 10 ∨ k = 11 ∨ k = 12 ∨ k = 13 ∨ k = 14 ∨ k = 15 ∨ k = 16 ∨ k = 17 ∨ k = 18 ∨ k = 19 ∨ k = 20 ∨ k = 21 ∨ k = 22 ∨ k = 23 ∨ k = 24 ∨ k = 25 ∨ k = 26 ∨ k = 27 ∨ k = 28 ∨ k = 29 ∨ k = 30 ∨ k = 31 ∨ k = 32 ∨ k = 33 := by omega
    clear hk
    rcases this with rfl | rfl | rfl | rfl | rfl | rfl | rfl | rfl | rfl | rfl | rfl | rfl | rfl | rfl | rfl | rfl | rfl | rfl | rfl | rfl | rfl | rfl | rfl | rfl | rfl | rfl | rfl | rfl | rfl | rfl | rfl | rfl | rfl | rfl
    all_goals
      go_enter Tryz.func57, Tryz.ntmps57
      go_wp2
      go_ret
      exact ⟨rfl, rfl⟩
  exact hd k hk
set_option maxHeartbeats 4000000 in
theorem signOf_any (f : Int) (h1 : 5 ≤ f) (h2 : f ≤ 20) (w : World) : Calls Tryz.prog 52 #[.int .i64 f] w fun e w' => e = .returned (.int .i32 (M.sign f)) ∧ w = w' := by
  have : f = 5 ∨ f = 6 ∨ f = 7 ∨ f = 8 ∨ f = 9 ∨ f = 10 ∨ f = 11 ∨ f = 12 ∨ f = 13 ∨ f = 14 ∨ f = 15 ∨ f = 16 ∨ f = 17 ∨ f = 18 ∨ f = 19 ∨ f = 20 := by omega
  clear h1 h2
  rcases this with rfl | rfl | rfl | rfl | rfl | rfl | rfl | rfl | rfl | rfl | rfl | rfl | rfl | rfl | rfl | rfl
  all_goals
    go_enter Tryz.func52, Tryz.ntmps52
    go_wp2
    go_ret
    exact ⟨rfl, rfl⟩
end Go.Proofs.YtaplaoelamnoiaaGreatDoor

/- The lexer's reader in memory; what is left of the line. Condition: the reader lies. -/
namespace Go.Proofs.YtaplaoelamnoiaaGreatDoor
open Go.RowKit

/-- The reader of a line, in block g. -/
def Rd (g : Nat) (s : ByteArray) (p : Nat) (wv : Value) (w : World) : Prop :=
  (w.cell? ⟨g, 0, none⟩ = some (.string s) ∧ w.cell? ⟨g, 1, none⟩ = some (.int .i64 p) ∧ w.cell? ⟨g, 2, none⟩ = some wv) ∧ (w.frozen? ⟨g, 1, none⟩ = false ∧ w.frozen? ⟨g, 2, none⟩ = false)

theorem rest_any (g : Nat) (s : ByteArray) (p : Nat) (wv : Value) (w : World) (h : Rd g s p wv w) (hp : p ≤ s.size) :
    Calls Tryz.prog 33 #[.pointer (some ⟨g, 0, none⟩)] w fun e w' => e = .returned (.string (s.extract p s.size)) ∧ ∃ n, w' = w.drewN n := by
  obtain ⟨⟨c0, c1, c2⟩, f1, f2⟩ := h
  have i1 : ((p : Nat) : Int) ≤ ((s.size : Nat) : Int) := by omega
  have i0 : (0 : Int) ≤ ((p : Nat) : Int) := by omega
  go_enter Tryz.func33, Tryz.ntmps33
  go_wp2_with fail
  go_quiet (fail)
  go_wp2
  go_ret
  exact ⟨rfl, _, rfl⟩
end Go.Proofs.YtaplaoelamnoiaaGreatDoor

/- The calls of package cell that reckon with two numbers, and the helper two of the statements: what they return is M.two; nothing in memory turns. Condition: the numbers are of 64 bits. -/
namespace Go.Proofs.YtaplaoelamnoiaaGreatDoor
open Go.RowKit

theorem tdiv_in {a b : Int} (ha : I64 a) (h0 : b ≠ 0) (h1 : b ≠ -1) (hr : a.tmod b ≠ 0) : I64 (a.tdiv b) ∧ I64 (a.tdiv b - 1) := by
  have h2 : a.tdiv b * b + a.tmod b = a := Int.tdiv_mul_add_tmod a b
  have h3 : (a.tdiv b).natAbs = a.natAbs / b.natAbs := Int.natAbs_tdiv a b
  have hb : b ≠ 1 := by rintro rfl; exact hr (Int.tmod_one a)
  have h4 : a.natAbs / b.natAbs ≤ a.natAbs / 2 := Nat.div_le_div_left (by omega) (by omega)
  unfold I64 at *
  omega

theorem tdiv_in' {a b : Int} (ha : I64 a) (h1 : b ≠ -1) : I64 (a.tdiv b) := by
  have h3 : (a.tdiv b).natAbs = a.natAbs / b.natAbs := Int.natAbs_tdiv a b
  by_cases hb : b = 1
  · subst hb; simpa using ha
  · by_cases h0 : b = 0
    · subst h0; simp [I64]
    · have h4 : a.natAbs / b.natAbs ≤ a.natAbs / 2 := Nat.div_le_div_left (by omega) (by omega)
      unfold I64 at *
      omega

set_option maxHeartbeats 400000 in
theorem bit_any (p : Bool) (w : World) : Calls Tryz.prog 237 #[.bool p] w fun e w' => e = .returned (.int .i64 (M.bit p)) ∧ w = w' := by
  cases p
  all_goals
    go_enter Tryz.func237, Tryz.ntmps237
    go_wp2
    go_ret
    exact ⟨rfl, rfl⟩

set_option maxHeartbeats 400000 in
theorem floor_any (a b : Int) (w : World) (ha : I64 a) (h0 : b ≠ 0) : Calls Tryz.prog 225 #[.int .i64 a, .int .i64 b] w fun e w' => e = .returned (.int .i64 (M.floor a b)) ∧ ∃ n, w' = w.drewN n := by
  have e0 : (b == 0) = false := by simpa using h0
  by_cases h1 : b = -1
  · subst h1
    go_enter Tryz.func225, Tryz.ntmps225
    go_wp2
    go_ret
    exact ⟨rfl, 0, rfl⟩
  · have e1 : (b == -1) = false := by simpa using h1
    have hf := Lib.hid (show M.floor a b = if a.tmod b ≠ 0 ∧ (decide (a.tmod b < 0) != decide (b < 0)) = true then a.tdiv b - 1 else a.tdiv b from if_neg h1)
    have hi := Lib.hid (tdiv_in' ha h1)
    have hj := Lib.hid (tdiv_in ha h0 h1)
    clear ha
    go_enter Tryz.func225, Tryz.ntmps225
    go_wp2
    go_quiet (fail)
    go_wp2
    · rename_i hr
      go_ret
      refine ⟨?_, _, rfl⟩
      rw [hf.out, if_neg (by simp [hr])]
      exact ret_int (wrap_id hi.out)
    · rename_i hr h
      go_ret
      refine ⟨?_, _, rfl⟩
      rw [hf.out, if_pos ⟨hr, by simpa using h.2⟩]
      have := hj.out hr
      exact ret_int (by rw [wrap_id this.1, wrap_id this.2])
    · rename_i hr h
      go_ret
      refine ⟨?_, _, rfl⟩
      rw [hf.out, if_neg (by simpa [hr] using h)]
      exact ret_int (wrap_id hi.out)

theorem pow_step (x p y : Int) (h : 0 < y) :
    wrap64 (p * x ^ y.toNat) = wrap64 ((if y % 2 = 1 then wrap64 (p * x) else p) * wrap64 (x * x) ^ (y / 2).toNat) := by
  have e : x ^ y.toNat = (if y % 2 = 1 then x else 1) * (x * x) ^ (y / 2).toNat := by
    have h2 : x * x = x ^ 2 := by rw [Int.pow_succ, Int.pow_succ, Int.pow_zero, Int.one_mul]
    rw [h2, ← Int.pow_mul]
    split
    · rename_i ho
      have : y.toNat = 2 * (y / 2).toNat + 1 := by omega
      rw [this, Int.pow_succ, Int.mul_comm]
    · rename_i ho
      rw [Int.one_mul]
      congr 1; omega
  rw [← wrap_mul_r, ← wrap_mul_r _ (wrap64 (x * x) ^ _), wrap_pow, wrap_mul_r, wrap_mul_r, e]
  split
  · rw [wrap_mul_l, Int.mul_assoc]
  · rw [Int.one_mul]

set_option maxHeartbeats 400000 in
theorem power_any (a b : Int) (w : World) (hb : I64 b) : Calls Tryz.prog 227 #[.int .i64 a, .int .i64 b] w fun e w' => e = .returned (.int .i64 (M.pow a b)) ∧ w = w' := by
  go_enter Tryz.func227, Tryz.ntmps227
  go_wp2
  go_loop [0, 1, 5] (fun x y p => ∃ x0 y0 p0 : Int, x = .int .i64 x0 ∧ y = .int .i64 y0 ∧ p = .int .i64 p0 ∧ I64 y0 ∧ I64 p0 ∧ M.pow a b = wrap64 (p0 * x0 ^ y0.toNat)) (fun _ y _ => (intOf y).toNat)
  case atStart => exact ⟨a, b, 1, rfl, rfl, rfl, hb, by unfold I64; omega, by rw [M.pow, Int.one_mul]⟩
  case round =>
    obtain ⟨x0, y0, p0, rfl, rfl, rfl, hy, hp, hm⟩ := hrel
    have hy' := hy
    obtain ⟨hy1, hy2⟩ := hy
    by_cases hlt : 0 < y0
    · have hs := Lib.hid (pow_step x0 p0 y0 hlt)
      have ho := Lib.hid (and_one (by omega) hy')
      replace hm := Lib.hid hm
      replace hp := Lib.hid hp
      clear hy'
      go_wp2
      · have h1 : y0 % 2 = 1 := by rw [← ho.out]; exact beq_iff_eq.1 ‹_›
        go_round
        case rel => exact ⟨_, _, _, rfl, rfl, rfl, by unfold I64; omega, I64_wrap _, by rw [hm.out, hs.out, if_pos h1]⟩
        case measure => simp [intOf]; omega
      · have h1 : ¬ y0 % 2 = 1 := by rw [← ho.out]; exact beq_eq_false_iff_ne.1 ‹_›
        go_round
        case rel => exact ⟨_, _, _, rfl, rfl, rfl, by unfold I64; omega, hp.out, by rw [hm.out, hs.out, if_neg h1]⟩
        case measure => simp [intOf]; omega
    · replace hm := Lib.hid hm
      replace hp := Lib.hid hp
      go_wp2
      go_ret
      have hz : y0.toNat = 0 := by omega
      exact ⟨ret_int (by rw [hm.out, hz, Int.pow_zero, Int.mul_one, wrap_id hp.out]), rfl⟩

/-- What two tells, as a value. -/
theorem resI_ok (n : Int) : resI (.ok n) = .tuple #[.int .i64 n, .nilIface] := rfl

set_option maxHeartbeats 2000000 in
theorem cellTwo_any (f a b : Int) (w : World) (ha : I64 a) (hb : I64 b) : Calls Tryz.prog 188 #[.int .i64 f, .int .i64 a, .int .i64 b] w fun e w' => e = .returned (resI (M.two f a b)) ∧ ∃ n, w' = w.drewN n := by
  by_cases h1 : f = 1
  · subst h1
    go_enter Tryz.func188, Tryz.ntmps188
    go_wp2
    go_ret2
    exact ⟨rfl, 0, rfl⟩
  by_cases h2 : f = 2
  · subst h2
    go_enter Tryz.func188, Tryz.ntmps188
    go_wp2
    go_ret2
    exact ⟨rfl, 0, rfl⟩
  by_cases h3 : f = 3
  · subst h3
    go_enter Tryz.func188, Tryz.ntmps188
    go_wp2
    go_ret2
    exact ⟨rfl, 0, rfl⟩
  by_cases h4 : f = 4
  · subst h4
    by_cases h0 : b = 0
    · subst h0
      go_enter Tryz.func188, Tryz.ntmps188
      go_wp2
      go_ret2
      exact ⟨rfl, 0, rfl⟩
    · have e0 : (b == 0) = false := by simpa using h0
      have hf := Lib.hid (show M.two 4 a b = .ok (M.floor a b) by simp [M.two, h0])
      go_enter Tryz.func188, Tryz.ntmps188
      go_wp2_with (go_at_call 225; refine (floor_any _ _ _ ha h0).mono ?_; rintro e w' ⟨rfl, nd, rfl⟩)
      go_ret2
      exact ⟨by rw [hf.out]; rfl, _, rfl⟩
  by_cases h5 : f = 5
  · subst h5
    by_cases h0 : a = 0
    · subst h0
      go_enter Tryz.func188, Tryz.ntmps188
      go_wp2
      go_ret2
      exact ⟨rfl, 0, rfl⟩
    · have e0 : (a == 0) = false := by simpa using h0
      have hf := Lib.hid (show M.two 5 a b = .ok (wrap64 (b - wrap64 (a * M.floor b a))) by simp [M.two, h0])
      go_enter Tryz.func188, Tryz.ntmps188
      go_wp2_with (go_at_call 225; refine (floor_any _ _ _ hb h0).mono ?_; rintro e w' ⟨rfl, nd, rfl⟩)
      go_ret2
      exact ⟨by rw [hf.out]; rfl, _, rfl⟩
  by_cases h6 : f = 6
  · subst h6
    by_cases hl : a < b
    · have hf := Lib.hid (show M.two 6 a b = .ok b by simp [M.two, hl])
      go_enter Tryz.func188, Tryz.ntmps188
      go_wp2
      go_ret2
      exact ⟨by rw [hf.out]; rfl, 0, rfl⟩
    · have hf := Lib.hid (show M.two 6 a b = .ok a by simp [M.two, hl])
      go_enter Tryz.func188, Tryz.ntmps188
      go_wp2
      go_ret2
      exact ⟨by rw [hf.out]; rfl, 0, rfl⟩
  by_cases h7 : f = 7
  · subst h7
    by_cases hl : b < a
    · have hf := Lib.hid (show M.two 7 a b = .ok b by simp [M.two, hl])
      go_enter Tryz.func188, Tryz.ntmps188
      go_wp2
      go_ret2
      exact ⟨by rw [hf.out]; rfl, 0, rfl⟩
    · have hf := Lib.hid (show M.two 7 a b = .ok a by simp [M.two, hl])
      go_enter Tryz.func188, Tryz.ntmps188
      go_wp2
      go_ret2
      exact ⟨by rw [hf.out]; rfl, 0, rfl⟩
  by_cases h8 : 8 ≤ f ∧ f ≤ 13
  · have hf : f = 8 ∨ f = 9 ∨ f = 10 ∨ f = 11 ∨ f = 12 ∨ f = 13 := by omega
    clear h1 h2 h3 h4 h5 h6 h7 h8
    rcases hf with rfl | rfl | rfl | rfl | rfl | rfl
    all_goals
      go_enter Tryz.func188, Tryz.ntmps188
      go_wp2_with (first | (go_at_call 237; refine (bit_any _ _).mono ?_; rintro e w' ⟨rfl, rfl⟩) | go_in)
      go_ret2
      exact ⟨rfl, 0, rfl⟩
  by_cases h14 : f = 14
  · subst h14
    go_enter Tryz.func188, Tryz.ntmps188
    go_wp2
    go_ret2
    exact ⟨rfl, 0, rfl⟩
  by_cases h15 : f = 15
  · subst h15
    go_enter Tryz.func188, Tryz.ntmps188
    go_wp2
    go_ret2
    exact ⟨rfl, 0, rfl⟩
  by_cases h16 : f = 16
  · subst h16
    by_cases h0 : b < 0
    · have hf := Lib.hid (show M.two 16 a b = .error 6 by simp [M.two, h0])
      go_enter Tryz.func188, Tryz.ntmps188
      go_wp2
      go_ret2
      exact ⟨by rw [hf.out]; rfl, 0, rfl⟩
    · have hf := Lib.hid (show M.two 16 a b = .ok (M.pow a b) by simp [M.two, h0])
      go_enter Tryz.func188, Tryz.ntmps188
      go_wp2_with (go_at_call 227; refine (power_any _ _ _ hb).mono ?_; rintro e w' ⟨rfl, rfl⟩)
      go_ret2
      exact ⟨by rw [hf.out]; rfl, 0, rfl⟩
  have hf := Lib.hid (show M.two f a b = .error 1 by
    unfold M.two
    rw [if_neg h1, if_neg h2, if_neg h3, if_neg h4, if_neg h5, if_neg h6, if_neg h7, if_neg (by omega), if_neg (by omega), if_neg (by omega), if_neg (by omega), if_neg (by omega), if_neg (by omega), if_neg h14, if_neg h15, if_neg h16])
  have g8 : f ≠ 8 := by omega
  have g9 : f ≠ 9 := by omega
  have g10 : f ≠ 10 := by omega
  have g11 : f ≠ 11 := by omega
  have g12 : f ≠ 12 := by omega
  have g13 : f ≠ 13 := by omega
  have e1 : (f == 1) = false := by simpa using h1
  have e2 : (f == 2) = false := by simpa using h2
  have e3 : (f == 3) = false := by simpa using h3
  have e4 : (f == 4) = false := by simpa using h4
  have e5 : (f == 5) = false := by simpa using h5
  have e6 : (f == 6) = false := by simpa using h6
  have e7 : (f == 7) = false := by simpa using h7
  have e8 : (f == 8) = false := by simpa using g8
  have e9 : (f == 9) = false := by simpa using g9
  have e10 : (f == 10) = false := by simpa using g10
  have e11 : (f == 11) = false := by simpa using g11
  have e12 : (f == 12) = false := by simpa using g12
  have e13 : (f == 13) = false := by simpa using g13
  have e14 : (f == 14) = false := by simpa using h14
  have e15 : (f == 15) = false := by simpa using h15
  have e16 : (f == 16) = false := by simpa using h16
  clear h1 h2 h3 h4 h5 h6 h7 h8 h14 h15 h16 g8 g9 g10 g11 g12 g13
  go_enter Tryz.func188, Tryz.ntmps188
  go_wp2
  go_ret2
  exact ⟨by rw [hf.out]; rfl, 0, rfl⟩

end Go.Proofs.YtaplaoelamnoiaaGreatDoor

/- What functions of two numbers tell without an error is of 64 bits. No program in sight. -/
namespace Go.Proofs.YtaplaoelamnoiaaGreatDoor
open Go.RowKit

theorem I64_bits (op : BinOp) (a b : Int) (h : op = .and ∨ op = .or) : I64 (bits op .i64 a b) := by
  rcases h with rfl | rfl
  all_goals
    simp only [bits]
    rw [IntWalk.i64_left]
    exact I64_wrap _

theorem I64_bit (p : Bool) : I64 (M.bit p) := by cases p <;> (simp only [M.bit]; unfold I64; decide)

theorem I64_floor (a b : Int) (ha : I64 a) : I64 (M.floor a b) := by
  unfold M.floor
  split
  · exact I64_wrap _
  · rename_i h1
    split
    · rename_i h
      by_cases h0 : b = 0
      · subst h0
        simp at h
        simp only [Int.tdiv_zero]
        unfold I64; omega
      · exact (tdiv_in ha h0 h1 h.1).2
    · exact tdiv_in' ha h1

/-- What is told without an error is of 64 bits. -/
def Fits (r : Except Int Int) : Prop := ∀ n, r = .ok n → I64 n
theorem fits_ok {n : Int} (h : I64 n) : Fits (.ok n) := fun _ e => by rw [← Except.ok.inj e]; exact h
theorem fits_error (n : Int) : Fits (.error n) := fun _ e => by cases e
theorem fits_ite {c : Prop} [Decidable c] {x y : Except Int Int} (hx : Fits x) (hy : Fits y) : Fits (if c then x else y) := by split <;> assumption

theorem I64_two {f a b n : Int} (ha : I64 a) (hb : I64 b) (h : M.two f a b = .ok n) : I64 n := by
  have hf : Fits (M.two f a b) := by
    unfold M.two
    refine fits_ite (fits_ok (I64_wrap _)) (fits_ite (fits_ok (I64_wrap _)) (fits_ite (fits_ok (I64_wrap _)) (fits_ite (fits_ite (fits_error _) (fits_ok (I64_floor _ _ ha)))
      (fits_ite (fits_ite (fits_ok hb) (fits_ok (I64_wrap _))) (fits_ite (fits_ok ?_) (fits_ite (fits_ok ?_) (fits_ite (fits_ok (I64_bit _)) (fits_ite (fits_ok (I64_bit _)) (fits_ite (fits_ok (I64_bit _))
      (fits_ite (fits_ok (I64_bit _)) (fits_ite (fits_ok (I64_bit _)) (fits_ite (fits_ok (I64_bit _)) (fits_ite (fits_ok (I64_bits _ _ _ (.inl rfl))) (fits_ite (fits_ok (I64_bits _ _ _ (.inr rfl)))
      (fits_ite (fits_ite (fits_error _) (fits_ok (I64_wrap _))) (fits_error _))))))))))))))))
    · split <;> assumption
    · split <;> assumption
  exact hf n h

end Go.Proofs.YtaplaoelamnoiaaGreatDoor

/- The helper Ints of the statements: whether two lists are the same. Condition: the slices read as lists of ints. -/
namespace Go.Proofs.YtaplaoelamnoiaaGreatDoor
open Go.RowKit

set_option maxHeartbeats 400000 in
/-- Are two lists the same? -/
theorem ints_any (a b : Option Addr) (s t : List Int) (m n c d : Nat) (w : World) (hs : Row w a s) (ht : Row w b t) (hm : s.length ≤ maxLen) (hn : t.length ≤ maxLen) (em : m = s.length) (en : n = t.length) :
    Calls Tryz.prog 9 #[.slice a m c, .slice b n d] w fun e w' => e = .returned (.bool (decide (s = t))) ∧ ∃ n, w' = w.drewN n := by
  subst em
  subst en
  unfold maxLen at hm hn
  by_cases hl : s.length = t.length
  · have hb1 : (((s.length : Nat) : Int) != ((t.length : Nat) : Int)) = false := by rw [bne_eq_false_iff_eq]; omega
    replace hl := Lib.hid hl
    go_enter Tryz.func9, Tryz.ntmps9
    go_wp2
    go_loopw [5] (fun i wr => ∃ k : Nat, k ≤ s.length ∧ i = .int .i64 k ∧ s.take k = t.take k ∧ ∃ n, wr = w.drewN n) (fun i _ => s.length - (intOf i).toNat)
    case atStart => exact ⟨0, Nat.zero_le _, rfl, rfl, 0, rfl⟩
    case round =>
      obtain ⟨k, hk, rfl, heq, n, rfl⟩ := hrel
      replace heq := Lib.hid heq
      by_cases hlt : k < s.length
      · have hlt' : k < t.length := by have := hl.out; omega
        obtain ⟨b1, o1, rfl, hc⟩ := hs k hlt
        obtain ⟨b2, o2, rfl, hc2⟩ := ht k hlt'
        go_wp2
        go_quiet (fail)
        go_wp2
        · have hne : s ≠ t := by
            rintro rfl
            exact absurd ‹(s[k] != s[k]) = true› (by simp)
          go_ret
          exact ⟨by rw [decide_eq_false hne]; rfl, _, World.drewN_drewN _ _ _⟩
        · have he : s[k] = t[k] := by simpa using ‹(s[k] != t[k]) = false›
          go_roundw
          case rel =>
            refine ⟨k + 1, by omega, by go_num, ?_, _, rfl⟩
            rw [List.take_succ_eq_append_getElem hlt, List.take_succ_eq_append_getElem hlt', heq.out, he]
          case measure => simp [intOf]; omega
      · have he : s = t := by
          have h1 := heq.out
          have h2 := hl.out
          rwa [List.take_of_length_le (by omega), List.take_of_length_le (by omega)] at h1
        replace he := Lib.hid he
        go_wp2
        go_ret
        exact ⟨by rw [decide_eq_true he.out]; rfl, _, rfl⟩
  · have hb1 : (((s.length : Nat) : Int) != ((t.length : Nat) : Int)) = true := by rw [bne_iff_ne]; omega
    have hne : s ≠ t := fun h => hl (by rw [h])
    go_enter Tryz.func9, Tryz.ntmps9
    go_wp2
    go_ret
    exact ⟨by rw [decide_eq_false hne]; rfl, 0, rfl⟩

end Go.Proofs.YtaplaoelamnoiaaGreatDoor

/- So many things in turn, the first error told. No condition. -/
namespace Go.Proofs.YtaplaoelamnoiaaGreatDoor
open Go.RowKit

namespace M
/-- So many things in turn, till one goes wrong. -/
def seqE : Nat → (Nat → Except Int Int) → Except Int (List Int)
  | 0, _ => .ok []
  | n + 1, F => match seqE n F with
    | .error e => .error e
    | .ok l => match F n with
      | .error e => .error e
      | .ok v => .ok (l ++ [v])
end M

theorem seqE_length {n : Nat} {F : Nat → Except Int Int} : ∀ {l : List Int}, M.seqE n F = .ok l → l.length = n := by
  induction n with
  | zero => intro l h; cases h; rfl
  | succ n ih =>
    intro l h
    unfold M.seqE at h
    cases hq : M.seqE n F with
    | error e => rw [hq] at h; cases h
    | ok l' =>
      rw [hq] at h
      cases hf : F n with
      | error e => simp only [hf] at h; cases h
      | ok v => simp only [hf] at h; cases h; simp [ih hq]
theorem seqE_next {n : Nat} {F : Nat → Except Int Int} {l : List Int} {v : Int} (h : M.seqE n F = .ok l) (hv : F n = .ok v) : M.seqE (n + 1) F = .ok (l ++ [v]) := by
  unfold M.seqE; rw [h]; simp only [hv]
theorem seqE_stop {n : Nat} {F : Nat → Except Int Int} {l : List Int} {e : Int} (h : M.seqE n F = .ok l) (hv : F n = .error e) : M.seqE (n + 1) F = .error e := by
  unfold M.seqE; rw [h]; simp only [hv]
theorem seqE_error {n : Nat} {F : Nat → Except Int Int} {e : Int} (h : M.seqE n F = .error e) : ∀ {m : Nat}, n ≤ m → M.seqE m F = .error e := by
  intro m hm
  induction m with
  | zero => obtain rfl : n = 0 := by omega
            exact h
  | succ m ih =>
    by_cases he : n = m + 1
    · subst he; exact h
    · unfold M.seqE; rw [ih (by omega)]
theorem seqE_get {n : Nat} {F : Nat → Except Int Int} : ∀ {l : List Int}, M.seqE n F = .ok l → ∀ i, i < n → F i = .ok (l.getD i 0) := by
  induction n with
  | zero => intro l h i hi; omega
  | succ n ih =>
    intro l h i hi
    unfold M.seqE at h
    cases hq : M.seqE n F with
    | error e => rw [hq] at h; cases h
    | ok l' =>
      rw [hq] at h
      cases hf : F n with
      | error e => simp only [hf] at h; cases h
      | ok v =>
        simp only [hf] at h
        cases h
        have hl := seqE_length hq
        by_cases hn : i = n
        · subst hn; rw [hf, ← hl]; simp
        · rw [ih hq i (by omega), List.getD_eq_getElem?_getD, List.getD_eq_getElem?_getD, List.getElem?_append_left (by omega)]
theorem seqE_all {n : Nat} {F : Nat → Except Int Int} {l : List Int} (h : M.seqE n F = .ok l) (hF : ∀ i v, i < n → F i = .ok v → I64 v) : All64 l := fun x hx => by
  obtain ⟨i, hi, rfl⟩ := List.getElem_of_mem hx
  have hl := seqE_length h
  have := seqE_get h i (by omega)
  rw [List.getD_eq_getElem?_getD, List.getElem?_eq_getElem hi, Option.getD_some] at this
  exact hF i _ (by omega) this
theorem seqE_ok {n : Nat} {F : Nat → Except Int Int} {G : Nat → Int} (h : ∀ i, i < n → F i = .ok (G i)) : M.seqE n F = .ok ((List.range n).map G) := by
  induction n with
  | zero => rfl
  | succ n ih => rw [seqE_next (ih fun i hi => h i (by omega)) (h n (by omega)), List.range_succ, List.map_append]; rfl
theorem tw_i64 {g : Int} {c1 c2 : Bool} {a b v : Int} (ha : I64 a) (hb : I64 b) (h : M.tw g c1 c2 a b = .ok v) : I64 v := by
  unfold M.tw at h
  split at h
  · exact I64_two ha hb h
  · cases h; split <;> (unfold I64; omega)

end Go.Proofs.YtaplaoelamnoiaaGreatDoor

/- The library's slices.Equal on ints. Condition: rows that lie as lists of ints. -/
namespace Go.Proofs.YtaplaoelamnoiaaGreatDoor
open Go.RowKit

set_option maxHeartbeats 400000 in
/-- Are two lists the same? (the library) -/
theorem equal_any (a b : Option Addr) (s t : List Int) (m n c d : Nat) (w : World) (hs : Row w a s) (ht : Row w b t) (hm : s.length ≤ maxLen) (hn : t.length ≤ maxLen) (em : m = s.length) (en : n = t.length) :
    Calls Tryz.prog 208 #[.slice a m c, .slice b n d] w fun e w' => e = .returned (.bool (decide (s = t))) ∧ ∃ n, w' = w.drewN n := by
  subst em
  subst en
  unfold maxLen at hm hn
  by_cases hl : s.length = t.length
  · have hb1 : (((s.length : Nat) : Int) != ((t.length : Nat) : Int)) = false := by rw [bne_eq_false_iff_eq]; omega
    replace hl := Lib.hid hl
    go_enter Tryz.func208, Tryz.ntmps208
    go_wp2
    go_loopw [13] (fun i wr => ∃ k : Nat, k ≤ s.length ∧ i = .int .i64 k ∧ s.take k = t.take k ∧ ∃ n, wr = w.drewN n) (fun i _ => s.length - (intOf i).toNat)
    case atStart => exact ⟨0, Nat.zero_le _, rfl, rfl, 0, rfl⟩
    case round =>
      obtain ⟨k, hk, rfl, heq, n, rfl⟩ := hrel
      replace heq := Lib.hid heq
      by_cases hlt : k < s.length
      · have hlt' : k < t.length := by have := hl.out; omega
        obtain ⟨b1, o1, rfl, hc⟩ := hs k hlt
        obtain ⟨b2, o2, rfl, hc2⟩ := ht k hlt'
        go_wp2
        go_quiet (fail)
        go_wp2
        · have hne : s ≠ t := by
            rintro rfl
            exact absurd ‹(s[k] != s[k]) = true› (by simp)
          go_ret
          exact ⟨by rw [decide_eq_false hne]; rfl, _, World.drewN_drewN _ _ _⟩
        · have he : s[k] = t[k] := by simpa using ‹(s[k] != t[k]) = false›
          go_roundw
          case rel =>
            refine ⟨k + 1, by omega, by go_num, ?_, _, rfl⟩
            rw [List.take_succ_eq_append_getElem hlt, List.take_succ_eq_append_getElem hlt', heq.out, he]
          case measure => simp [intOf]; omega
      · have he : s = t := by
          have h1 := heq.out
          have h2 := hl.out
          rwa [List.take_of_length_le (by omega), List.take_of_length_le (by omega)] at h1
        replace he := Lib.hid he
        go_wp2
        go_ret
        exact ⟨by rw [decide_eq_true he.out]; rfl, _, rfl⟩
  · have hb1 : (((s.length : Nat) : Int) != ((t.length : Nat) : Int)) = true := by rw [bne_iff_ne]; omega
    have hne : s ≠ t := fun h => hl (by rw [h])
    go_enter Tryz.func208, Tryz.ntmps208
    go_wp2
    go_ret
    exact ⟨by rw [decide_eq_false hne]; rfl, 0, rfl⟩

end Go.Proofs.YtaplaoelamnoiaaGreatDoor
