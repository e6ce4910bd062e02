/- Texts that lie in one file: what is plain, rows, boxes, squares, and what is known of a world. No condition. -/
import Derived.Test.YtaplaoelamnoiaaGreatDoorBg24
import Derived.RegionTactic
import Derived.BigRegion
import Derived.Deep.Cut
/- The library's swapRangeCmpFunc on ints. Condition: two parts of a row that do not meet, at most 4096 cells. -/
namespace Go.Proofs.YtaplaoelamnoiaaGreatDoor
open Go.RowKit

set_option maxRecDepth 20000 in
set_option maxHeartbeats 4000000 in
theorem swapr_any (w0 : World) (g n c : Nat) (f : Nat → Int) (a b k : Nat) (fv : Value) (w : World) (h : SRel w0 g n f w) (hab : a + k ≤ b) (hb : b + k ≤ n) (h4 : n ≤ 4096) :
    Calls Tryz.prog 243 #[.slice (some ⟨g, 0, none⟩) n c, .int .i64 a, .int .i64 b, .int .i64 k, fv] w fun e w' => e = .returned (.tuple #[]) ∧ SRel w0 g n (swr f a b k) w' := by
  have h0 := Lib.hid (h.same fun p _ => swr_zero f a b p)
  clear h
  go_enter Tryz.func243, Tryz.ntmps243
  go_wp2
  go_loopw [10] (fun v wr => ∃ i : Nat, v = .int .i64 i ∧ i ≤ k ∧ SRel w0 g n (swr f a b i) wr) (fun v _ => k - (intOf v).toNat)
  case atStart => exact ⟨0, rfl, Nat.zero_le _, h0.out⟩
  case round =>
    obtain ⟨i, rfl, hi, hR⟩ := hrel
    by_cases hlt : i < k
    · have hst := Lib.hid (fun p (_ : p < n) => (swr_step f hlt hab p).symm)
      have hsw := Lib.hid ((hR.swap (i := a + i) (j := b + i) (by omega) (by omega)).drew 1)
      have c1 := hR.row (a + i) (by omega)
      have c2 := hR.row (b + i) (by omega)
      have f1 := hR.fz (a + i)
      have f2 := hR.fz (b + i)
      generalize swr f a b i (a + i) = x1 at *
      generalize swr f a b i (b + i) = x2 at *
      have z1 : ((a : Int) + (i : Int)).toNat = a + i := by omega
      have z2 : ((b : Int) + (i : Int)).toNat = b + i := by omega
      have l1 : (0 : Int) ≤ (a : Int) + (i : Int) := by omega
      have l2 : (0 : Int) ≤ (b : Int) + (i : Int) := by omega
      have m1 : (a : Int) + (i : Int) < (n : Int) := by omega
      have m2 : (b : Int) + (i : Int) < (n : Int) := by omega
      replace hR := Lib.hid hR
      go_upto_region 3 with fail
      go_region
      go_wp2
      go_roundw
      case rel => exact ⟨i + 1, by go_num, hlt, hsw.out.same hst.out⟩
      case measure => simp [intOf]; omega
    · obtain rfl : i = k := by omega
      have e1 : decide (((i : Nat) : Int) < ((i : Nat) : Int)) = false := decide_eq_false (by omega)
      go_wp2
      refine bodyPost_end (results_none rfl _ _ _) rfl ?_
      exact ⟨rfl, hR⟩
end Go.Proofs.YtaplaoelamnoiaaGreatDoor

/- The library's rotateCmpFunc on ints. Condition: two parts of a row, one behind the other, at most 4096 cells. -/
namespace Go.Proofs.YtaplaoelamnoiaaGreatDoor
open Go.RowKit

set_option maxRecDepth 20000 in
set_option maxHeartbeats 4000000 in
theorem rotate_any (w0 : World) (g n c : Nat) (f : Nat → Int) (a m b : Nat) (fv : Value) (w : World) (h : SRel w0 g n f w) (ha : a < m) (hm : m < b) (hb : b ≤ n) (h4 : n ≤ 4096) :
    Calls Tryz.prog 242 #[.slice (some ⟨g, 0, none⟩) n c, .int .i64 a, .int .i64 m, .int .i64 b, fv] w fun e w' => e = .returned (.tuple #[]) ∧ SRel w0 g n (rot f a m b) w' := by
  have hR0 := rot_start (f := f) (Nat.le_of_lt ha) (Nat.le_of_lt hm)
  generalize rot f a m b = T at *
  have k1 : ∀ (d : Nat → Int) (i j : Nat) W, j ≤ i → i ≤ m → m + j ≤ n → SRel w0 g n d W → Calls Tryz.prog 243 #[.slice (some ⟨g, 0, none⟩) n c, .int .i64 ((m : Int) - (i : Int)), .int .i64 m, .int .i64 j, fv] W fun e w' => e = .returned (.tuple #[]) ∧ SRel w0 g n (swr d (m - i) m j) w' :=
    fun d i j W h1 h2 h3 h => by
      rw [show (m : Int) - (i : Int) = ((m - i : Nat) : Int) by omega]
      exact swapr_any w0 g n c d (m - i) m j fv W h (by omega) h3 h4
  have k2 : ∀ (d : Nat → Int) (i j : Nat) W, i < j → i ≤ m → m + j ≤ n → SRel w0 g n d W → Calls Tryz.prog 243 #[.slice (some ⟨g, 0, none⟩) n c, .int .i64 ((m : Int) - (i : Int)), .int .i64 ((m : Int) + (j : Int) - (i : Int)), .int .i64 i, fv] W fun e w' => e = .returned (.tuple #[]) ∧ SRel w0 g n (swr d (m - i) (m + j - i) i) w' :=
    fun d i j W h1 h2 h3 h => by
      rw [show (m : Int) - (i : Int) = ((m - i : Nat) : Int) by omega, show (m : Int) + (j : Int) - (i : Int) = ((m + j - i : Nat) : Int) by omega]
      exact swapr_any w0 g n c d (m - i) (m + j - i) i fv W h (by omega) (by omega) h4
  replace k1 := Lib.hid k1
  replace k2 := Lib.hid k2
  replace h := Lib.hid h
  replace hR0 := Lib.hid hR0
  go_enter Tryz.func242, Tryz.ntmps242
  go_wp2
  go_loopw [10, 11] (fun vi vj wr => ∃ (i j : Nat) (d : Nat → Int), vi = .int .i64 i ∧ vj = .int .i64 j ∧ 0 < i ∧ 0 < j ∧ i ≤ m ∧ m + j ≤ b ∧ RotInv T d m i j ∧ SRel w0 g n d wr) (fun vi vj _ => (intOf vi).toNat + (intOf vj).toNat)
  case atStart => exact ⟨m - a, b - m, f, by go_num, by go_num, by omega, by omega, by omega, by omega, hR0.out, h.out⟩
  case round =>
    obtain ⟨i, j, d, rfl, rfl, hi0, hj0, him, hjb, hI, hR⟩ := hrel
    by_cases hij : i = j
    · subst hij
      have t0 : (((i : Nat) : Int) == ((i : Nat) : Int)) = true := by rw [beq_iff_eq]
      replace hI := Lib.hid hI
      replace hR := Lib.hid hR
      go_wp2_with fail
      refine (k1.out d i i _ (Nat.le_refl _) him (by omega) hR.out).mono ?_
      rintro e w5 ⟨rfl, h5⟩
      replace h5 := Lib.hid h5
      go_wp2
      refine bodyPost_end (results_none rfl _ _ _) rfl ?_
      exact ⟨rfl, h5.out.same fun p _ => (rot_end him hI.out p).symm⟩
    · have t0 : (((i : Nat) : Int) == ((j : Nat) : Int)) = false := by rw [beq_eq_false_iff_ne]; omega
      by_cases hlt : j < i
      · have t1 : decide (((j : Nat) : Int) < ((i : Nat) : Int)) = true := decide_eq_true (by omega)
        replace hI := Lib.hid hI
        replace hR := Lib.hid hR
        go_wp2_with fail
        refine (k1.out d i j _ (Nat.le_of_lt hlt) him (by omega) hR.out).mono ?_
        rintro e w5 ⟨rfl, h5⟩
        replace h5 := Lib.hid h5
        go_wp2
        go_roundw
        case rel => exact ⟨i - j, j, _, by go_num, rfl, by omega, hj0, by omega, hjb, rot_one him hlt hI.out, h5.out⟩
        case measure => simp [intOf]; omega
      · have t1 : decide (((j : Nat) : Int) < ((i : Nat) : Int)) = false := decide_eq_false (by omega)
        have hlt2 : i < j := by omega
        replace hI := Lib.hid hI
        replace hR := Lib.hid hR
        go_wp2_with fail
        refine (k2.out d i j _ hlt2 him (by omega) hR.out).mono ?_
        rintro e w5 ⟨rfl, h5⟩
        replace h5 := Lib.hid h5
        go_wp2
        go_roundw
        case rel => exact ⟨i, j - i, _, rfl, by go_num, hi0, by omega, him, by omega, rot_two him hlt2 hI.out, h5.out⟩
        case measure => simp [intOf]; omega
end Go.Proofs.YtaplaoelamnoiaaGreatDoor
