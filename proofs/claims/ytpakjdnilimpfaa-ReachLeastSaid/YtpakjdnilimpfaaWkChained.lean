/- The statements' helper chained. Condition: a row that lies as a list of ints, at most 24 things. -/
import Derived.Test.YtpakjdnilimpfaaWkClose
namespace Go.Proofs.Ytpakjdnilimpfaa
open Go.RowKit

/-- Each two steps have one. -/
def Chained (n : Nat) (d : List Int) : Prop := ∀ i j k, i < n → j < n → k < n → d.getD (i * n + j) 0 = 1 → d.getD (j * n + k) 0 = 1 → d.getD (i * n + k) 0 = 1

/-- What chained tells. -/
def ChainedPost (n : Nat) (d : List Int) (w : World) (e : Ending) (w' : World) : Prop := ∃ r : Bool, e = .returned (.bool r) ∧ (r = true ↔ Chained n d) ∧ w = w'

set_option maxHeartbeats 4000000 in
theorem chained_any (n : Nat) (b : Option Addr) (d : List Int) (m z : Nat) (w : World) (hd : Row w b d) (hn : n ≤ 24) (hl : n * n ≤ d.length) (ld : d.length ≤ maxLen) (em : m = d.length) :
    Calls Try.prog 9 #[.int .i64 n, .slice b m z] w (ChainedPost n d w) := by
  subst em
  unfold maxLen at ld
  replace hl := Lib.hid hl
  go_enter Try.func9, Try.ntmps9
  go_wp2
  go_loop [5] (fun v => ∃ i : Nat, i ≤ n ∧ v = .int .i64 i ∧ (∀ i' j k, i' < i → j < n → k < n → d.getD (i' * n + j) 0 = 1 → d.getD (j * n + k) 0 = 1 → d.getD (i' * n + k) 0 = 1)) (fun v => n - (intOf v).toNat)
  case atStart => exact ⟨0, Nat.zero_le _, rfl, fun i' j k h => absurd h (Nat.not_lt_zero _)⟩
  case round =>
    obtain ⟨i, hi, rfl, h1⟩ := hrel
    replace h1 := Lib.hid h1
    by_cases hlt : i < n
    · go_wp2
      go_loop [6] (fun v => ∃ j : Nat, j ≤ n ∧ v = .int .i64 j ∧ (∀ j' k, j' < j → k < n → d.getD (i * n + j') 0 = 1 → d.getD (j' * n + k) 0 = 1 → d.getD (i * n + k) 0 = 1)) (fun v => n - (intOf v).toNat)
      case atStart => exact ⟨0, Nat.zero_le _, rfl, fun j k h => absurd h (Nat.not_lt_zero _)⟩
      case round =>
        obtain ⟨j, hj, rfl, h2⟩ := hrel
        replace h2 := Lib.hid h2
        by_cases hlj : j < n
        · go_wp2
          go_loop [7] (fun v => ∃ k : Nat, k ≤ n ∧ v = .int .i64 k ∧ (∀ k', k' < k → d.getD (i * n + j) 0 = 1 → d.getD (j * n + k') 0 = 1 → d.getD (i * n + k') 0 = 1)) (fun v => n - (intOf v).toNat)
          case atStart => exact ⟨0, Nat.zero_le _, rfl, fun k h => absurd h (Nat.not_lt_zero _)⟩
          case round =>
            obtain ⟨k, hk, rfl, h3⟩ := hrel
            replace h3 := Lib.hid h3
            by_cases hlk : k < n
            · have hnn : n * n ≤ 24 * 24 := Nat.mul_le_mul hn hn
              have q1 := index_lt hlt hlj
              have q2 := index_lt hlj hlk
              have q3 := index_lt hlt hlk
              have e1 : ((i : Int) * (n : Int)) = ((i * n : Nat) : Int) := by simp
              have e2 : ((j : Int) * (n : Int)) = ((j * n : Nat) : Int) := by simp
              obtain ⟨p, hp⟩ : ∃ p, p = i * n := ⟨_, rfl⟩
              obtain ⟨q, hq⟩ : ∃ q, q = j * n := ⟨_, rfl⟩
              rw [← hp] at q1 q3 e1
              rw [← hq] at q2 e2
              have hL := hl.out
              obtain ⟨bd, od, rfl, c1⟩ := hd (p + j) (by omega)
              obtain ⟨bd', od', ee, c2⟩ := hd (q + k) (by omega)
              cases ee
              obtain ⟨bd', od', ee, c3⟩ := hd (p + k) (by omega)
              cases ee
              have p1 : p ≤ 576 := by omega
              have p2 : q ≤ 576 := by omega
              have l1 : p + j < d.length := by omega
              have l2 : q + k < d.length := by omega
              have l3 : p + k < d.length := by omega
              have i1 : (p : Int) + (j : Int) < (d.length : Int) := by omega
              have i2 : (q : Int) + (k : Int) < (d.length : Int) := by omega
              have i3 : (p : Int) + (k : Int) < (d.length : Int) := by omega
              have g1 : d.getD (p + j) 0 = d[p + j] := by simp [l1]
              have g2 : d.getD (q + k) 0 = d[q + k] := by simp [l2]
              have g3 : d.getD (p + k) 0 = d[p + k] := by simp [l3]
              have hgood : (d[p + j] = 1 → d[q + k] = 1 → d[p + k] = 1) → ∀ k', k' < k + 1 → d.getD (i * n + j) 0 = 1 → d.getD (j * n + k') 0 = 1 → d.getD (i * n + k') 0 = 1 := by
                intro h k' hk'
                by_cases e : k' = k
                · subst e; rw [← hp, ← hq, g1, g2, g3]; exact h
                · exact h3.out k' (by omega)
              have hbad : d[p + j] = 1 → d[q + k] = 1 → d[p + k] ≠ 1 → ¬ Chained n d := by
                intro a1 a2 a3 hc
                have := hc i j k hlt hlj hlk
                rw [← hp, ← hq, g1, g2, g3] at this
                exact a3 (this a1 a2)
              replace hgood := Lib.hid hgood
              replace hbad := Lib.hid hbad
              have pw1 : -9223372036854775808 ≤ (p : Int) ∧ (p : Int) ≤ 9223372036854775807 := by omega
              have pw2 : -9223372036854775808 ≤ (q : Int) ∧ (q : Int) ≤ 9223372036854775807 := by omega
              have w1 : wrap64 ((i : Int) * (n : Int)) = (p : Int) := by rw [e1]; exact IntWalk.wrap64_in _ pw1
              have w2 : wrap64 ((j : Int) * (n : Int)) = (q : Int) := by rw [e2]; exact IntWalk.wrap64_in _ pw2
              clear hp hq e1 e2 hL q1 q2 q3 g1 g2 g3 hnn h3 pw1 pw2
              cases d1 : (d[p + j] == 1)
              case false =>
                have hg := Lib.hid (hgood.out (fun h => by rw [h] at d1; cases d1))
                clear hgood hbad
                go_wp2
                go_round
                case rel => exact ⟨k + 1, hlk, by go_num, hg.out⟩
                case measure => (clear w1 w2; simp [intOf]; omega)
              cases d2 : (d[q + k] == 1)
              case false =>
                have hg := Lib.hid (hgood.out (fun _ h => by rw [h] at d2; cases d2))
                clear hgood hbad
                go_wp2
                go_round
                case rel => exact ⟨k + 1, hlk, by go_num, hg.out⟩
                case measure => (clear w1 w2; simp [intOf]; omega)
              cases d3 : (d[p + k] == 1)
              case true =>
                have d4 : (d[p + k] != 1) = false := by rw [bne, d3]; rfl
                have hg := Lib.hid (hgood.out (fun _ _ => by simpa using d3))
                clear hgood hbad
                go_wp2
                go_round
                case rel => exact ⟨k + 1, hlk, by go_num, hg.out⟩
                case measure => (clear w1 w2; simp [intOf]; omega)
              have d4 : (d[p + k] != 1) = true := by rw [bne, d3]; rfl
              have hg := Lib.hid (hbad.out (by simpa using d1) (by simpa using d2) (by simpa using d3))
              clear hgood hbad
              go_wp2
              go_ret
              exact ⟨false, rfl, ⟨fun h => (by cases h), fun h => absurd h hg.out⟩, rfl⟩
            · obtain rfl : k = n := by omega
              have h4 := Lib.hid (show ∀ j' k', j' < j + 1 → k' < k → d.getD (i * k + j') 0 = 1 → d.getD (j' * k + k') 0 = 1 → d.getD (i * k + k') 0 = 1 from fun j' k' hj' hk' => by
                by_cases e : j' = j
                · subst e; exact h3.out k' hk'
                · exact h2.out j' k' (by omega) hk')
              clear h3
              go_wp2
              go_round
              case rel => exact ⟨j + 1, by omega, by go_num, h4.out⟩
              case measure => simp [intOf]; omega
        · obtain rfl : j = n := by omega
          have h4 := Lib.hid (show ∀ i' j' k', i' < i + 1 → j' < j → k' < j → d.getD (i' * j + j') 0 = 1 → d.getD (j' * j + k') 0 = 1 → d.getD (i' * j + k') 0 = 1 from fun i' j' k' hi' hj' hk' => by
            by_cases e : i' = i
            · subst e; exact h2.out j' k' hj' hk'
            · exact h1.out i' j' k' (by omega) hj' hk')
          clear h2
          go_wp2
          go_round
          case rel => exact ⟨i + 1, by omega, by go_num, h4.out⟩
          case measure => simp [intOf]; omega
    · obtain rfl : i = n := by omega
      go_wp2
      go_ret
      exact ⟨true, rfl, ⟨fun _ => fun i' j k hi' hj hk => h1.out i' j k hi' hj hk, fun _ => rfl⟩, rfl⟩

end Go.Proofs.Ytpakjdnilimpfaa
