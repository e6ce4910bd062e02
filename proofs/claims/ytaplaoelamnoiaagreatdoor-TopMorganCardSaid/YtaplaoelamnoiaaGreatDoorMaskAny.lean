/- The document's Mask. Condition: a row that lies as a list of ints. -/
import Derived.Test.YtaplaoelamnoiaaGreatDoorBd04
import Derived.Test.YtaplaoelamnoiaaGreatDoorSqApp
import Derived.Test.YtaplaoelamnoiaaGreatDoorBd11
namespace Go.Proofs.YtaplaoelamnoiaaGreatDoor
open Go.RowKit

theorem all01 {d : List Int} (h : ∀ p, p < d.length → d.getD p 0 = 0 ∨ d.getD p 0 = 1) : d.all (fun c => c == 0 || c == 1) = true := by
  rw [List.all_eq_true]
  intro c hc
  obtain ⟨p, hp, rfl⟩ := List.getElem_of_mem hc
  have := h p hp
  simp only [List.getD_eq_getElem?_getD, List.getElem?_eq_getElem hp, Option.getD_some] at this
  rcases this with h | h <;> simp [h]
theorem not01 {d : List Int} {p : Nat} (hp : p < d.length) (h0 : d[p] ≠ 0) (h1 : d[p] ≠ 1) : d.all (fun c => c == 0 || c == 1) ≠ true := by
  intro h
  rw [List.all_eq_true] at h
  have := h d[p] (List.getElem_mem hp)
  simp [h0, h1] at this

set_option maxHeartbeats 1000000 in
theorem mask_any (b : Option Addr) (d : List Int) (n z : Nat) (w : World) (hd : Row w b d) (ld : d.length ≤ maxLen) (en : n = d.length) :
    Calls Tryz.prog 11 #[.slice b n z] w fun e w' => e = .returned (.bool (d.all fun c => c == 0 || c == 1)) ∧ w = w' := by
  subst en
  unfold maxLen at ld
  go_enter Tryz.func11, Tryz.ntmps11
  go_wp2
  go_loop [3] (fun v => ∃ k : Nat, k ≤ d.length ∧ v = .int .i64 k ∧ ∀ p, p < k → d.getD p 0 = 0 ∨ d.getD p 0 = 1) (fun v => d.length - (intOf v).toNat)
  case atStart => exact ⟨0, Nat.zero_le _, rfl, fun p hp => absurd hp (Nat.not_lt_zero _)⟩
  case round =>
    obtain ⟨k, hk, rfl, h01⟩ := hrel
    by_cases hlt : k < d.length
    · obtain ⟨g, o, rfl, hc⟩ := hd k hlt
      have hget : d.getD k 0 = d[k] := by simp [hlt]
      by_cases h0 : d[k] = 0
      · have t0 : (d[k] != 0) = false := by rw [bne_eq_false_iff_eq]; exact h0
        have hnx := Lib.hid (show ∀ p, p < k + 1 → d.getD p 0 = 0 ∨ d.getD p 0 = 1 from fun p hp => by
          by_cases e : p = k
          · subst e; rw [hget]; exact .inl h0
          · exact h01 p (by omega))
        rw [hget] at hc
        generalize d[k] = x at *
        replace h0 := Lib.hid h0
        replace h01 := Lib.hid h01
        clear hget
        go_wp2
        go_round
        case rel => exact ⟨k + 1, by omega, by go_num, hnx.out⟩
        case measure => simp [intOf]; omega
      · have t0 : (d[k] != 0) = true := by rw [bne_iff_ne]; exact h0
        by_cases h1 : d[k] = 1
        · have t1 : (d[k] != 1) = false := by rw [bne_eq_false_iff_eq]; exact h1
          have hnx := Lib.hid (show ∀ p, p < k + 1 → d.getD p 0 = 0 ∨ d.getD p 0 = 1 from fun p hp => by
            by_cases e : p = k
            · subst e; rw [hget]; exact .inr h1
            · exact h01 p (by omega))
          rw [hget] at hc
          generalize d[k] = x at *
          replace h0 := Lib.hid h0
          replace h1 := Lib.hid h1
          replace h01 := Lib.hid h01
          clear hget
          go_wp2
          go_round
          case rel => exact ⟨k + 1, by omega, by go_num, hnx.out⟩
          case measure => simp [intOf]; omega
        · have t1 : (d[k] != 1) = true := by rw [bne_iff_ne]; exact h1
          have hno := Lib.hid (not01 hlt h0 h1)
          rw [hget] at hc
          generalize d[k] = x at *
          replace h0 := Lib.hid h0
          replace h1 := Lib.hid h1
          replace h01 := Lib.hid h01
          clear hget
          go_wp2
          go_ret
          exact ⟨by rw [Bool.eq_false_iff.2 hno.out]; rfl, rfl⟩
    · obtain rfl : k = d.length := by omega
      have hall := Lib.hid (all01 h01)
      replace h01 := Lib.hid h01
      go_wp2
      go_ret
      exact ⟨by rw [hall.out]; rfl, rfl⟩
end Go.Proofs.YtaplaoelamnoiaaGreatDoor
