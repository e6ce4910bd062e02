/- The call shape.Count returns M.count of the lengths; nothing in memory turns. Condition: the slice reads as a list of ints. -/
import Derived.Test.YtfnoalbnkbifmaaBdA
namespace Go.Proofs.Ytfnoalbnkbifmaa
open Go.RowKit

set_option maxHeartbeats 400000 in
theorem count_any (a : Option Addr) (s : List Int) (n c : Nat) (w : World) (hs : Row w a s) (hm : s.length ≤ maxLen) (hn : n = s.length) :
    Calls Try.prog 20 #[.slice a n c] w fun e w' => e = .returned (resI (M.count s)) ∧ w = w' := by
  subst hn
  unfold maxLen at hm
  go_enter Try.func20, Try.ntmps20
  by_cases h6 : 6 < s.length
  · have hf := Lib.hid (show M.count s = .error 3 from if_pos h6)
    go_wp2
    go_ret2
    exact ⟨by rw [hf.out]; rfl, rfl⟩
  · go_wp2
    go_loop [17] (fun i => ∃ k : Nat, k ≤ s.length ∧ i = .int .i64 k ∧ M.badLen s = M.badLen (s.drop k)) (fun i => s.length - (intOf i).toNat)
    case atStart => exact ⟨0, Nat.zero_le _, rfl, rfl⟩
    case round =>
      obtain ⟨k, hk, rfl, hb⟩ := hrel
      replace hb := Lib.hid hb
      by_cases hlt : k < s.length
      · obtain ⟨b, off, rfl, hc⟩ := hs k hlt
        have hd := Lib.hid (badLen_drop hlt)
        go_wp2
        · go_ret2
          have h0 : s.getD k 0 < 0 := by simpa [hlt] using ‹s[k] < 0›
          rw [hd.out, if_pos h0] at hb
          have hf : M.count s = .error 4 := by rw [M.count, if_neg h6, hb.out, if_pos (by decide)]
          exact ⟨by rw [hf]; rfl, rfl⟩
        · go_ret2
          have h0 : ¬ s.getD k 0 < 0 := by simpa [hlt] using ‹0 ≤ s[k]›
          have h1 : 4096 < s.getD k 0 := by simpa [hlt] using ‹4096 < s[k]›
          rw [hd.out, if_neg h0, if_pos h1] at hb
          have hf : M.count s = .error 7 := by rw [M.count, if_neg h6, hb.out, if_pos (by decide)]
          exact ⟨by rw [hf]; rfl, rfl⟩
        · have h0 : ¬ s.getD k 0 < 0 := by simpa [hlt] using ‹0 ≤ s[k]›
          have h1 : ¬ 4096 < s.getD k 0 := by simpa [hlt] using ‹s[k] ≤ 4096›
          rw [hd.out, if_neg h0, if_neg h1] at hb
          go_round
          case rel => exact ⟨k + 1, by omega, by go_num, hb.out⟩
          case measure => simp [intOf]; omega
      · have hz : M.badLen s = 0 := by rw [hb.out, List.drop_eq_nil_of_le (by omega)]; rfl
        have hr := badLen_zero hz
        have hz := Lib.hid hz
        clear hb
        replace hr := Lib.hid hr
        go_wp2
        go_loop [30] (fun i => ∃ k : Nat, k ≤ s.length ∧ i = .int .i64 k ∧ 0 ∉ s.take k) (fun i => s.length - (intOf i).toNat)
        case atStart => exact ⟨0, Nat.zero_le _, rfl, by simp⟩
        case round =>
          obtain ⟨k, hk, rfl, hb⟩ := hrel
          replace hb := Lib.hid hb
          by_cases hlt : k < s.length
          · obtain ⟨b, off, rfl, hc⟩ := hs k hlt
            go_wp2
            · go_ret2
              have h0 : (0 : Int) ∈ s := by have h : s[k] = 0 := by simpa using ‹(s[k] == 0) = true›
                                            rw [← h]; exact List.getElem_mem _
              have hf : M.count s = .ok 0 := by rw [M.count, if_neg h6, hz.out, if_neg (by decide), if_pos h0]
              exact ⟨by rw [hf]; rfl, rfl⟩
            · go_round
              case rel =>
                refine ⟨k + 1, by omega, by go_num, ?_⟩
                have h : ¬ s[k] = 0 := by simpa using ‹(s[k] == 0) = false›
                rw [List.take_succ_eq_append_getElem hlt, List.mem_append]
                rintro (hm' | hm')
                · exact hb.out hm'
                · simp at hm'; omega
              case measure => simp [intOf]; omega
          · have h0 := hb.out
            rw [List.take_of_length_le (by omega)] at h0
            have hcn : M.count s = M.mulUp 1 s := by rw [M.count, if_neg h6, hz.out, if_neg (by decide), if_neg h0]
            replace hcn := Lib.hid hcn
            replace h0 := Lib.hid h0
            clear hb
            go_wp2
            go_loop [6, 39] (fun p i => ∃ k : Nat, k ≤ s.length ∧ i = .int .i64 k ∧ ∃ q : Int, 1 ≤ q ∧ q ≤ 4096 ∧ p = .int .i64 q ∧ M.mulUp 1 s = M.mulUp q (s.drop k)) (fun _ i => s.length - (intOf i).toNat)
            case atStart => exact ⟨0, Nat.zero_le _, rfl, 1, by omega, by omega, rfl, rfl⟩
            case round =>
              obtain ⟨k, hk, rfl, q, hq1, hq2, rfl, hb⟩ := hrel
              replace hb := Lib.hid hb
              by_cases hlt : k < s.length
              · obtain ⟨b, off, rfl, hc⟩ := hs k hlt
                have hd := Lib.hid (mulUp_drop q hlt)
                have hx := hr.out s[k] (List.getElem_mem _)
                have hx0 : s[k] ≠ 0 := fun h => h0.out (h ▸ List.getElem_mem _)
                have hp1 : q * s[k] ≤ 4096 * 4096 := Int.mul_le_mul hq2 hx.2 (by omega) (by omega)
                have hp0 : 1 ≤ q * s[k] := Int.mul_pos (by omega) (by omega)
                obtain ⟨hx1, hx2⟩ := hx
                go_wp2
                · go_ret2
                  have h1 : 4096 < q * s.getD k 0 := by simpa [hlt] using ‹4096 < q * s[k]›
                  rw [hd.out, if_pos h1] at hb
                  exact ⟨by rw [hcn.out, hb.out]; rfl, rfl⟩
                · have h1 : ¬ 4096 < q * s.getD k 0 := by simpa [hlt] using ‹q * s[k] ≤ 4096›
                  rw [hd.out, if_neg h1] at hb
                  go_round
                  case rel => exact ⟨k + 1, by omega, by go_num, q * s[k], hp0, by assumption, rfl, by rw [hb.out]; simp [hlt]⟩
                  case measure => simp [intOf]; omega
              · go_wp2
                go_ret2
                have h1 := hb.out
                rw [List.drop_eq_nil_of_le (by omega)] at h1
                exact ⟨by rw [hcn.out, h1]; rfl, rfl⟩

end Go.Proofs.Ytfnoalbnkbifmaa
