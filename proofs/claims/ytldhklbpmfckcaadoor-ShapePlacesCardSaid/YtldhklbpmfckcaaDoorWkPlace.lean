/- The call shape.Place returns M.place of lengths and indices; nothing in memory turns. Condition: both slices read as lists of ints. -/
import Derived.Test.YtldhklbpmfckcaaDoorWkCount
import Derived.Test.YtldhklbpmfckcaaDoorPlace
namespace Go.Proofs.YtldhklbpmfckcaaDoor
open Go.RowKit

set_option maxHeartbeats 400000 in
theorem place_any (a b : Option Addr) (s t : List Int) (m n c d : Nat) (w : World) (hs : Row w a s) (ht : Row w b t) (hm : s.length ≤ maxLen) (hn : t.length ≤ maxLen) (em : m = s.length) (en : n = t.length) :
    Calls Tryd.prog 26 #[.slice a m c, .slice b n d] w fun e w' => e = .returned (resI (M.place s t)) ∧ w = w' := by
  subst em
  subst en
  have hcall := count_any a s _ c w hs hm rfl
  unfold maxLen at hm hn
  cases hcn : M.count s with
  | error e0 =>
    rw [hcn] at hcall
    have hf := Lib.hid (show M.place s t = .error e0 by rw [M.place, hcn])
    clear hcn
    go_enter Tryd.func26, Tryd.ntmps26
    go_wp2_with fail
    refine hcall.mono ?_
    rintro e w' ⟨rfl, rfl⟩
    dsimp only [resI]
    go_wp2
    go_ret2
    exact ⟨by rw [hf.out]; rfl, rfl⟩
  | ok n =>
    rw [hcn] at hcall
    have hf := Lib.hid (show M.place s t = if t.length ≠ s.length then .error 3 else M.placeFrom 0 s t by rw [M.place, hcn])
    clear hcn
    go_enter Tryd.func26, Tryd.ntmps26
    go_wp2_with fail
    refine hcall.mono ?_
    rintro e w' ⟨rfl, rfl⟩
    dsimp only [resI]
    by_cases hl : t.length = s.length
    · have hb1 : (((t.length : Nat) : Int) != ((s.length : Nat) : Int)) = false := by rw [bne_eq_false_iff_eq]; omega
      have hf := Lib.hid (show M.place s t = M.placeFrom 0 s t by rw [hf.out, if_neg (by omega)])
      replace hl := Lib.hid hl
      go_wp2
      go_loop [8, 27] (fun p i => ∃ k : Nat, k ≤ t.length ∧ i = .int .i64 k ∧ ∃ q : Int, p = .int .i64 q ∧ M.placeFrom 0 s t = M.placeFrom q (s.drop k) (t.drop k)) (fun _ i => t.length - (intOf i).toNat)
      case atStart => exact ⟨0, Nat.zero_le _, rfl, 0, rfl, rfl⟩
      case round =>
        obtain ⟨k, hk, rfl, q, rfl, hb⟩ := hrel
        replace hb := Lib.hid hb
        by_cases hlt : k < t.length
        · have hlt' : k < s.length := by rw [← hl.out]; exact hlt
          obtain ⟨b1, o1, rfl, hc⟩ := ht k hlt
          obtain ⟨b2, o2, rfl, hc2⟩ := hs k hlt'
          have hd := Lib.hid (placeFrom_drop q hlt' hlt)
          by_cases h5 : t.getD k 0 < 0 ∨ s.getD k 0 ≤ t.getD k 0
          · rw [hd.out, if_pos h5] at hb
            have h5' := h5
            simp only [List.getD_eq_getElem?_getD, hlt, hlt', getElem?_pos, Option.getD_some] at h5
            rcases h5 with h5 | h5
            · go_wp2
              go_ret2
              exact ⟨by rw [hf.out, hb.out]; rfl, rfl⟩
            · by_cases h6 : t[k] < 0
              all_goals
                go_wp2
                go_ret2
                exact ⟨by rw [hf.out, hb.out]; rfl, rfl⟩
          · rw [hd.out, if_neg h5] at hb
            simp only [List.getD_eq_getElem?_getD, hlt, hlt', getElem?_pos, Option.getD_some, not_or, Int.not_lt, Int.not_le] at h5
            obtain ⟨h6, h7⟩ := h5
            go_wp2
            go_round
            case rel => exact ⟨k + 1, by omega, by go_num, _, rfl, by rw [hb.out]; simp [hlt, hlt']⟩
            case measure => simp [intOf]; omega
        · go_wp2
          go_ret2
          have h1 := hb.out
          have h2 := hl.out
          rw [List.drop_eq_nil_of_le (by omega), List.drop_eq_nil_of_le (by omega)] at h1
          exact ⟨by rw [hf.out, h1]; rfl, rfl⟩
    · have hb1 : (((t.length : Nat) : Int) != ((s.length : Nat) : Int)) = true := by rw [bne_iff_ne]; omega
      have hf := Lib.hid (show M.place s t = .error 3 by rw [hf.out, if_pos hl])
      go_wp2
      go_ret2
      exact ⟨by rw [hf.out]; rfl, rfl⟩

end Go.Proofs.YtldhklbpmfckcaaDoor
