/- The statements' helper Array (are two arrays the same?), and the document's Flaw and Flaws: the error's number of M.flaw. Condition: rows that lie as lists of ints. -/
import Derived.Test.YtcenhemlgapkeaaDoorBdB
import Derived.Test.YtcenhemlgapkeaaDoorBdE
import Derived.Test.YtcenhemlgapkeaaDoorRefShape
import Derived.Deep.QuietTactic
namespace Go.Proofs.YtcenhemlgapkeaaDoor
open Go.RowKit

theorem noChar_eq (c : Int) : M.noChar c = (!(decide (0 ≤ c) && decide (c < 55296)) && !(decide (57343 < c) && decide (c ≤ 1114111))) := by
  unfold M.noChar
  rw [Bool.eq_iff_iff]
  simp only [Bool.or_eq_true, Bool.and_eq_true, Bool.not_eq_true', Bool.and_eq_false_iff, decide_eq_true_eq, decide_eq_false_iff_not]
  omega

set_option maxHeartbeats 1000000 in
theorem refFlaw_any (ch : Bool) (a b : Option Addr) (s d : List Int) (m c n z : Nat) (w : World) (hs : Row w a s) (hd : Row w b d) (ls : s.length ≤ maxLen) (ld : d.length ≤ maxLen) (em : m = s.length) (en : n = d.length) :
    Calls Tryd.prog 44 #[arrV ch a m c b n z] w fun e w' => e = .returned (.int .i64 (M.flaw ch s d)) ∧ Below w.heap.size w w' := by
  subst em
  subst en
  unfold maxLen at ld
  have bel := push (start w) (.cells #[.bool ch, .slice a s.length c, .slice b d.length z] 24)
  cases hc : M.count s with
  | error e =>
    have hne : (e != 0) = true := by have := count_ne hc; simpa using this
    have hf := Lib.hid (fault_error hc)
    replace hc := Lib.hid hc
    go_enter Tryd.func44, Tryd.ntmps44
    go_wp2_with fail
    refine (fault_any a s _ c _ (hs.alloc _) ls rfl).mono ?_
    rintro e' w' ⟨rfl, rfl⟩
    rw [hf.out]
    go_wp2
    go_ret
    exact ⟨by rw [flaw_error hc.out]; rfl, bel⟩
  | ok q =>
    have hf := Lib.hid (fault_ok hc)
    have hcells := fun w hw => cells_any a s s.length c q w hw hc rfl
    replace hcells := Lib.hid hcells
    replace hc := Lib.hid hc
    have hs1 := hs.alloc (.cells #[.bool ch, .slice a s.length c, .slice b d.length z] 24)
    by_cases hl : (d.length : Int) = q
    · have hbne : (((d.length : Nat) : Int) != q) = false := by rw [bne_eq_false_iff_eq]; exact hl
      replace hl := Lib.hid hl
      go_enter Tryd.func44, Tryd.ntmps44
      go_wp2_with fail
      refine (fault_any a s _ c _ hs1 ls rfl).mono ?_
      rintro e' w' ⟨rfl, rfl⟩
      rw [hf.out]
      go_wp2_with fail
      go_quiet ((go_at_call 62; refine Calls.quiet_of_same ((hcells.out _ (hs1.drewN _)).mono fun e w' h => ⟨h.1, h.2.symm⟩)))
      cases ch with
      | false =>
        go_wp2
        go_ret
        exact ⟨by rw [flaw_num hc.out hl.out]; rfl, below_drewN bel _⟩
      | true =>
        go_wp2
        go_loop [4] (fun i => ∃ k : Nat, k ≤ d.length ∧ i = .int .i64 k ∧ d.any M.noChar = (d.drop k).any M.noChar) (fun i => d.length - (intOf i).toNat)
        case atStart => exact ⟨0, Nat.zero_le _, rfl, rfl⟩
        case round =>
          obtain ⟨k, hk, rfl, hb⟩ := hrel
          replace hb := Lib.hid hb
          by_cases hlt : k < d.length
          · obtain ⟨b1, o1, rfl, hcell⟩ := hd.alloc (.cells #[.bool true, .slice a s.length c, .slice b d.length z] 24) k hlt
            have hdr := Lib.hid (anyChar_drop hlt)
            have hx := Lib.hid (noChar_eq d[k])
            have bad : M.noChar d[k] = true → d.any M.noChar = true := fun h => by rw [hb.out, hdr.out, h]; rfl
            have good : M.noChar d[k] = false → d.any M.noChar = (d.drop (k + 1)).any M.noChar := fun h => by rw [hb.out, hdr.out, h]; rfl
            replace bad := Lib.hid bad
            replace good := Lib.hid good
            clear hdr hb
            cases e1 : decide (0 ≤ d[k]) <;> cases e2 : decide (d[k] < 55296) <;> cases e3 : decide (57343 < d[k]) <;> cases e4 : decide (d[k] ≤ 1114111)
            all_goals
              rw [e1, e2, e3, e4] at hx
              first
                | (have hbad := Lib.hid (bad.out hx.out)
                   clear hx bad good
                   go_wp2
                   go_ret
                   exact ⟨by rw [flaw_char hc.out hl.out hbad.out]; rfl, below_drewN bel _⟩)
                | (have hgood := Lib.hid (good.out hx.out)
                   clear hx bad good
                   go_wp2
                   go_round
                   case rel => exact ⟨k + 1, by omega, by go_num, hgood.out⟩
                   case measure => simp [intOf]; omega)
          · have hz := Lib.hid (show d.any M.noChar = false by rw [hb.out, List.drop_eq_nil_of_le (by omega)]; rfl)
            go_wp2
            go_ret
            exact ⟨by rw [flaw_chars hc.out hl.out hz.out]; rfl, below_drewN bel _⟩
    · have hbne : (((d.length : Nat) : Int) != q) = true := by rw [bne_iff_ne]; exact hl
      replace hl := Lib.hid hl
      go_enter Tryd.func44, Tryd.ntmps44
      go_wp2_with fail
      refine (fault_any a s _ c _ hs1 ls rfl).mono ?_
      rintro e' w' ⟨rfl, rfl⟩
      rw [hf.out]
      go_wp2_with fail
      go_quiet ((go_at_call 62; refine Calls.quiet_of_same ((hcells.out _ (hs1.drewN _)).mono fun e w' h => ⟨h.1, h.2.symm⟩)))
      go_wp2
      go_ret
      exact ⟨by rw [flaw_length hc.out hl.out]; rfl, below_drewN bel _⟩

end Go.Proofs.YtcenhemlgapkeaaDoor
