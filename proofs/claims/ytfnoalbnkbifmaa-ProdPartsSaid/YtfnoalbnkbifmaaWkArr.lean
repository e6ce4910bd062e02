/- The calls arr.Check, slices.Equal. -/
import Derived.Test.YtfnoalbnkbifmaaBdA
import Derived.Test.YtfnoalbnkbifmaaWkCount
namespace Go.Proofs.Ytfnoalbnkbifmaa
open Go.RowKit

set_option maxHeartbeats 400000 in
theorem check_any (ch : Bool) (a b : Option Addr) (s d : List Int) (m c n z : Nat) (w : World) (hs : Row w a s) (hd : Row w b d) (ls : s.length ≤ maxLen) (ld : d.length ≤ maxLen) (em : m = s.length) (en : n = d.length) :
    Calls Try.prog 8 #[arrV ch a m c b n z] w fun e w' => e = .returned (errV (M.flaw ch s d)) ∧ Below w.heap.size w w' := by
  subst em
  subst en
  unfold maxLen at ld
  go_enter Try.func8, Try.ntmps8
  go_wp2_with fail
  refine (count_any a s _ c _ (hs.alloc _) ls rfl).mono ?_
  rintro e w' ⟨rfl, rfl⟩
  have bel := (Below.refl w.heap.size w).alloc (Nat.le_refl _) (.cells #[.bool ch, .slice a s.length c, .slice b d.length z] 25)
  cases hc : M.count s with
  | error e =>
    have hn := Lib.hid (count_ne hc)
    replace hc := Lib.hid hc
    dsimp only [resI]
    go_wp2
    go_ret
    exact ⟨by rw [flaw_error hc.out, errV_ne hn.out]; rfl, bel⟩
  | ok q =>
    replace hc := Lib.hid hc
    dsimp only [resI]
    by_cases hl : (d.length : Int) = q
    · subst hl
      have hbne : (((d.length : Nat) : Int) != ((d.length : Nat) : Int)) = false := by rw [bne_eq_false_iff_eq]
      cases ch with
      | false =>
        go_wp2
        go_ret
        exact ⟨by rw [flaw_num hc.out rfl]; rfl, bel⟩
      | true =>
        go_wp2
        go_loop [27] (fun i => ∃ k : Nat, k ≤ d.length ∧ i = .int .i64 k ∧ d.any M.noChar = (d.drop k).any M.noChar) (fun i => d.length - (intOf i).toNat)
        case atStart => exact ⟨0, Nat.zero_le _, rfl, rfl⟩
        case round =>
          obtain ⟨k, hk, rfl, hb⟩ := hrel
          replace hb := Lib.hid hb
          by_cases hlt : k < d.length
          · obtain ⟨b1, o1, rfl, hcell⟩ := hd.alloc (.cells #[.bool true, .slice a s.length c, .slice b d.length z] 25) k hlt
            have hdr := Lib.hid (anyChar_drop hlt)
            have hx : ∀ (p1 p2 p3 p4 : Bool), decide (d[k] < 0) = p1 → decide (1114111 < d[k]) = p2 → decide (55296 ≤ d[k]) = p3 → decide (d[k] ≤ 57343) = p4 → M.noChar d[k] = (p1 || (p2 || (p3 && p4))) := by
              intro p1 p2 p3 p4 e1 e2 e3 e4; unfold M.noChar; rw [e1, e2, e3, e4]
            replace hx := Lib.hid hx
            have bad : M.noChar d[k] = true → d.any M.noChar = true := fun h => by rw [hb.out, hdr.out, h]; rfl
            have good : M.noChar d[k] = false → d.any M.noChar = (d.drop (k + 1)).any M.noChar := fun h => by rw [hb.out, hdr.out, h]; rfl
            cases e1 : decide (d[k] < 0) with
            | true =>
              go_wp2
              go_ret
              exact ⟨by rw [flaw_char hc.out rfl (bad (by rw [hx.out _ _ _ _ e1 rfl rfl rfl]; rfl))]; rfl, bel⟩
            | false =>
              cases e2 : decide (1114111 < d[k]) with
              | true =>
                go_wp2
                go_ret
                exact ⟨by rw [flaw_char hc.out rfl (bad (by rw [hx.out _ _ _ _ e1 e2 rfl rfl]; rfl))]; rfl, bel⟩
              | false =>
                cases e3 : decide (55296 ≤ d[k]) with
                | true =>
                  cases e4 : decide (d[k] ≤ 57343) with
                  | true =>
                    go_wp2
                    go_ret
                    exact ⟨by rw [flaw_char hc.out rfl (bad (by rw [hx.out _ _ _ _ e1 e2 e3 e4]; rfl))]; rfl, bel⟩
                  | false =>
                    replace hx := good (by rw [hx.out _ _ _ _ e1 e2 e3 e4]; rfl)
                    clear good bad hb hdr
                    replace hx := Lib.hid hx
                    go_wp2
                    go_round
                    case rel => exact ⟨k + 1, by omega, by go_num, hx.out⟩
                    case measure => simp [intOf]; omega
                | false =>
                  replace hx := good (by rw [hx.out _ _ _ _ e1 e2 e3 rfl]; rfl)
                  clear good bad hb hdr
                  replace hx := Lib.hid hx
                  go_wp2
                  go_round
                  case rel => exact ⟨k + 1, by omega, by go_num, hx.out⟩
                  case measure => simp [intOf]; omega
          · have hz := Lib.hid (show d.any M.noChar = false by rw [hb.out, List.drop_eq_nil_of_le (by omega)]; rfl)
            go_wp2
            go_ret
            exact ⟨by rw [flaw_chars hc.out rfl hz.out]; rfl, bel⟩
    · have hbne : (((d.length : Nat) : Int) != q) = true := by rw [bne_iff_ne]; exact hl
      go_wp2
      go_ret
      exact ⟨by rw [flaw_length hc.out hl]; rfl, bel⟩

end Go.Proofs.Ytfnoalbnkbifmaa
