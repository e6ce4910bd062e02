/- The helpers Joined and Ints of the statements: the joined list in new memory; whether two lists are the same. Condition: the slices read as lists of ints; of Joined, that both together are shorter than 2^44. -/
import Derived.Test.YtcenhemlgapkeaaDoorBdA
import Derived.Test.YtcenhemlgapkeaaDoorInts
import Derived.Deep.QuietTactic
import Derived.BigQuiet
namespace Go.Proofs.YtcenhemlgapkeaaDoor
open Go.RowKit

theorem tk_len {s : List Int} {k : Nat} {n : Nat} (h : s.length < n) : (s.take k).length < n := by have := List.length_take_le k s; have := List.length_take_le' k s; omega

theorem app_tk_len {s t : List Int} {k : Nat} {n : Nat} (h : s.length + t.length < n) : (s ++ t.take k).length < n := by
  have := List.length_take_le' k t; simp only [List.length_append]; omega

set_option maxHeartbeats 400000 in
theorem joined_any (a b : Option Addr) (s t : List Int) (m n c d : Nat) (w : World) (hs : Row w a s) (ht : Row w b t) (hm : s.length + t.length < 17592186044416) (em : m = s.length) (en : n = t.length) :
    Calls Tryd.prog 14 #[.slice a m c, .slice b n d] w fun e w' => ∃ v, e = .returned v ∧ Own w' w.heap.size v (s ++ t) ∧ Below w.heap.size w w' := by
  subst em
  subst en
  go_enter Tryd.func14, Tryd.ntmps14
  go_wp2
  go_loopw [5, 6] (fun v i wr => ∃ k : Nat, k ≤ s.length ∧ i = .int .i64 k ∧ Own wr w.heap.size v (s.take k) ∧ Below w.heap.size w wr) (fun _ i _ => s.length - (intOf i).toNat)
  case atStart => exact ⟨0, Nat.zero_le _, rfl, Own.nil _ _, Below.refl _ _⟩
  case round =>
    obtain ⟨k, hk, rfl, hown, hbel⟩ := hrel
    have hB := hbel.size
    by_cases hlt : k < s.length
    · obtain ⟨b1, o1, rfl, hc⟩ := hs.below hbel k hlt
      go_wp2_with (at_builtin; refine app_int rfl (.tmp 14) (.tmp 19) rfl w.heap.size _ (s.take k) s[k] rfl hown rfl (tk_len (by omega)) hB ?_; intro v' w' ho' hb' hl')
      go_roundw
      case rel => exact ⟨k + 1, by omega, by go_num, by simpa using ho', hbel.trans hb'⟩
      case measure => simp [intOf]; omega
    · rw [List.take_of_length_le (by omega)] at hown
      clear hk
      go_wp2
      go_loopw [5, 7] (fun v i wr => ∃ k : Nat, k ≤ t.length ∧ i = .int .i64 k ∧ Own wr w.heap.size v (s ++ t.take k) ∧ Below w.heap.size w wr) (fun _ i _ => t.length - (intOf i).toNat)
      case atStart => exact ⟨0, Nat.zero_le _, rfl, by simpa using hown, hbel⟩
      case round =>
        clear hown hbel
        obtain ⟨k, hk, rfl, hown, hbel⟩ := hrel
        have hB := hbel.size
        by_cases hlt : k < t.length
        · obtain ⟨b1, o1, rfl, hc⟩ := ht.below hbel k hlt
          go_wp2_with (at_builtin; refine app_int rfl (.tmp 27) (.tmp 32) rfl w.heap.size _ (s ++ t.take k) t[k] rfl hown rfl (app_tk_len (by omega)) hB ?_; intro v' w' ho' hb' hl')
          go_roundw
          case rel => exact ⟨k + 1, by omega, by go_num, by simpa [List.append_assoc] using ho', hbel.trans hb'⟩
          case measure => simp [intOf]; omega
        · rw [List.take_of_length_le (by omega)] at hown
          go_wp2
          go_ret
          exact ⟨_, rfl, hown, hbel⟩

end Go.Proofs.YtcenhemlgapkeaaDoor
