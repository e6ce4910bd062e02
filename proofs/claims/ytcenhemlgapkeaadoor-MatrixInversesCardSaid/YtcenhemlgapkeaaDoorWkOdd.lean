/- The call matrix.odd: Newton's six steps. Condition: a number of 64 bits. -/
import Derived.Test.YtcenhemlgapkeaaDoorOddPlain
namespace Go.Proofs.YtcenhemlgapkeaaDoor
open Go.RowKit

set_option maxHeartbeats 1000000 in
theorem odd_any (d : Int) (w : World) (hd : I64 d) :
    Calls Tryd.prog 57 #[.int .i64 d] w fun e w' => e = .returned (.int .i64 (newts d 6)) ∧ w = w' := by
  unfold I64 at hd
  go_enter Tryd.func57, Tryd.ntmps57
  go_wp2
  go_loop [3, 5] (fun v3 v5 => ∃ k : Nat, k ≤ 6 ∧ v5 = .int .i64 k ∧ v3 = .int .i64 (newts d k)) (fun _ v => 6 - (intOf v).toNat)
  case atStart => exact ⟨0, by omega, rfl, rfl⟩
  case round =>
    obtain ⟨k, hk, rfl, rfl⟩ := hrel
    by_cases hlk : k < 6
    · have hs := Lib.hid (newts_succ d k)
      have hn := newts_i64 hd k
      unfold I64 at hn
      unfold newt at hs
      generalize newts d k = x at *
      go_wp2
      go_round
      case rel => exact ⟨k + 1, hlk, by go_num, by rw [hs.out]⟩
      case measure => simp [intOf]; omega
    · obtain rfl : 6 = k := by omega
      go_wp2
      go_ret
      exact ⟨rfl, rfl⟩
end Go.Proofs.YtcenhemlgapkeaaDoor
