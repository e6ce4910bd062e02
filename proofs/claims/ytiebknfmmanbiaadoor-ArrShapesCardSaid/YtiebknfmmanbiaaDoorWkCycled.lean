/- The call arr.cycled. Condition: rows shorter than 2^44. -/
import Derived.Test.YtiebknfmmanbiaaDoorBdA
namespace Go.Proofs.YtiebknfmmanbiaaDoor
open Go.RowKit

set_option maxHeartbeats 400000 in
theorem cycled_any (a : Option Addr) (d : List Int) (m c n : Nat) (z : Int) (w : World) (hd : Row w a d) (hm : d.length ≤ maxLen) (hn : n < 17592186044416) (em : m = d.length) :
    Calls Tryd.prog 79 #[.slice a m c, .int .i64 n, .int .i64 z] w fun e w' => ∃ v, e = .returned v ∧ Own w' w.heap.size v (M.cycle d n z) ∧ Below w.heap.size w w' := by
  subst em
  unfold maxLen at hm
  have hmk := run_make_room0 n hn
  go_enter Tryd.func79, Tryd.ntmps79
  go_wp2
  go_loopw [7, 12] (fun v i wr => ∃ k : Nat, k ≤ n ∧ i = .int .i64 k ∧ Own wr w.heap.size v (M.cycle d k z) ∧ Below w.heap.size w wr) (fun _ i _ => n - (intOf i).toNat)
  case atStart => exact ⟨0, Nat.zero_le _, rfl, own_room w n _ (Nat.le_refl _) (by unfold maxLen; omega), (Below.refl _ w).alloc (Nat.le_refl _) _⟩
  case round =>
    obtain ⟨k, hk, rfl, hown, hbel⟩ := hrel
    have hB := hbel.size
    have hlen : (M.cycle d k z).length < 17592186044416 := by rw [cycle_length]; omega
    by_cases hlt : k < n
    · have hcs := cycle_succ d k z
      by_cases h0 : d.length = 0
      · rw [if_pos h0] at hcs
        replace hcs := Lib.hid hcs
        have h0' : (((d.length : Nat) : Int) == 0) = true := by rw [beq_iff_eq]; omega
        replace h0 := Lib.hid h0
        go_wp2_with (at_builtin; refine app_int rfl (.tmp 18) (.tmp 20) rfl w.heap.size _ (M.cycle d k z) z rfl hown rfl hlen hB ?_; intro v' w' ho' hb' hl')
        go_roundw
        case rel => exact ⟨k + 1, by omega, by go_num, by rw [hcs.out]; exact ho', hbel.trans hb'⟩
        case measure => simp [intOf]; omega
      · rw [if_neg h0] at hcs
        have h0' : (((d.length : Nat) : Int) == 0) = false := by rw [beq_eq_false_iff_ne]; omega
        have hmod : k % d.length < d.length := Nat.mod_lt _ (by omega)
        obtain ⟨b1, o1, rfl, hc⟩ := hd.below hbel (k % d.length) hmod
        have hrem : ((k : Int).tmod ((d.length : Nat) : Int)) = ((k % d.length : Nat) : Int) := by
          rw [Int.tmod_eq_emod_of_nonneg (by omega)]; rfl
        replace hcs := Lib.hid hcs
        replace h0 := Lib.hid h0
        generalize k % d.length = j at *
        have hcs' : M.cycle d (k + 1) z = M.cycle d k z ++ [d[j]] := by rw [hcs.out]; simp [hmod]
        clear hcs
        replace hcs := Lib.hid hcs'
        clear hcs'
        go_wp2_with (at_builtin; refine app_int rfl (.tmp 22) (.tmp 30) rfl w.heap.size _ (M.cycle d k z) d[j] rfl hown rfl hlen hB ?_; intro v' w' ho' hb' hl')
        go_roundw
        case rel => exact ⟨k + 1, by omega, by go_num, by rw [hcs.out]; exact ho', hbel.trans hb'⟩
        case measure => simp [intOf]; omega
    · obtain rfl : k = n := by omega
      go_wp2
      go_ret
      exact ⟨_, rfl, hown, hbel⟩

end Go.Proofs.YtiebknfmmanbiaaDoor
