/- The walk of the law ArrIotas: it returns true at every number. Condition: the library's one variable is laid. -/
import Derived.Test.YtbhbmkkpbceebaaDoorBox
import Derived.Test.YtbhbmkkpbceebaaDoorWkIota
import Derived.Test.YtbhbmkkpbceebaaDoorTold
namespace Go.Proofs.YtbhbmkkpbceebaaDoor
open Go.RowKit

theorem fact_iota3 : M.iota 3 = .ok ⟨false, [3], [0, 1, 2]⟩ := rfl

set_option maxHeartbeats 2000000 in
theorem arrIotas_walk (n : Int) (w : World) (hn : I64 n) (hg : Laid w) :
    Calls Tryd.prog 4 #[.int .i64 n] w fun e w' => e = .returned (.bool true) ∧ Below w.heap.size w w' := by
  have k3 := iota_any 3 w (by unfold I64; omega)
  have hi := fun w => iota_any n w hn
  clear hn
  by_cases h0 : n < 0
  · have hr : M.iota n = .error 6 := if_pos h0
    have d0 : decide (n < 0) = true := decide_eq_true h0
    replace hi := Lib.hid hi
    replace k3 := Lib.hid k3
    replace hr := Lib.hid hr
    clear h0
    go_enter Tryd.func4, Tryd.ntmps4
    go_wp2_with fail
    refine k3.out.mono ?_
    intro e w1 hp
    obtain ⟨a, c, b, k, rfl, ra, rb, hb⟩ := hp.is_ok fact_iota3
    clear hp ra rb
    dsimp only [List.length_cons, List.length_nil, Nat.reduceAdd]
    go_wp2_with fail
    refine (hi.out _).mono ?_
    intro e w2 hp
    obtain ⟨rfl, hb2⟩ := hp.is_error hr.out
    clear hp
    have bw := below_trans (push hb (.cells #[.bool false, .slice a 1 c, .slice b 3 k] 24)) hb2
    clear hb hb2
    go_wp2_with fail
    refine (error_any 6 6 _ (hg.below (push bw _))).mono ?_
    rintro e w3 ⟨rfl, hb3⟩
    have X := held3 (N := w2.heap.size) (x := .bool false) (y := .slice none 0 0) (z := .slice none 0 0) hb3 ⟨by simp, by simp, by simp⟩
    have bw3 := below_trans (push bw _) hb3
    obtain ⟨x0, x1, x2⟩ := X
    clear hb3 bw
    go_wp2
    go_ret
    exact ⟨rfl, bw3⟩
  · have d0 : decide (n < 0) = false := decide_eq_false h0
    by_cases h1 : 4096 < n
    · have hr : M.iota n = .error 7 := (if_neg h0).trans (if_pos h1)
      have d1 : decide (4096 < n) = true := decide_eq_true h1
      replace hi := Lib.hid hi
      replace k3 := Lib.hid k3
      replace hr := Lib.hid hr
      clear h0 h1
      go_enter Tryd.func4, Tryd.ntmps4
      go_wp2_with fail
      refine k3.out.mono ?_
      intro e w1 hp
      obtain ⟨a, c, b, k, rfl, ra, rb, hb⟩ := hp.is_ok fact_iota3
      clear hp ra rb
      dsimp only [List.length_cons, List.length_nil, Nat.reduceAdd]
      go_wp2_with fail
      refine (hi.out _).mono ?_
      intro e w2 hp
      obtain ⟨rfl, hb2⟩ := hp.is_error hr.out
      clear hp
      have bw := below_trans (push hb (.cells #[.bool false, .slice a 1 c, .slice b 3 k] 24)) hb2
      clear hb hb2
      go_wp2_with fail
      refine (error_any 7 7 _ (hg.below (push bw _))).mono ?_
      rintro e w3 ⟨rfl, hb3⟩
      have X := held3 (N := w2.heap.size) (x := .bool false) (y := .slice none 0 0) (z := .slice none 0 0) hb3 ⟨by simp, by simp, by simp⟩
      have bw3 := below_trans (push bw _) hb3
      obtain ⟨x0, x1, x2⟩ := X
      clear hb3 bw
      go_wp2
      go_ret
      exact ⟨rfl, bw3⟩
    · obtain ⟨m, rfl⟩ : ∃ m : Nat, n = m := ⟨n.toNat, by omega⟩
      have hr : M.iota m = .ok ⟨false, [(m : Int)], upTo m⟩ := (if_neg h0).trans (if_neg h1)
      have d1 : decide (4096 < (m : Int)) = false := decide_eq_false h1
      have hm : m ≤ 4096 := by omega
      have emm : (((m : Nat) : Int) != ((m : Nat) : Int)) = false := by rw [bne_eq_false_iff_eq]
      replace hi := Lib.hid hi
      replace k3 := Lib.hid k3
      replace hr := Lib.hid hr
      clear h0 h1
      go_enter Tryd.func4, Tryd.ntmps4
      go_wp2_with fail
      refine k3.out.mono ?_
      intro e w1 hp
      obtain ⟨a, c, b, k, rfl, ra, rb, hb⟩ := hp.is_ok fact_iota3
      clear hp ra rb
      dsimp only [List.length_cons, List.length_nil, Nat.reduceAdd]
      go_wp2_with fail
      refine (hi.out _).mono ?_
      intro e w2 hp
      obtain ⟨a2, c2, b2, k2, rfl, ra, rb, hb2⟩ := hp.is_ok hr.out
      clear hp
      have bw := push (below_trans (push hb (.cells #[.bool false, .slice a 1 c, .slice b 3 k] 24)) hb2) (.cells #[.bool false, .slice a2 1 c2, .slice b2 m k2] 24)
      clear hb hb2
      dsimp only [List.length_cons, List.length_nil, Nat.reduceAdd] at ra rb ⊢
      have hul := upTo_length m
      rw [hul]
      obtain ⟨ba, oa, rfl, hca⟩ := (ra.alloc (.cells #[.bool false, .slice a2 1 c2, .slice b2 m k2] 24)) 0 (by simp)
      replace rb := rb.alloc (.cells #[.bool false, .slice (some ⟨ba, oa, none⟩) 1 c2, .slice b2 m k2] 24)
      clear ra
      replace hul := Lib.hid hul
      have hca' : (w2.alloc (.cells #[.bool false, .slice (some ⟨ba, oa, none⟩) 1 c2, .slice b2 m k2] 24)).cell? ⟨ba, oa, none⟩ = some (.int .i64 m) := by simpa using hca
      have hY : ∀ k (h : k < m), ∃ b o, b2 = some ⟨b, o, none⟩ ∧ (w2.alloc (.cells #[.bool false, .slice (some ⟨ba, oa, none⟩) 1 c2, .slice b2 m k2] 24)).cell? ⟨b, o + k, none⟩ = some (.int .i64 (k : Int)) := by
        intro k h
        obtain ⟨b, o, e, hc⟩ := rb k (by rw [hul.out]; exact h)
        refine ⟨b, o, e, ?_⟩
        rw [hc]
        simp [upTo, h]
      replace hY := Lib.hid hY
      clear rb hca
      go_wp2
      go_loop [9] (fun i => ∃ k : Nat, k ≤ m ∧ i = .int .i64 k) (fun i => m - (intOf i).toNat)
      case atStart => exact ⟨0, Nat.zero_le _, rfl⟩
      case round =>
        obtain ⟨k, hk, rfl⟩ := hrel
        by_cases hlt : k < m
        · obtain ⟨b, o, rfl, hc⟩ := hY.out k hlt
          have ekk : ((k : Int) != (k : Int)) = false := by rw [bne_eq_false_iff_eq]
          go_wp2
          go_round
          case rel => exact ⟨k + 1, by omega, by go_num⟩
          case measure => simp [intOf]; omega
        · go_wp2
          go_ret
          exact ⟨rfl, bw⟩

end Go.Proofs.YtbhbmkkpbceebaaDoor
