/- The document's Fault and Cells: the error's number of M.count (0 if there is none), and its cells. Condition: the slice reads as a list of ints. -/
import Derived.Test.YtcenhemlgapkeaaDoorBdA
namespace Go.Proofs.YtcenhemlgapkeaaDoor
open Go.RowKit
namespace M
/-- The number of a shape's error, 0 if it has none. -/
def fault (s : List Int) : Int := match count s with | .error e => e | .ok _ => 0
end M
theorem fault_error {s : List Int} {e : Int} (h : M.count s = .error e) : M.fault s = e := by unfold M.fault; rw [h]
theorem fault_ok {s : List Int} {q : Int} (h : M.count s = .ok q) : M.fault s = 0 := by unfold M.fault; rw [h]

theorem zero_take {s : List Int} {k : Nat} (h : k < s.length) : decide ((0 : Int) ∈ s.take (k + 1)) = (decide ((0 : Int) ∈ s.take k) || (s[k] == 0)) := by
  rw [List.take_succ_eq_append_getElem h]
  simp only [List.mem_append, List.mem_singleton]
  rw [Bool.decide_or]
  congr 1
  rw [Bool.eq_iff_iff]
  simp only [decide_eq_true_eq, beq_iff_eq]
  exact eq_comm

theorem room_step {a n : Int} (ha : 1 ≤ a) (hn : 1 ≤ n) : (4096 / a).tdiv n = 4096 / (a * n) := by
  rw [Int.tdiv_eq_ediv_of_nonneg (Int.ediv_nonneg (by omega) (by omega)), Int.ediv_ediv, if_neg (by omega), Int.sub_zero]

theorem room_zero {b : Int} (hb : 1 ≤ b) : 4096 / b = 0 ↔ 4096 < b := by
  constructor
  · intro h
    rcases Int.lt_or_le 4096 b with h1 | h1
    · exact h1
    · have : 1 ≤ 4096 / b := (Int.le_ediv_iff_mul_le (by omega)).2 (by omega)
      omega
  · intro h; exact Int.ediv_eq_zero_of_lt (by omega) h

set_option maxHeartbeats 1000000 in
theorem fault_any (a : Option Addr) (s : List Int) (n c : Nat) (w : World) (hs : Row w a s) (hm : s.length ≤ maxLen) (hn : n = s.length) :
    Calls Tryd.prog 60 #[.slice a n c] w fun e w' => e = .returned (.int .i64 (M.fault s)) ∧ w = w' := by
  subst hn
  unfold maxLen at hm
  go_enter Tryd.func60, Tryd.ntmps60
  by_cases h6 : 6 < s.length
  · have hf := Lib.hid (fault_error (show M.count s = .error 3 from if_pos h6))
    go_wp2
    go_ret
    exact ⟨by rw [hf.out]; rfl, rfl⟩
  · go_wp2
    go_loop [3, 4] (fun v i => ∃ k : Nat, k ≤ s.length ∧ i = .int .i64 k ∧ v = .bool (decide ((0 : Int) ∈ s.take k)) ∧ M.badLen s = M.badLen (s.drop k)) (fun _ i => s.length - (intOf i).toNat)
    case atStart => exact ⟨0, Nat.zero_le _, rfl, rfl, rfl⟩
    case round =>
      obtain ⟨k, hk, rfl, rfl, hb⟩ := hrel
      replace hb := Lib.hid hb
      by_cases hlt : k < s.length
      · obtain ⟨b, off, rfl, hc⟩ := hs k hlt
        have hd := Lib.hid (badLen_drop hlt)
        have hz := Lib.hid (zero_take hlt)
        go_wp2
        · go_ret
          have h0 : s.getD k 0 < 0 := by simpa [hlt] using ‹s[k] < 0›
          rw [hd.out, if_pos h0] at hb
          have hf : M.count s = .error 4 := by rw [M.count, if_neg h6, hb.out, if_pos (by decide)]
          exact ⟨by rw [fault_error hf]; rfl, rfl⟩
        · go_ret
          have h0 : ¬ s.getD k 0 < 0 := by simpa [hlt] using ‹0 ≤ s[k]›
          have h1 : 4096 < s.getD k 0 := by simpa [hlt] using ‹4096 < s[k]›
          rw [hd.out, if_neg h0, if_pos h1] at hb
          have hf : M.count s = .error 7 := by rw [M.count, if_neg h6, hb.out, if_pos (by decide)]
          exact ⟨by rw [fault_error hf]; rfl, rfl⟩
        · have h0 : ¬ s.getD k 0 < 0 := by simpa [hlt] using ‹0 ≤ s[k]›
          have h1 : ¬ 4096 < s.getD k 0 := by simpa [hlt] using ‹s[k] ≤ 4096›
          have h2 : (s[k] == 0) = true := by assumption
          rw [hd.out, if_neg h0, if_neg h1] at hb
          go_round
          case rel => exact ⟨k + 1, by omega, by go_num, by rw [hz.out, h2]; simp, hb.out⟩
          case measure => simp [intOf]; omega
        · have h0 : ¬ s.getD k 0 < 0 := by simpa [hlt] using ‹0 ≤ s[k]›
          have h1 : ¬ 4096 < s.getD k 0 := by simpa [hlt] using ‹s[k] ≤ 4096›
          have h2 : (s[k] == 0) = false := by assumption
          rw [hd.out, if_neg h0, if_neg h1] at hb
          go_round
          case rel => exact ⟨k + 1, by omega, by go_num, by rw [hz.out, h2]; simp, hb.out⟩
          case measure => simp [intOf]; omega
      · have hz : M.badLen s = 0 := by rw [hb.out, List.drop_eq_nil_of_le (by omega)]; rfl
        rw [List.take_of_length_le (by omega)]
        have hr := badLen_zero hz
        clear hb
        by_cases h0 : (0 : Int) ∈ s
        · have hf := Lib.hid (fault_ok (show M.count s = .ok 0 by rw [M.count, if_neg h6, hz, if_neg (by simp), if_pos h0]))
          rw [decide_eq_true h0]
          clear hr hz h0
          go_wp2
          go_ret
          exact ⟨by rw [hf.out]; rfl, rfl⟩
        · have hf := Lib.hid (show M.count s = M.mulUp 1 s by rw [M.count, if_neg h6, hz, if_neg (by simp), if_neg h0])
          rw [decide_eq_false h0]
          have h1 : ∀ j (hj : j < s.length), 1 ≤ s[j] := fun j hj => by
            have hm := List.getElem_mem hj
            have := (hr _ hm).1
            rcases Int.lt_or_le s[j] 1 with hlt | hge
            · have : s[j] = 0 := by omega
              exact absurd (this ▸ hm) h0
            · exact hge
          have h2 : ∀ j (hj : j < s.length), s[j] ≤ 4096 := fun j hj => (hr _ (List.getElem_mem hj)).2
          replace h1 := Lib.hid h1
          replace h2 := Lib.hid h2
          clear hr hz h0
          go_wp2
          go_loop [5, 6] (fun v i => ∃ (k : Nat) (a : Int), k ≤ s.length ∧ i = .int .i64 k ∧ v = .int .i64 (4096 / a) ∧ 1 ≤ a ∧ a ≤ 4096 ∧ M.mulUp 1 s = M.mulUp a (s.drop k)) (fun _ i => s.length - (intOf i).toNat)
          case atStart => exact ⟨0, 1, Nat.zero_le _, rfl, rfl, by omega, by omega, rfl⟩
          case round =>
            obtain ⟨k, a, hk, rfl, rfl, ha1, ha2, hu⟩ := hrel
            replace hu := Lib.hid hu
            by_cases hlt : k < s.length
            · obtain ⟨b, off, rfl, hc⟩ := hs k hlt
              have hd := Lib.hid (mulUp_drop a hlt)
              have p1 := h1.out k hlt
              have p2 := h2.out k hlt
              have hst := room_step ha1 p1
              have hget : s.getD k 0 = s[k] := by simp [hlt]
              have hp : 1 ≤ a * s[k] := Int.mul_pos (by omega : 0 < a) (by omega : 0 < s[k])
              have hb2 : 0 ≤ 4096 / (a * s[k]) ∧ 4096 / (a * s[k]) ≤ 4096 := ⟨Int.ediv_nonneg (by omega) (by omega), Int.ediv_le_self _ (by omega)⟩
              have hwr : wrap64 (4096 / (a * s[k])) = 4096 / (a * s[k]) := by rw [wrap64]; omega
              have hz := room_zero hp
              rw [hget] at hd
              by_cases h0 : 4096 / (a * s[k]) = 0
              · have hz1 := hz.1 h0
                have hb0 : (4096 / (a * s[k]) == 0) = true := by rw [beq_iff_eq]; exact h0
                have hff : M.count s = .error 7 := by rw [hf.out, hu.out, hd.out, if_pos hz1]
                replace hff := Lib.hid hff
                clear h0 hz hz1 hb2 hp hd hu hget p2
                generalize 4096 / (a * s[k]) = room at *
                go_wp2
                go_ret
                exact ⟨by rw [fault_error hff.out]; rfl, rfl⟩
              · have hz1 : ¬ 4096 < a * s[k] := fun h => h0 (hz.2 h)
                have hb0 : (4096 / (a * s[k]) == 0) = false := by rw [beq_eq_false_iff_ne]; exact h0
                have hu2 := Lib.hid (hu.out.trans (hd.out.trans (if_neg hz1)))
                replace hz1 := Lib.hid hz1
                replace hp := Lib.hid hp
                clear h0 hz hb2 hd hu hget p2
                obtain ⟨room, hroom⟩ : ∃ r, r = 4096 / (a * s[k]) := ⟨_, rfl⟩
                rw [← hroom] at hst hwr hb0
                replace hroom := Lib.hid hroom
                go_wp2
                go_round
                case rel => exact ⟨k + 1, a * s[k], by omega, by go_num, by first | rfl | (rw [hwr, hroom.out]) | (rw [hroom.out] at hwr ⊢; rw [hwr]) | simp [hwr, hroom.out], hp.out, Int.not_lt.1 hz1.out, hu2.out⟩
                case measure => simp [intOf]; omega
            · have hff : M.count s = .ok a := by rw [hf.out, hu.out, List.drop_eq_nil_of_le (by omega)]; rfl
              replace hff := Lib.hid hff
              clear hu
              go_wp2
              go_ret
              exact ⟨by rw [fault_ok hff.out]; rfl, rfl⟩

set_option maxHeartbeats 1000000 in
theorem cells_any (a : Option Addr) (s : List Int) (n c : Nat) (q : Int) (w : World) (hs : Row w a s) (hq : M.count s = .ok q) (hn : n = s.length) :
    Calls Tryd.prog 62 #[.slice a n c] w fun e w' => e = .returned (.int .i64 q) ∧ w = w' := by
  subst hn
  have h6 := (M.count_ok hq).1
  have hr := (M.count_ok hq).2.1
  have hpr := Lib.hid (M.count_ok hq).2.2.1
  replace hr := Lib.hid hr
  by_cases h0 : (0 : Int) ∈ s
  · have hq0 : q = 0 := by rw [hpr.out]; exact M.prod_zero h0
    subst hq0
    replace hq := Lib.hid hq
    go_enter Tryd.func62, Tryd.ntmps62
    go_wp2
    go_loop [4] (fun i => ∃ k : Nat, k ≤ s.length ∧ i = .int .i64 k ∧ 0 ∈ s.drop k) (fun i => s.length - (intOf i).toNat)
    case atStart => exact ⟨0, Nat.zero_le _, rfl, by simpa using h0⟩
    case round =>
      obtain ⟨k, hk, rfl, hb⟩ := hrel
      replace hb := Lib.hid hb
      have hlt : k < s.length := by
        rcases Nat.lt_or_ge k s.length with h | h
        · exact h
        · have := hb.out; rw [List.drop_eq_nil_of_le h] at this; simp at this
      obtain ⟨b, off, rfl, hc⟩ := hs k hlt
      have hd := Lib.hid (List.drop_eq_getElem_cons hlt)
      cases hz : (s[k] == 0) with
      | true =>
        go_wp2
        go_ret
        exact ⟨rfl, rfl⟩
      | false =>
        have hnx : (0 : Int) ∈ s.drop (k + 1) := by
          have := hb.out
          rw [hd.out] at this
          rcases List.mem_cons.1 this with h | h
          · rw [← h] at hz; simp at hz
          · exact h
        replace hnx := Lib.hid hnx
        go_wp2
        go_round
        case rel => exact ⟨k + 1, by omega, by go_num, hnx.out⟩
        case measure => simp [intOf]; omega
  · have hu : M.mulUp 1 s = .ok q := by
      have h := hq
      rw [M.count, if_neg (by omega), M.badLen_none hr.out, if_neg (by simp), if_neg h0] at h
      exact h
    have h1 : ∀ j (hj : j < s.length), 1 ≤ s[j] := fun j hj => by
      have hm := List.getElem_mem hj
      have := (hr.out _ hm).1
      rcases Int.lt_or_le s[j] 1 with hlt | hge
      · have : s[j] = 0 := by omega
        exact absurd (this ▸ hm) h0
      · exact hge
    replace h1 := Lib.hid h1
    replace hu := Lib.hid hu
    replace hq := Lib.hid hq
    clear h0
    go_enter Tryd.func62, Tryd.ntmps62
    go_wp2
    go_loop [4] (fun i => ∃ k : Nat, k ≤ s.length ∧ i = .int .i64 k) (fun i => s.length - (intOf i).toNat)
    case atStart => exact ⟨0, Nat.zero_le _, rfl⟩
    case round =>
      obtain ⟨k, hk, rfl⟩ := hrel
      by_cases hlt : k < s.length
      · obtain ⟨b, off, rfl, hc⟩ := hs k hlt
        have hz : (s[k] == 0) = false := by rw [beq_eq_false_iff_ne]; have := h1.out k hlt; omega
        go_wp2
        go_round
        case rel => exact ⟨k + 1, by omega, by go_num⟩
        case measure => simp [intOf]; omega
      · clear hk
        go_wp2
        go_loop [3, 5] (fun v i => ∃ (k : Nat) (a : Int), k ≤ s.length ∧ i = .int .i64 k ∧ v = .int .i64 a ∧ 1 ≤ a ∧ a ≤ 4096 ∧ M.mulUp a (s.drop k) = .ok q) (fun _ i => s.length - (intOf i).toNat)
        case atStart => exact ⟨0, 1, Nat.zero_le _, rfl, rfl, by omega, by omega, hu.out⟩
        case round =>
          obtain ⟨k, a, hk, rfl, rfl, ha1, ha2, hv⟩ := hrel
          by_cases hlt : k < s.length
          · obtain ⟨b, off, rfl, hc⟩ := hs k hlt
            have p1 := h1.out k hlt
            have hget : s.getD k 0 = s[k] := by simp [hlt]
            rw [mulUp_drop a hlt, hget] at hv
            have hle : a * s[k] ≤ 4096 := by
              rcases Int.lt_or_le 4096 (a * s[k]) with h | h
              · rw [if_pos h] at hv; cases hv
              · exact h
            rw [if_neg (by omega)] at hv
            have hp : 1 ≤ a * s[k] := Int.mul_pos (by omega : 0 < a) (by omega : 0 < s[k])
            have hwr : wrap64 (a * s[k]) = a * s[k] := by rw [wrap64]; omega
            replace hv := Lib.hid hv
            clear hget
            obtain ⟨room, hroom⟩ : ∃ r, r = a * s[k] := ⟨_, rfl⟩
            rw [← hroom] at hv hle hp
            replace hwr := hwr.trans hroom.symm
            clear hroom
            go_wp2
            go_round
            case rel => exact ⟨k + 1, room, by omega, by go_num, by rw [hwr], hp, hle, hv.out⟩
            case measure => simp [intOf]; omega
          · have ha : a = q := by
              rw [List.drop_eq_nil_of_le (by omega)] at hv
              exact Except.ok.inj hv
            subst ha
            clear hv
            go_wp2
            go_ret
            exact ⟨rfl, rfl⟩

end Go.Proofs.YtcenhemlgapkeaaDoor
