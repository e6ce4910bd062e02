/- The document's Once and Axed: whether a list is the numbers from 0 on, each once; the shape with its axes in another order, gathered axis by axis. Condition: the slices read as lists of ints. -/
import Derived.Test.YtldhklbpmfckcaaDoorRefShape
import Derived.Test.YtldhklbpmfckcaaDoorAxed
namespace Go.Proofs.YtldhklbpmfckcaaDoor
open Go.RowKit
theorem pick_drop {s p : List Int} {k : Nat} (to : Int) (h : k < p.length) (h' : k < s.length) :
    M.pick (p.drop k) (s.drop k) to = if p[k] = to then s[k] :: M.pick (p.drop (k + 1)) (s.drop (k + 1)) to else M.pick (p.drop (k + 1)) (s.drop (k + 1)) to := by
  rw [List.drop_eq_getElem_cons h, List.drop_eq_getElem_cons h', M.pick]

theorem count_take {p : List Int} {k : Nat} (x : Int) (h : k < p.length) : (p.take (k + 1)).count x = (p.take k).count x + (if (p[k] == x) = true then 1 else 0) := by
  rw [List.take_succ_eq_append_getElem h, List.count_append, List.count_singleton]

set_option maxHeartbeats 1000000 in
theorem once_any (a : Option Addr) (p : List Int) (n c : Nat) (w : World) (hs : Row w a p) (hm : p.length < 17592186044416) (hn : n = p.length) :
    Calls Tryd.prog 34 #[.slice a n c] w fun e w' => e = .returned (.bool (M.once p)) ∧ w = w' := by
  subst hn
  go_enter Tryd.func34, Tryd.ntmps34
  go_wp2
  go_loop [3] (fun i => ∃ k : Nat, k ≤ p.length ∧ i = .int .i64 k ∧ ∀ j, j < k → p.count (j : Int) = 1) (fun i => p.length - (intOf i).toNat)
  case atStart => exact ⟨0, Nat.zero_le _, rfl, fun j h => by omega⟩
  case round =>
    obtain ⟨to, hto, rfl, hall⟩ := hrel
    replace hall := Lib.hid hall
    by_cases hlt : to < p.length
    · go_wp2
      go_loop [4, 5] (fun v i => ∃ k : Nat, k ≤ p.length ∧ i = .int .i64 k ∧ ∃ q : Nat, q ≤ k ∧ v = .int .i64 q ∧ q = (p.take k).count (to : Int)) (fun _ i => p.length - (intOf i).toNat)
      case atStart => exact ⟨0, Nat.zero_le _, rfl, 0, Nat.le_refl _, rfl, by simp⟩
      case round =>
        obtain ⟨k, hk, rfl, q, hqk, rfl, hq⟩ := hrel
        replace hq := Lib.hid hq
        by_cases hlk : k < p.length
        · obtain ⟨b, off, rfl, hc⟩ := hs k hlk
          have hct := Lib.hid (count_take (to : Int) hlk)
          cases hz : (p[k] == (to : Int)) with
          | true =>
            have hq1 := Lib.hid (show q + 1 = (p.take (k + 1)).count (to : Int) by rw [hct.out, if_pos hz, hq.out])
            clear hct
            go_wp2
            go_round
            case rel => exact ⟨k + 1, by omega, by go_num, q + 1, by omega, by go_num, hq1.out⟩
            case measure => simp [intOf]; omega
          | false =>
            have hq1 := Lib.hid (show q = (p.take (k + 1)).count (to : Int) by rw [hct.out, if_neg (by simp [hz]), hq.out]; rfl)
            clear hct
            go_wp2
            go_round
            case rel => exact ⟨k + 1, by omega, by go_num, q, by omega, rfl, hq1.out⟩
            case measure => simp [intOf]; omega
        · have hq2 : q = p.count (to : Int) := by rw [hq.out, List.take_of_length_le (by omega)]
          by_cases h1 : q = 1
          · have hnew := Lib.hid (show ∀ j, j < to + 1 → p.count (j : Int) = 1 from fun j hj => by
              rcases Nat.lt_or_ge j to with h | h
              · exact hall.out j h
              · have : j = to := by omega
                rw [this, ← hq2]; exact h1)
            replace hq2 := Lib.hid hq2
            subst h1
            go_wp2
            go_round
            case rel => exact ⟨to + 1, by omega, by go_num, hnew.out⟩
            case measure => simp [intOf]; omega
          · have hf := Lib.hid (show M.once p = false from decide_eq_false fun h => h1 (by rw [hq2]; exact h to hlt))
            have hne : ((q : Int) != 1) = true := by rw [bne_iff_ne]; omega
            replace hq2 := Lib.hid hq2
            replace h1 := Lib.hid h1
            go_wp2
            go_ret
            exact ⟨by rw [hf.out]; rfl, rfl⟩
    · have hf := Lib.hid (show M.once p = true from decide_eq_true fun j hj => hall.out j (by omega))
      go_wp2
      go_ret
      exact ⟨by rw [hf.out]; rfl, rfl⟩

/-- What a call that tells a list and the number of an error leaves. -/
def RefList (r : Except Int (List Int)) (w : World) (e : Ending) (w' : World) : Prop :=
  (∀ n, r = .error n → e = .returned (.tuple #[.slice none 0 0, .int .i64 n])) ∧
  (∀ t, r = .ok t → ∃ a c, e = .returned (.tuple #[.slice a t.length c, .int .i64 0]) ∧ Row w' a t) ∧ Below w.heap.size w w'

theorem RefList.error {r : Except Int (List Int)} {w w' : World} {e : Ending} {n : Int} (h : r = .error n) (he : e = .returned (.tuple #[.slice none 0 0, .int .i64 n])) (hb : Below w.heap.size w w') : RefList r w e w' := by
  subst h; exact ⟨fun m hm => by cases hm; exact he, fun x hx => (by cases hx), hb⟩
theorem RefList.ok {r : Except Int (List Int)} {w w' : World} {e : Ending} {t : List Int} {a : Option Addr} {c : Nat} (h : r = .ok t) (he : e = .returned (.tuple #[.slice a t.length c, .int .i64 0])) (h1 : Row w' a t) (hb : Below w.heap.size w w') : RefList r w e w' := by
  subst h; exact ⟨fun m hm => (by cases hm), fun y hy => by cases hy; exact ⟨a, c, he, h1⟩, hb⟩

theorem pick_length (p s : List Int) (to : Int) : (M.pick p s to).length ≤ s.length := by
  induction p generalizing s with
  | nil => simp [M.pick]
  | cons x p ih =>
    cases s with
    | nil => simp [M.pick]
    | cons y s => have := ih s; simp only [M.pick]; split <;> simp <;> omega

theorem gather_length (s p : List Int) (n : Nat) : (M.gather s p n).length ≤ n * s.length := by
  induction n with
  | zero => simp [M.gather]
  | succ n ih => rw [gather_succ, List.length_append, Nat.add_mul, Nat.one_mul]; have := pick_length p s (n : Int); omega

set_option maxHeartbeats 2000000 in
theorem axed_any (a b : Option Addr) (s p : List Int) (m n c d : Nat) (w : World) (hs : Row w a s) (hp : Row w b p) (lm : s.length ≤ maxLen) (ln : p.length ≤ maxLen) (em : m = s.length) (en : n = p.length) :
    Calls Tryd.prog 21 #[.slice a m c, .slice b n d] w fun e w' => RefList (M.axed s p) w e w' := by
  subst em
  subst en
  cases hc : M.count s with
  | error e =>
    have hr := Lib.hid (show M.axed s p = .error e by unfold M.axed; rw [hc])
    have hne : (e != 0) = true := by have := M.count_err hc; rw [bne_iff_ne]; omega
    have hf := Lib.hid (fault_error hc)
    replace hc := Lib.hid hc
    go_enter Tryd.func21, Tryd.ntmps21
    go_wp2_with fail
    refine (fault_any a s _ c w hs lm rfl).mono ?_
    rintro e' w' ⟨rfl, rfl⟩
    rw [hf.out]
    go_wp2
    go_ret2
    exact .error hr.out rfl (Below.refl _ _)
  | ok q =>
    have hf := Lib.hid (fault_ok hc)
    have q6 := (M.count_ok hc).1
    by_cases hl : p.length = s.length
    · have hbl : (((p.length : Nat) : Int) != ((s.length : Nat) : Int)) = false := by rw [bne_eq_false_iff_eq]; omega
      cases ho : M.once p with
      | false =>
        have hr := Lib.hid (show M.axed s p = .error 5 by unfold M.axed; rw [hc]; dsimp only; rw [if_neg (fun h => h hl), ho]; rfl)
        replace hc := Lib.hid hc
        replace ho := Lib.hid ho
        replace hl := Lib.hid hl
        go_enter Tryd.func21, Tryd.ntmps21
        go_wp2_with fail
        refine (fault_any a s _ c w hs lm rfl).mono ?_
        rintro e' w' ⟨rfl, rfl⟩
        rw [hf.out]
        go_wp2_with fail
        refine (once_any b p _ d w hp (by have := hl.out; omega) rfl).mono ?_
        rintro e' w' ⟨rfl, rfl⟩
        rw [ho.out]
        go_wp2
        go_ret2
        exact .error hr.out rfl (Below.refl _ _)
      | true =>
        have hr := Lib.hid (show M.axed s p = .ok (M.gather s p s.length) by unfold M.axed; rw [hc]; dsimp only; rw [if_neg (fun h => h hl), ho]; rfl)
        replace hc := Lib.hid hc
        replace ho := Lib.hid ho
        replace hl := Lib.hid hl
        go_enter Tryd.func21, Tryd.ntmps21
        go_wp2_with fail
        refine (fault_any a s _ c w hs lm rfl).mono ?_
        rintro e' w' ⟨rfl, rfl⟩
        rw [hf.out]
        go_wp2_with fail
        refine (once_any b p _ d w hp (by have := hl.out; omega) rfl).mono ?_
        rintro e' w' ⟨rfl, rfl⟩
        rw [ho.out]
        go_wp2
        go_loopw [7, 8] (fun v i wr => ∃ to : Nat, to ≤ s.length ∧ i = .int .i64 to ∧ Own wr w.heap.size v (M.gather s p to) ∧ Below w.heap.size w wr) (fun _ i _ => s.length - (intOf i).toNat)
        case atStart => exact ⟨0, Nat.zero_le _, rfl, Own.nil _ _, Below.refl _ _⟩
        case round =>
          obtain ⟨to, hto, rfl, hown, hbel⟩ := hrel
          by_cases hlt : to < s.length
          · have hgs := Lib.hid (gather_succ s p to)
            have hgl : (M.gather s p (to + 1)).length ≤ 36 := Nat.le_trans (gather_length s p (to + 1)) (Nat.mul_le_mul (by omega : to + 1 ≤ 6) q6)
            go_wp2
            go_loopw [7, 9] (fun v i wr => ∃ k : Nat, k ≤ s.length ∧ i = .int .i64 k ∧ ∃ out : List Int, Own wr w.heap.size v out ∧ out ++ M.pick (p.drop k) (s.drop k) (to : Int) = M.gather s p (to + 1) ∧ Below w.heap.size w wr) (fun _ i _ => s.length - (intOf i).toNat)
            case atStart => exact ⟨0, Nat.zero_le _, rfl, _, hown, by rw [hgs.out]; rfl, hbel⟩
            case round =>
              clear hown hbel
              obtain ⟨k, hk, rfl, out, hown, hout, hbel⟩ := hrel
              have hB := hbel.size
              have hlen : out.length < 17592186044416 := by rw [← hout, List.length_append] at hgl; omega
              replace hout := Lib.hid hout
              by_cases hlk : k < s.length
              · have hlp : k < p.length := by have := hl.out; omega
                obtain ⟨b1, o1, rfl, hc1⟩ := hs.below hbel k hlk
                obtain ⟨b2, o2, rfl, hc2⟩ := hp.below hbel k hlp
                have hpd := Lib.hid (pick_drop (to : Int) hlp hlk)
                cases hz : (p[k] == (to : Int)) with
                | true =>
                  have hn2 := Lib.hid (show (out ++ [s[k]]) ++ M.pick (p.drop (k + 1)) (s.drop (k + 1)) (to : Int) = M.gather s p (to + 1) by
                    rw [← hout.out, hpd.out, if_pos (by simpa using hz)]; simp)
                  clear hpd
                  go_wp2_with (at_builtin; refine app_int rfl (.tmp 41) (.tmp 46) rfl w.heap.size _ out s[k] rfl hown rfl hlen hB ?_; intro v' w' ho' hb' hl')
                  go_roundw
                  case rel => exact ⟨k + 1, by omega, by go_num, _, ho', hn2.out, hbel.trans hb'⟩
                  case measure => simp [intOf]; omega
                | false =>
                  have hn2 := Lib.hid (show out ++ M.pick (p.drop (k + 1)) (s.drop (k + 1)) (to : Int) = M.gather s p (to + 1) by
                    rw [← hout.out, hpd.out, if_neg (by simpa using hz)])
                  clear hpd
                  go_wp2
                  go_roundw
                  case rel => exact ⟨k + 1, by omega, by go_num, _, hown, hn2.out, hbel⟩
                  case measure => simp [intOf]; omega
              · have he : out = M.gather s p (to + 1) := by
                  rw [← hout.out, List.drop_eq_nil_of_le (by omega : s.length ≤ k), List.drop_eq_nil_of_le (by have := hl.out; omega : p.length ≤ k)]; simp [M.pick]
                rw [he] at hown
                replace he := Lib.hid he
                go_wp2
                go_roundw
                case rel => exact ⟨to + 1, by omega, by go_num, hown, hbel⟩
                case measure => simp [intOf]; omega
          · obtain rfl : to = s.length := by omega
            obtain ⟨av, cv, rfl, _, _, rv⟩ := hown.view
            go_wp2
            go_ret2
            exact .ok hr.out rfl rv hbel
    · have hbl : (((p.length : Nat) : Int) != ((s.length : Nat) : Int)) = true := by rw [bne_iff_ne]; omega
      have hr := Lib.hid (show M.axed s p = .error 4 by unfold M.axed; rw [hc]; exact if_pos hl)
      replace hc := Lib.hid hc
      replace hl := Lib.hid hl
      go_enter Tryd.func21, Tryd.ntmps21
      go_wp2_with fail
      refine (fault_any a s _ c w hs lm rfl).mono ?_
      rintro e' w' ⟨rfl, rfl⟩
      rw [hf.out]
      go_wp2
      go_ret2
      exact .error hr.out rfl (Below.refl _ _)

end Go.Proofs.YtldhklbpmfckcaaDoor
