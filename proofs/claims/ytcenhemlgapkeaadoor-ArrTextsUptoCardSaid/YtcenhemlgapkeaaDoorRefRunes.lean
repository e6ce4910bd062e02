/- The document's Runes: the characters of a text, byte by byte, and whether it is UTF-8. Condition: the text has at most 2^20 bytes. -/
import Derived.Test.YtcenhemlgapkeaaDoorBdA
import Derived.Test.YtcenhemlgapkeaaDoorRunesP
import Derived.Test.YtcenhemlgapkeaaDoorBdB
import Derived.Test.YtcenhemlgapkeaaDoorOutAt
namespace Go.Proofs.YtcenhemlgapkeaaDoor
open Go.RowKit

/-- What Runes leaves. -/
def RunesPost (l : List UInt8) (w : World) (e : Ending) (w' : World) : Prop :=
  (Lib.validD l = false → e = .returned (.tuple #[.slice none 0 0, .bool false])) ∧
  (Lib.validD l = true → ∃ a c, e = .returned (.tuple #[.slice a (runesD l).length c, .bool true]) ∧ Row w' a (runesD l)) ∧ Below w.heap.size w w'
theorem RunesPost.bad {l : List UInt8} {w w' : World} {e : Ending} (h : Lib.validD l = false) (he : e = .returned (.tuple #[.slice none 0 0, .bool false])) (hb : Below w.heap.size w w') : RunesPost l w e w' :=
  ⟨fun _ => he, fun h2 => (by rw [h] at h2; cases h2), hb⟩
theorem byte_getD (s : ByteArray) {j : Nat} (h : j < s.size) : s.data.toList.getD j 0 = s[j]'h := by
  have h2 : j < s.data.toList.length := by rw [← Lib.size_eq]; exact h
  rw [List.getD_eq_getElem?_getD, List.getElem?_eq_getElem h2, Option.getD_some]
  rfl
/-- The bytes from a place on. -/
def byteAt (s : ByteArray) (i j : Nat) : Nat := (s.data.toList.getD (i + j) 0).toNat
theorem byteAt_lt (s : ByteArray) (i j : Nat) : byteAt s i j < 256 := UInt8.toNat_lt _
theorem acc_bound (c0 : Nat) (B : Nat → Nat) (hc : c0 < 256) (hB : ∀ j, B j < 256) : ∀ k, runeAcc c0 B k < 256 * 128 ^ k
  | 0 => by show c0 < 256 * 1; omega
  | k + 1 => by
    have ih := acc_bound c0 B hc hB k
    have h1 := hB (k + 1)
    have hp : 1 ≤ 128 ^ k := Nat.one_le_pow _ _ (by decide)
    show runeAcc c0 B k * 64 + B (k + 1) - 128 < 256 * 128 ^ (k + 1)
    rw [Nat.pow_succ]
    generalize 128 ^ k = P at *
    omega
theorem acc_small (c0 : Nat) (B : Nat → Nat) (hc : c0 < 256) (hB : ∀ j, B j < 256) {k : Nat} (hk : k ≤ 3) : runeAcc c0 B k < 536870912 := by
  have h := acc_bound c0 B hc hB k
  have h2 : k = 0 ∨ k = 1 ∨ k = 2 ∨ k = 3 := by omega
  rcases h2 with rfl | rfl | rfl | rfl <;> omega
theorem w_self {a : Nat} (h : a ≤ 1152921504606846976) : wrap64 (a : Int) = (a : Int) := IntWalk.wrap64_in _ (by omega)
theorem w_add {a b q : Nat} (e : q = a + b) (h : q ≤ 1152921504606846976) : wrap64 ((a : Int) + (b : Int)) = (q : Int) := by
  rw [IntWalk.wrap64_in _ (by omega)]; omega
theorem w_mul64 {a q : Nat} (e : q = a * 64) (h : q ≤ 1152921504606846976) : wrap64 ((a : Int) * 64) = (q : Int) := by
  rw [IntWalk.wrap64_in _ (by omega)]; omega
theorem w_sub {a q k : Nat} (e : a = q + k) (h : a ≤ 1152921504606846976) : wrap64 ((a : Int) - (k : Int)) = (q : Int) := by
  rw [IntWalk.wrap64_in _ (by omega)]; omega
theorem meas_upk {S i : Nat} {k : Int} (h : 0 < k) (h2 : i < S) : S - (intOf (.int .i64 ((i : Int) + k))).toNat < S - (intOf (.int .i64 (i : Int))).toNat := by simp [intOf]; omega
theorem meas_up {S i j : Nat} (h : i < j) (h2 : i < S) : S - (intOf (.int .i64 (j : Int))).toNat < S - (intOf (.int .i64 (i : Int))).toNat := by simp [intOf]; omega
/-- A step at a place: what the decoder says of it. -/
theorem place_step (s : ByteArray) {i : Nat} (h : i < s.size) : s.data.toList.drop i ≠ [] ∧ Lib.decodeL (s.data.toList.drop i) = Lib.decodeN (s.size - i) (byteAt s i 0) (byteAt s i 1) (byteAt s i 2) (byteAt s i 3) := by
  refine ⟨fun e => ?_, ?_⟩
  · have := congrArg List.length e
    rw [List.length_drop, ← Lib.size_eq] at this
    simp at this; omega
  · rw [Lib.decodeL_drop, Lib.decode_N, ← Lib.size_eq]; rfl
theorem step_bad {s : ByteArray} {i : Nat} (h : i < s.size) (hd : Lib.decodeN (s.size - i) (byteAt s i 0) (byteAt s i 1) (byteAt s i 2) (byteAt s i 3) = (65533, 1)) : Lib.validD (s.data.toList.drop i) = false := by
  obtain ⟨h1, h2⟩ := place_step s h
  rw [Lib.validD_step _ h1, h2, hd]; rfl
theorem step_good {s : ByteArray} {i c m : Nat} (h : i < s.size) (hd : Lib.decodeN (s.size - i) (byteAt s i 0) (byteAt s i 1) (byteAt s i 2) (byteAt s i 3) = (c, m + 1)) (hc : c ≠ 65533 ∨ m ≠ 0) :
    Lib.validD (s.data.toList.drop i) = Lib.validD (s.data.toList.drop (i + (m + 1))) ∧ runesD (s.data.toList.drop i) = (c : Int) :: runesD (s.data.toList.drop (i + (m + 1))) := by
  obtain ⟨h1, h2⟩ := place_step s h
  rw [Lib.validD_step _ h1, runesD_step _ h1, h2, hd, if_neg (by show ¬ (c = 65533 ∧ m + 1 = 1); omega), List.drop_drop]
  exact ⟨rfl, rfl⟩

set_option maxRecDepth 20000 in
set_option maxHeartbeats 16000000 in
theorem refRunes_any (s : ByteArray) (w : World) (hsz : s.size ≤ 1048576) : Calls Tryd.prog 15 #[.string s] w (RunesPost s.data.toList w) := by
  go_enter Tryd.func15, Tryd.ntmps15
  go_wp2
  go_loopw [4, 5] (fun v4 v5 wr => ∃ (i : Nat) (ys : List Int), v5 = .int .i64 (i : Int) ∧ i ≤ s.size ∧ Own wr w.heap.size v4 ys ∧ ys ++ runesD (s.data.toList.drop i) = runesD s.data.toList ∧ Lib.validD (s.data.toList.drop i) = Lib.validD s.data.toList ∧ ys.length ≤ i ∧ Below w.heap.size w wr) (fun _ v5 _ => s.size - (intOf v5).toNat)
  case atStart => exact ⟨0, [], rfl, Nat.zero_le _, Own.nil _ _, rfl, rfl, Nat.le_refl _, Below.refl _ _⟩
  case round =>
    obtain ⟨i, ys, rfl, hi, hown, hacc, hval, hyl, hbel⟩ := hrel
    by_cases hlt : i < s.size
    case neg =>
      have hd : s.data.toList.drop i = [] := List.drop_eq_nil_of_le (by rw [← Lib.size_eq]; omega)
      rw [hd, runesD_nil, List.append_nil] at hacc
      rw [hd, Lib.validD_nil] at hval
      subst hacc
      obtain ⟨av, cv, rfl, -, -, hrow⟩ := hown.view
      have hnl : ¬ ((i : Int) < (s.size : Int)) := by omega
      replace hown := Lib.hid hown
      replace hval := Lib.hid hval
      clear hd
      go_wp2
      go_ret2
      exact ⟨fun h => (by rw [← hval.out] at h; cases h), fun _ => ⟨av, cv, rfl, hrow⟩, hbel⟩
    obtain ⟨av, cv, rfl, -, -, -⟩ := hown.view
    have hB0 : byteAt s i 0 = (s[i]'hlt).toNat := by unfold byteAt; rw [Nat.add_zero, byte_getD s hlt]
    obtain ⟨x0, hx0⟩ : ∃ x0, s[i]'hlt = x0 := ⟨_, rfl⟩
    rw [hx0] at hB0
    obtain ⟨b0, hb0⟩ : ∃ b0 : Nat, x0.toNat = b0 := ⟨_, rfl⟩
    rw [hb0] at hB0
    have hb256 : b0 < 256 := by rw [← hb0]; exact UInt8.toNat_lt _
    have hlti : (i : Int) < (s.size : Int) := by omega
    have hwb := w_self (a := b0) (Nat.le_trans (Nat.le_of_lt hb256) (by decide))
    have hBB := byteAt_lt s i
    replace hacc := Lib.hid hacc
    replace hval := Lib.hid hval
    replace hB0 := Lib.hid hB0
    replace hBB := Lib.hid hBB
    replace hown := Lib.hid hown
    cases hcl : runeCls b0 with
    | none =>
      have hr := Lib.hid (step_bad hlt (rune_none (by rw [hB0.out]; exact hb256) (by rw [hB0.out]; exact hcl)))
      have hcs : 128 ≤ b0 ∧ ¬ (240 ≤ b0 ∧ b0 < 248) ∧ ¬ (224 ≤ b0 ∧ b0 < 240) ∧ ¬ (192 ≤ b0 ∧ b0 < 224) := by
        unfold runeCls at hcl
        by_cases c1 : 240 ≤ b0 ∧ b0 < 248
        · rw [if_pos c1] at hcl; cases hcl
        by_cases c2 : 224 ≤ b0 ∧ b0 < 240
        · rw [if_neg c1, if_pos c2] at hcl; cases hcl
        by_cases c3 : 192 ≤ b0 ∧ b0 < 224
        · rw [if_neg c1, if_neg c2, if_pos c3] at hcl; cases hcl
        by_cases c4 : 128 ≤ b0
        · exact ⟨c4, c1, c2, c3⟩
        · rw [if_neg c1, if_neg c2, if_neg c3, if_neg c4] at hcl; cases hcl
      have hsp : b0 < 192 ∨ 248 ≤ b0 := by omega
      have k1 : (128 : Int) ≤ (b0 : Int) := by omega
      clear hcl hcs
      rcases hsp with hsp | hsp
      · have k2 : ¬ ((240 : Int) ≤ (b0 : Int)) := by omega
        have k3 : ¬ ((224 : Int) ≤ (b0 : Int)) := by omega
        have k4 : ¬ ((192 : Int) ≤ (b0 : Int)) := by omega
        go_wp2
        go_ret2
        exact .bad (by rw [← hval.out]; exact hr.out) rfl hbel
      · have k2 : (240 : Int) ≤ (b0 : Int) := by omega
        have k3 : ¬ ((b0 : Int) < (248 : Int)) := by omega
        have k4 : (224 : Int) ≤ (b0 : Int) := by omega
        have k5 : ¬ ((b0 : Int) < (240 : Int)) := by omega
        have k6 : (192 : Int) ≤ (b0 : Int) := by omega
        have k7 : ¬ ((b0 : Int) < (224 : Int)) := by omega
        go_wp2
        go_ret2
        exact .bad (by rw [← hval.out]; exact hr.out) rfl hbel
    | some cl =>
      obtain ⟨more, least, c0⟩ := cl
      have hsh := fun k h1 h2 h3 => rune_short (n := s.size - i) (b0 := b0) (B := byteAt s i) (k := k) hcl h1 h2 h3
      have hwh := fun h => rune_whole (n := s.size - i) (b0 := b0) (B := byteAt s i) hcl h
      have hcs : (240 ≤ b0 ∧ b0 < 248 ∧ more = 3 ∧ least = 65536 ∧ c0 = b0 - 240) ∨ (224 ≤ b0 ∧ b0 < 240 ∧ more = 2 ∧ least = 2048 ∧ c0 = b0 - 224) ∨ (192 ≤ b0 ∧ b0 < 224 ∧ more = 1 ∧ least = 128 ∧ c0 = b0 - 192) ∨ (b0 < 128 ∧ more = 0 ∧ least = 0 ∧ c0 = b0) := by
        unfold runeCls at hcl
        by_cases c1 : 240 ≤ b0 ∧ b0 < 248
        · rw [if_pos c1] at hcl; simp at hcl; omega
        by_cases c2 : 224 ≤ b0 ∧ b0 < 240
        · rw [if_neg c1, if_pos c2] at hcl; simp at hcl; omega
        by_cases c3 : 192 ≤ b0 ∧ b0 < 224
        · rw [if_neg c1, if_neg c2, if_pos c3] at hcl; simp at hcl; omega
        by_cases c4 : 128 ≤ b0
        · rw [if_neg c1, if_neg c2, if_neg c3, if_pos c4] at hcl; cases hcl
        · rw [if_neg c1, if_neg c2, if_neg c3, if_neg c4] at hcl; simp at hcl; omega
      clear hcl
      have hc256 : c0 < 256 := by omega
      have hasm := fun k (hk : k ≤ 3) => acc_small c0 (byteAt s i) hc256 hBB.out hk
      replace hsh := Lib.hid hsh
      replace hwh := Lib.hid hwh
      replace hasm := Lib.hid hasm
      rcases hcs with ⟨h1, h2, rfl, rfl, hc0⟩ | ⟨h1, h2, rfl, rfl, hc0⟩ | ⟨h1, h2, rfl, rfl, hc0⟩ | ⟨h1, rfl, rfl, hc0⟩
      · have k0 : (240 : Int) ≤ (b0 : Int) := by omega
        have k9 : (b0 : Int) < (248 : Int) := by omega
        replace hc0 := Lib.hid hc0
        clear h1 h2
        go_wp2
        rename World => wo
        go_loopw [9, 10] (fun v9 v10 wx => ∃ k m : Nat, wx = wo ∧ m = k + 1 ∧ k ≤ 3 ∧ v10 = .int .i64 (m : Int) ∧ v9 = .int .i64 ((runeAcc c0 (byteAt s i) k : Nat) : Int) ∧ ∀ j, 1 ≤ j → j ≤ k → i + j < s.size ∧ 128 ≤ byteAt s i j ∧ byteAt s i j < 192) (fun _ v10 _ => 5 - (intOf v10).toNat)
        case atStart => exact ⟨0, 1, rfl, rfl, Nat.zero_le _, rfl, (congrArg (Value.int .i64) (show (b0 : Int) - 240 = ((c0 : Nat) : Int) by have := hc0.out; omega)), fun j h1 h2 => by omega⟩
        case round =>
          obtain ⟨k, m, hwo, hm, hk, rfl, rfl, hok⟩ := hrel
          subst hwo
          by_cases hkm : k < 3
          case pos =>
            have hmk : (m : Int) ≤ 3 := by omega
            have hmm : m = 1 ∨ m = 2 ∨ m = 3 := by omega
            by_cases hq1 : i + m < s.size
            case neg =>
              have hqn : ¬ ((i : Int) + (m : Int) < (s.size : Int)) := by omega
              have hqg : (s.size : Int) ≤ (i : Int) + (m : Int) := by omega
              have hr := Lib.hid (step_bad hlt (by rw [hB0.out]; exact hsh.out m (by omega) (by omega) (.inl (by omega))))
              clear hq1 hok hmm hm
              go_wp2
              go_ret2
              exact .bad (by rw [← hval.out]; exact hr.out) rfl hbel
            have hBm : byteAt s i m = (s[i + m]'hq1).toNat := by unfold byteAt; rw [byte_getD s hq1]
            obtain ⟨x, hx⟩ : ∃ x, s[i + m]'hq1 = x := ⟨_, rfl⟩
            rw [hx] at hBm
            obtain ⟨X, hX⟩ : ∃ X : Nat, x.toNat = X := ⟨_, rfl⟩
            rw [hX] at hBm
            have hX256 : X < 256 := by rw [← hX]; exact UInt8.toNat_lt _
            have hql : (i : Int) + (m : Int) < (s.size : Int) := by omega
            have hqng : ¬ ((s.size : Int) ≤ (i : Int) + (m : Int)) := by omega
            by_cases hx1 : X < 128
            case pos =>
              have hxi : (X : Int) < 128 := by omega
              have hr := Lib.hid (step_bad hlt (by rw [hB0.out]; exact hsh.out m (by omega) (by omega) (.inr (.inl (by omega)))))
              clear hok hmm hBm hm
              go_wp2
              go_ret2
              exact .bad (by rw [← hval.out]; exact hr.out) rfl hbel
            have hxn : ¬ ((X : Int) < 128) := by omega
            by_cases hx2 : 192 ≤ X
            case pos =>
              have hxi : (192 : Int) ≤ (X : Int) := by omega
              have hr := Lib.hid (step_bad hlt (by rw [hB0.out]; exact hsh.out m (by omega) (by omega) (.inr (.inr (by omega)))))
              clear hok hmm hBm hm
              go_wp2
              go_ret2
              exact .bad (by rw [← hval.out]; exact hr.out) rfl hbel
            have hxn2 : ¬ ((192 : Int) ≤ (X : Int)) := by omega
            have hac := hasm.out k (by omega)
            have hnx : runeAcc c0 (byteAt s i) m = runeAcc c0 (byteAt s i) k * 64 + X - 128 := by subst hm; show runeAcc c0 (byteAt s i) k * 64 + byteAt s i (k + 1) - 128 = _; rw [hBm]
            have hok2 : ∀ j, 1 ≤ j → j ≤ m → i + j < s.size ∧ 128 ≤ byteAt s i j ∧ byteAt s i j < 192 := fun j h1 h2 => by
              by_cases e : j = m
              · subst e; rw [hBm]; omega
              · exact hok j h1 (by omega)
            obtain ⟨A, hA⟩ : ∃ A, A = runeAcc c0 (byteAt s i) k := ⟨_, rfl⟩
            rw [← hA] at hac hnx ⊢
            have hfin := Lib.hid (show (A : Int) * 64 + (X : Int) - 128 = ((runeAcc c0 (byteAt s i) m : Nat) : Int) by omega)
            clear hok hmm hBm hnx hA
            replace hok2 := Lib.hid hok2
            replace hm := Lib.hid hm
            go_wp2
            go_roundw
            case rel => exact ⟨m, m + 1, by first | rfl | trivial, by first | rfl | trivial, by omega, by go_num, congrArg (Value.int .i64) hfin.out, hok2.out⟩
            case measure => first | exact meas_up (Nat.lt_succ_self _) (by omega) | exact meas_upk (i := m) (k := 1) (by omega) (by omega)
          obtain rfl : k = 3 := by omega
          subst hm
          have hend := Lib.hid (show i + 4 ≤ s.size by have := (hok 3 (by omega) (by omega)).1; omega)
          have hwd := hwh.out (fun j h1 h2 => by have := hok j h1 h2; omega)
          have hac := hasm.out 3 (by omega)
          generalize runeAcc c0 (byteAt s i) 3 = c at *
          have hnm : ¬ ((4 : Int) ≤ 3) := by omega
          clear hok hk hkm
          by_cases hb : c < 65536
          case pos =>
            have hr := Lib.hid (step_bad hlt (by rw [hB0.out]; exact hwd.trans (if_pos (by omega))))
            have t1 : (c : Int) < 65536 := by omega
            clear hwd hb
            go_wp2
            go_ret2
            exact .bad (by rw [← hval.out]; exact hr.out) rfl hbel
          replace hb := Lib.hid hb
          have hn1 := hb.out
          clear hb
          by_cases hb : 1114111 < c
          case pos =>
            have hr := Lib.hid (step_bad hlt (by rw [hB0.out]; exact hwd.trans (if_pos (by omega))))
            have t1 : ¬ ((c : Int) < 65536) := by omega
            have t2 : (1114111 : Int) < (c : Int) := by omega
            clear hwd hb
            go_wp2
            go_ret2
            exact .bad (by rw [← hval.out]; exact hr.out) rfl hbel
          replace hb := Lib.hid hb
          have hn2 := hb.out
          clear hb
          by_cases hb : 55295 < c ∧ c < 57344
          case pos =>
            have hr := Lib.hid (step_bad hlt (by rw [hB0.out]; exact hwd.trans (if_pos (by omega))))
            have t1 : ¬ ((c : Int) < 65536) := by omega
            have t2 : ¬ ((1114111 : Int) < (c : Int)) := by omega
            have t3 : (55295 : Int) < (c : Int) := by omega
            have t4 : (c : Int) < 57344 := by omega
            clear hwd hb
            go_wp2
            go_ret2
            exact .bad (by rw [← hval.out]; exact hr.out) rfl hbel
          replace hb := Lib.hid hb
          have hn4 := hb.out
          clear hb
          have hgd := step_good (s := s) (i := i) (c := c) (m := 3) hlt (by rw [hB0.out]; exact hwd.trans (if_neg (by omega))) (by omega)
          have t1 : ¬ ((c : Int) < 65536) := by omega
          have t2 : ¬ ((1114111 : Int) < (c : Int)) := by omega
          have hlen : ys.length < 17592186044416 := by omega
          have hB := hbel.size
          obtain ⟨g1, g2⟩ := hgd
          have g3 : (ys ++ [(c : Int)]) ++ runesD (s.data.toList.drop (i + 4)) = runesD s.data.toList := by rw [List.append_assoc]; rw [← hacc.out, g2]; rfl
          have g4 : Lib.validD (s.data.toList.drop (i + 4)) = Lib.validD s.data.toList := g1.symm.trans hval.out
          have g6 : (ys ++ [(c : Int)]).length ≤ i + 4 := by simp; omega
          replace g3 := Lib.hid g3
          replace g4 := Lib.hid g4
          replace g6 := Lib.hid g6
          replace hwd := Lib.hid hwd
          clear g1 g2
          by_cases t3 : (55295 : Int) < (c : Int)
          case pos =>
            have t4 : ¬ ((c : Int) < 57344) := by omega
            go_wp2_with (at_builtin; refine app_int rfl (.tmp 98) (.tmp 100) rfl w.heap.size (.slice av ys.length cv) ys (c : Int) rfl hown.out rfl hlen hB ?_; intro v' w' ho' hb' hl'; have hb2 := hbel.trans hb'; replace ho' := Lib.hid ho')
            go_roundw
            case rel => exact ⟨i + 4, _, by go_num, hend.out, ho'.out, g3.out, g4.out, g6.out, hb2⟩
            case measure => first | exact meas_up (i := i) (j := i + 4) (by omega) hlt | exact meas_upk (i := i) (k := 4) (by omega) hlt
          case neg =>
            exact absurd (show (55295 : Int) < (c : Int) by omega) t3
      · have k0 : (224 : Int) ≤ (b0 : Int) := by omega
        have k9 : (b0 : Int) < (240 : Int) := by omega
        have k240 : ¬ ((240 : Int) ≤ (b0 : Int)) := by omega
        replace hc0 := Lib.hid hc0
        clear h1 h2
        go_wp2
        rename World => wo
        go_loopw [9, 10] (fun v9 v10 wx => ∃ k m : Nat, wx = wo ∧ m = k + 1 ∧ k ≤ 2 ∧ v10 = .int .i64 (m : Int) ∧ v9 = .int .i64 ((runeAcc c0 (byteAt s i) k : Nat) : Int) ∧ ∀ j, 1 ≤ j → j ≤ k → i + j < s.size ∧ 128 ≤ byteAt s i j ∧ byteAt s i j < 192) (fun _ v10 _ => 4 - (intOf v10).toNat)
        case atStart => exact ⟨0, 1, rfl, rfl, Nat.zero_le _, rfl, (congrArg (Value.int .i64) (show (b0 : Int) - 224 = ((c0 : Nat) : Int) by have := hc0.out; omega)), fun j h1 h2 => by omega⟩
        case round =>
          obtain ⟨k, m, hwo, hm, hk, rfl, rfl, hok⟩ := hrel
          subst hwo
          by_cases hkm : k < 2
          case pos =>
            have hmk : (m : Int) ≤ 2 := by omega
            have hmm : m = 1 ∨ m = 2 ∨ m = 3 := by omega
            by_cases hq1 : i + m < s.size
            case neg =>
              have hqn : ¬ ((i : Int) + (m : Int) < (s.size : Int)) := by omega
              have hqg : (s.size : Int) ≤ (i : Int) + (m : Int) := by omega
              have hr := Lib.hid (step_bad hlt (by rw [hB0.out]; exact hsh.out m (by omega) (by omega) (.inl (by omega))))
              clear hq1 hok hmm hm
              go_wp2
              go_ret2
              exact .bad (by rw [← hval.out]; exact hr.out) rfl hbel
            have hBm : byteAt s i m = (s[i + m]'hq1).toNat := by unfold byteAt; rw [byte_getD s hq1]
            obtain ⟨x, hx⟩ : ∃ x, s[i + m]'hq1 = x := ⟨_, rfl⟩
            rw [hx] at hBm
            obtain ⟨X, hX⟩ : ∃ X : Nat, x.toNat = X := ⟨_, rfl⟩
            rw [hX] at hBm
            have hX256 : X < 256 := by rw [← hX]; exact UInt8.toNat_lt _
            have hql : (i : Int) + (m : Int) < (s.size : Int) := by omega
            have hqng : ¬ ((s.size : Int) ≤ (i : Int) + (m : Int)) := by omega
            by_cases hx1 : X < 128
            case pos =>
              have hxi : (X : Int) < 128 := by omega
              have hr := Lib.hid (step_bad hlt (by rw [hB0.out]; exact hsh.out m (by omega) (by omega) (.inr (.inl (by omega)))))
              clear hok hmm hBm hm
              go_wp2
              go_ret2
              exact .bad (by rw [← hval.out]; exact hr.out) rfl hbel
            have hxn : ¬ ((X : Int) < 128) := by omega
            by_cases hx2 : 192 ≤ X
            case pos =>
              have hxi : (192 : Int) ≤ (X : Int) := by omega
              have hr := Lib.hid (step_bad hlt (by rw [hB0.out]; exact hsh.out m (by omega) (by omega) (.inr (.inr (by omega)))))
              clear hok hmm hBm hm
              go_wp2
              go_ret2
              exact .bad (by rw [← hval.out]; exact hr.out) rfl hbel
            have hxn2 : ¬ ((192 : Int) ≤ (X : Int)) := by omega
            have hac := hasm.out k (by omega)
            have hnx : runeAcc c0 (byteAt s i) m = runeAcc c0 (byteAt s i) k * 64 + X - 128 := by subst hm; show runeAcc c0 (byteAt s i) k * 64 + byteAt s i (k + 1) - 128 = _; rw [hBm]
            have hok2 : ∀ j, 1 ≤ j → j ≤ m → i + j < s.size ∧ 128 ≤ byteAt s i j ∧ byteAt s i j < 192 := fun j h1 h2 => by
              by_cases e : j = m
              · subst e; rw [hBm]; omega
              · exact hok j h1 (by omega)
            obtain ⟨A, hA⟩ : ∃ A, A = runeAcc c0 (byteAt s i) k := ⟨_, rfl⟩
            rw [← hA] at hac hnx ⊢
            have hfin := Lib.hid (show (A : Int) * 64 + (X : Int) - 128 = ((runeAcc c0 (byteAt s i) m : Nat) : Int) by omega)
            clear hok hmm hBm hnx hA
            replace hok2 := Lib.hid hok2
            replace hm := Lib.hid hm
            go_wp2
            go_roundw
            case rel => exact ⟨m, m + 1, by first | rfl | trivial, by first | rfl | trivial, by omega, by go_num, congrArg (Value.int .i64) hfin.out, hok2.out⟩
            case measure => first | exact meas_up (Nat.lt_succ_self _) (by omega) | exact meas_upk (i := m) (k := 1) (by omega) (by omega)
          obtain rfl : k = 2 := by omega
          subst hm
          have hend := Lib.hid (show i + 3 ≤ s.size by have := (hok 2 (by omega) (by omega)).1; omega)
          have hwd := hwh.out (fun j h1 h2 => by have := hok j h1 h2; omega)
          have hac := hasm.out 2 (by omega)
          generalize runeAcc c0 (byteAt s i) 2 = c at *
          have hnm : ¬ ((3 : Int) ≤ 2) := by omega
          clear hok hk hkm
          by_cases hb : c < 2048
          case pos =>
            have hr := Lib.hid (step_bad hlt (by rw [hB0.out]; exact hwd.trans (if_pos (by omega))))
            have t1 : (c : Int) < 2048 := by omega
            clear hwd hb
            go_wp2
            go_ret2
            exact .bad (by rw [← hval.out]; exact hr.out) rfl hbel
          replace hb := Lib.hid hb
          have hn1 := hb.out
          clear hb
          by_cases hb : 1114111 < c
          case pos =>
            have hr := Lib.hid (step_bad hlt (by rw [hB0.out]; exact hwd.trans (if_pos (by omega))))
            have t1 : ¬ ((c : Int) < 2048) := by omega
            have t2 : (1114111 : Int) < (c : Int) := by omega
            clear hwd hb
            go_wp2
            go_ret2
            exact .bad (by rw [← hval.out]; exact hr.out) rfl hbel
          replace hb := Lib.hid hb
          have hn2 := hb.out
          clear hb
          by_cases hb : 55295 < c ∧ c < 57344
          case pos =>
            have hr := Lib.hid (step_bad hlt (by rw [hB0.out]; exact hwd.trans (if_pos (by omega))))
            have t1 : ¬ ((c : Int) < 2048) := by omega
            have t2 : ¬ ((1114111 : Int) < (c : Int)) := by omega
            have t3 : (55295 : Int) < (c : Int) := by omega
            have t4 : (c : Int) < 57344 := by omega
            clear hwd hb
            go_wp2
            go_ret2
            exact .bad (by rw [← hval.out]; exact hr.out) rfl hbel
          replace hb := Lib.hid hb
          have hn4 := hb.out
          clear hb
          have hgd := step_good (s := s) (i := i) (c := c) (m := 2) hlt (by rw [hB0.out]; exact hwd.trans (if_neg (by omega))) (by omega)
          have t1 : ¬ ((c : Int) < 2048) := by omega
          have t2 : ¬ ((1114111 : Int) < (c : Int)) := by omega
          have hlen : ys.length < 17592186044416 := by omega
          have hB := hbel.size
          obtain ⟨g1, g2⟩ := hgd
          have g3 : (ys ++ [(c : Int)]) ++ runesD (s.data.toList.drop (i + 3)) = runesD s.data.toList := by rw [List.append_assoc]; rw [← hacc.out, g2]; rfl
          have g4 : Lib.validD (s.data.toList.drop (i + 3)) = Lib.validD s.data.toList := g1.symm.trans hval.out
          have g6 : (ys ++ [(c : Int)]).length ≤ i + 3 := by simp; omega
          replace g3 := Lib.hid g3
          replace g4 := Lib.hid g4
          replace g6 := Lib.hid g6
          replace hwd := Lib.hid hwd
          clear g1 g2
          by_cases t3 : (55295 : Int) < (c : Int)
          case pos =>
            have t4 : ¬ ((c : Int) < 57344) := by omega
            go_wp2_with (at_builtin; refine app_int rfl (.tmp 98) (.tmp 100) rfl w.heap.size (.slice av ys.length cv) ys (c : Int) rfl hown.out rfl hlen hB ?_; intro v' w' ho' hb' hl'; have hb2 := hbel.trans hb'; replace ho' := Lib.hid ho')
            go_roundw
            case rel => exact ⟨i + 3, _, by go_num, hend.out, ho'.out, g3.out, g4.out, g6.out, hb2⟩
            case measure => first | exact meas_up (i := i) (j := i + 3) (by omega) hlt | exact meas_upk (i := i) (k := 3) (by omega) hlt
          case neg =>
            go_wp2_with (at_builtin; refine app_int rfl (.tmp 98) (.tmp 100) rfl w.heap.size (.slice av ys.length cv) ys (c : Int) rfl hown.out rfl hlen hB ?_; intro v' w' ho' hb' hl'; have hb2 := hbel.trans hb'; replace ho' := Lib.hid ho')
            go_roundw
            case rel => exact ⟨i + 3, _, by go_num, hend.out, ho'.out, g3.out, g4.out, g6.out, hb2⟩
            case measure => first | exact meas_up (i := i) (j := i + 3) (by omega) hlt | exact meas_upk (i := i) (k := 3) (by omega) hlt
      · have k0 : (192 : Int) ≤ (b0 : Int) := by omega
        have k9 : (b0 : Int) < (224 : Int) := by omega
        have k240 : ¬ ((240 : Int) ≤ (b0 : Int)) := by omega
        have k224 : ¬ ((224 : Int) ≤ (b0 : Int)) := by omega
        replace hc0 := Lib.hid hc0
        clear h1 h2
        go_wp2
        rename World => wo
        go_loopw [9, 10] (fun v9 v10 wx => ∃ k m : Nat, wx = wo ∧ m = k + 1 ∧ k ≤ 1 ∧ v10 = .int .i64 (m : Int) ∧ v9 = .int .i64 ((runeAcc c0 (byteAt s i) k : Nat) : Int) ∧ ∀ j, 1 ≤ j → j ≤ k → i + j < s.size ∧ 128 ≤ byteAt s i j ∧ byteAt s i j < 192) (fun _ v10 _ => 3 - (intOf v10).toNat)
        case atStart => exact ⟨0, 1, rfl, rfl, Nat.zero_le _, rfl, (congrArg (Value.int .i64) (show (b0 : Int) - 192 = ((c0 : Nat) : Int) by have := hc0.out; omega)), fun j h1 h2 => by omega⟩
        case round =>
          obtain ⟨k, m, hwo, hm, hk, rfl, rfl, hok⟩ := hrel
          subst hwo
          by_cases hkm : k < 1
          case pos =>
            have hmk : (m : Int) ≤ 1 := by omega
            have hmm : m = 1 ∨ m = 2 ∨ m = 3 := by omega
            by_cases hq1 : i + m < s.size
            case neg =>
              have hqn : ¬ ((i : Int) + (m : Int) < (s.size : Int)) := by omega
              have hqg : (s.size : Int) ≤ (i : Int) + (m : Int) := by omega
              have hr := Lib.hid (step_bad hlt (by rw [hB0.out]; exact hsh.out m (by omega) (by omega) (.inl (by omega))))
              clear hq1 hok hmm hm
              go_wp2
              go_ret2
              exact .bad (by rw [← hval.out]; exact hr.out) rfl hbel
            have hBm : byteAt s i m = (s[i + m]'hq1).toNat := by unfold byteAt; rw [byte_getD s hq1]
            obtain ⟨x, hx⟩ : ∃ x, s[i + m]'hq1 = x := ⟨_, rfl⟩
            rw [hx] at hBm
            obtain ⟨X, hX⟩ : ∃ X : Nat, x.toNat = X := ⟨_, rfl⟩
            rw [hX] at hBm
            have hX256 : X < 256 := by rw [← hX]; exact UInt8.toNat_lt _
            have hql : (i : Int) + (m : Int) < (s.size : Int) := by omega
            have hqng : ¬ ((s.size : Int) ≤ (i : Int) + (m : Int)) := by omega
            by_cases hx1 : X < 128
            case pos =>
              have hxi : (X : Int) < 128 := by omega
              have hr := Lib.hid (step_bad hlt (by rw [hB0.out]; exact hsh.out m (by omega) (by omega) (.inr (.inl (by omega)))))
              clear hok hmm hBm hm
              go_wp2
              go_ret2
              exact .bad (by rw [← hval.out]; exact hr.out) rfl hbel
            have hxn : ¬ ((X : Int) < 128) := by omega
            by_cases hx2 : 192 ≤ X
            case pos =>
              have hxi : (192 : Int) ≤ (X : Int) := by omega
              have hr := Lib.hid (step_bad hlt (by rw [hB0.out]; exact hsh.out m (by omega) (by omega) (.inr (.inr (by omega)))))
              clear hok hmm hBm hm
              go_wp2
              go_ret2
              exact .bad (by rw [← hval.out]; exact hr.out) rfl hbel
            have hxn2 : ¬ ((192 : Int) ≤ (X : Int)) := by omega
            have hac := hasm.out k (by omega)
            have hnx : runeAcc c0 (byteAt s i) m = runeAcc c0 (byteAt s i) k * 64 + X - 128 := by subst hm; show runeAcc c0 (byteAt s i) k * 64 + byteAt s i (k + 1) - 128 = _; rw [hBm]
            have hok2 : ∀ j, 1 ≤ j → j ≤ m → i + j < s.size ∧ 128 ≤ byteAt s i j ∧ byteAt s i j < 192 := fun j h1 h2 => by
              by_cases e : j = m
              · subst e; rw [hBm]; omega
              · exact hok j h1 (by omega)
            obtain ⟨A, hA⟩ : ∃ A, A = runeAcc c0 (byteAt s i) k := ⟨_, rfl⟩
            rw [← hA] at hac hnx ⊢
            have hfin := Lib.hid (show (A : Int) * 64 + (X : Int) - 128 = ((runeAcc c0 (byteAt s i) m : Nat) : Int) by omega)
            clear hok hmm hBm hnx hA
            replace hok2 := Lib.hid hok2
            replace hm := Lib.hid hm
            go_wp2
            go_roundw
            case rel => exact ⟨m, m + 1, by first | rfl | trivial, by first | rfl | trivial, by omega, by go_num, congrArg (Value.int .i64) hfin.out, hok2.out⟩
            case measure => first | exact meas_up (Nat.lt_succ_self _) (by omega) | exact meas_upk (i := m) (k := 1) (by omega) (by omega)
          obtain rfl : k = 1 := by omega
          subst hm
          have hend := Lib.hid (show i + 2 ≤ s.size by have := (hok 1 (by omega) (by omega)).1; omega)
          have hwd := hwh.out (fun j h1 h2 => by have := hok j h1 h2; omega)
          have hac := hasm.out 1 (by omega)
          generalize runeAcc c0 (byteAt s i) 1 = c at *
          have hnm : ¬ ((2 : Int) ≤ 1) := by omega
          clear hok hk hkm
          by_cases hb : c < 128
          case pos =>
            have hr := Lib.hid (step_bad hlt (by rw [hB0.out]; exact hwd.trans (if_pos (by omega))))
            have t1 : (c : Int) < 128 := by omega
            clear hwd hb
            go_wp2
            go_ret2
            exact .bad (by rw [← hval.out]; exact hr.out) rfl hbel
          replace hb := Lib.hid hb
          have hn1 := hb.out
          clear hb
          by_cases hb : 1114111 < c
          case pos =>
            have hr := Lib.hid (step_bad hlt (by rw [hB0.out]; exact hwd.trans (if_pos (by omega))))
            have t1 : ¬ ((c : Int) < 128) := by omega
            have t2 : (1114111 : Int) < (c : Int) := by omega
            clear hwd hb
            go_wp2
            go_ret2
            exact .bad (by rw [← hval.out]; exact hr.out) rfl hbel
          replace hb := Lib.hid hb
          have hn2 := hb.out
          clear hb
          by_cases hb : 55295 < c ∧ c < 57344
          case pos =>
            have hr := Lib.hid (step_bad hlt (by rw [hB0.out]; exact hwd.trans (if_pos (by omega))))
            have t1 : ¬ ((c : Int) < 128) := by omega
            have t2 : ¬ ((1114111 : Int) < (c : Int)) := by omega
            have t3 : (55295 : Int) < (c : Int) := by omega
            have t4 : (c : Int) < 57344 := by omega
            clear hwd hb
            go_wp2
            go_ret2
            exact .bad (by rw [← hval.out]; exact hr.out) rfl hbel
          replace hb := Lib.hid hb
          have hn4 := hb.out
          clear hb
          have hgd := step_good (s := s) (i := i) (c := c) (m := 1) hlt (by rw [hB0.out]; exact hwd.trans (if_neg (by omega))) (by omega)
          have t1 : ¬ ((c : Int) < 128) := by omega
          have t2 : ¬ ((1114111 : Int) < (c : Int)) := by omega
          have hlen : ys.length < 17592186044416 := by omega
          have hB := hbel.size
          obtain ⟨g1, g2⟩ := hgd
          have g3 : (ys ++ [(c : Int)]) ++ runesD (s.data.toList.drop (i + 2)) = runesD s.data.toList := by rw [List.append_assoc]; rw [← hacc.out, g2]; rfl
          have g4 : Lib.validD (s.data.toList.drop (i + 2)) = Lib.validD s.data.toList := g1.symm.trans hval.out
          have g6 : (ys ++ [(c : Int)]).length ≤ i + 2 := by simp; omega
          replace g3 := Lib.hid g3
          replace g4 := Lib.hid g4
          replace g6 := Lib.hid g6
          replace hwd := Lib.hid hwd
          clear g1 g2
          by_cases t3 : (55295 : Int) < (c : Int)
          case pos =>
            have t4 : ¬ ((c : Int) < 57344) := by omega
            go_wp2_with (at_builtin; refine app_int rfl (.tmp 98) (.tmp 100) rfl w.heap.size (.slice av ys.length cv) ys (c : Int) rfl hown.out rfl hlen hB ?_; intro v' w' ho' hb' hl'; have hb2 := hbel.trans hb'; replace ho' := Lib.hid ho')
            go_roundw
            case rel => exact ⟨i + 2, _, by go_num, hend.out, ho'.out, g3.out, g4.out, g6.out, hb2⟩
            case measure => first | exact meas_up (i := i) (j := i + 2) (by omega) hlt | exact meas_upk (i := i) (k := 2) (by omega) hlt
          case neg =>
            go_wp2_with (at_builtin; refine app_int rfl (.tmp 98) (.tmp 100) rfl w.heap.size (.slice av ys.length cv) ys (c : Int) rfl hown.out rfl hlen hB ?_; intro v' w' ho' hb' hl'; have hb2 := hbel.trans hb'; replace ho' := Lib.hid ho')
            go_roundw
            case rel => exact ⟨i + 2, _, by go_num, hend.out, ho'.out, g3.out, g4.out, g6.out, hb2⟩
            case measure => first | exact meas_up (i := i) (j := i + 2) (by omega) hlt | exact meas_upk (i := i) (k := 2) (by omega) hlt
      · have k1 : ¬ ((128 : Int) ≤ (b0 : Int)) := by omega
        have k2 : ¬ ((240 : Int) ≤ (b0 : Int)) := by omega
        have k3 : ¬ ((224 : Int) ≤ (b0 : Int)) := by omega
        have k4 : ¬ ((192 : Int) ≤ (b0 : Int)) := by omega
        subst hc0
        clear h1
        go_wp2
        rename World => wo
        go_loopw [9, 10] (fun v9 v10 wx => ∃ k m : Nat, wx = wo ∧ m = k + 1 ∧ k ≤ 0 ∧ v10 = .int .i64 (m : Int) ∧ v9 = .int .i64 ((runeAcc c0 (byteAt s i) k : Nat) : Int) ∧ ∀ j, 1 ≤ j → j ≤ k → i + j < s.size ∧ 128 ≤ byteAt s i j ∧ byteAt s i j < 192) (fun _ v10 _ => 2 - (intOf v10).toNat)
        case atStart => exact ⟨0, 1, rfl, rfl, Nat.zero_le _, rfl, rfl, fun j h1 h2 => by omega⟩
        case round =>
          obtain ⟨k, m, hwo, hm, hk, rfl, rfl, hok⟩ := hrel
          subst hwo
          by_cases hkm : k < 0
          case pos =>
            exact absurd hkm (Nat.not_lt_zero _)
          obtain rfl : k = 0 := by omega
          subst hm
          have hend := Lib.hid (show i + 1 ≤ s.size by omega)
          have hwd := hwh.out (fun j h1 h2 => by have := hok j h1 h2; omega)
          have hac := hasm.out 0 (by omega)
          have hc8 : runeAcc c0 (byteAt s i) 0 < 128 := by show c0 < 128; omega
          generalize runeAcc c0 (byteAt s i) 0 = c at *
          have hnm : ¬ ((1 : Int) ≤ 0) := by omega
          clear hok hk hkm
          have hn1 : ¬ (c < 0) := Nat.not_lt_zero _
          have hn2 : ¬ (1114111 < c) := by omega
          have hn4 : ¬ (55295 < c ∧ c < 57344) := by omega
          have hgd := step_good (s := s) (i := i) (c := c) (m := 0) hlt (by rw [hB0.out]; exact hwd.trans (if_neg (by omega))) (by omega)
          have t1 : ¬ ((c : Int) < 0) := by omega
          have t2 : ¬ ((1114111 : Int) < (c : Int)) := by omega
          have hlen : ys.length < 17592186044416 := by omega
          have hB := hbel.size
          obtain ⟨g1, g2⟩ := hgd
          have g3 : (ys ++ [(c : Int)]) ++ runesD (s.data.toList.drop (i + 1)) = runesD s.data.toList := by rw [List.append_assoc]; rw [← hacc.out, g2]; rfl
          have g4 : Lib.validD (s.data.toList.drop (i + 1)) = Lib.validD s.data.toList := g1.symm.trans hval.out
          have g6 : (ys ++ [(c : Int)]).length ≤ i + 1 := by simp; omega
          replace g3 := Lib.hid g3
          replace g4 := Lib.hid g4
          replace g6 := Lib.hid g6
          replace hwd := Lib.hid hwd
          clear g1 g2
          by_cases t3 : (55295 : Int) < (c : Int)
          case pos =>
            exact absurd t3 (by omega)
          case neg =>
            go_wp2_with (at_builtin; refine app_int rfl (.tmp 98) (.tmp 100) rfl w.heap.size (.slice av ys.length cv) ys (c : Int) rfl hown.out rfl hlen hB ?_; intro v' w' ho' hb' hl'; have hb2 := hbel.trans hb'; replace ho' := Lib.hid ho')
            go_roundw
            case rel => exact ⟨i + 1, _, by go_num, hend.out, ho'.out, g3.out, g4.out, g6.out, hb2⟩
            case measure => first | exact meas_up (i := i) (j := i + 1) (by omega) hlt | exact meas_upk (i := i) (k := 1) (by omega) hlt
end Go.Proofs.YtcenhemlgapkeaaDoor
