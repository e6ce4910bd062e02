/- The walk of the law ShapePlaces: it returns true whatever the input. Condition: the library's one variable is laid. -/
import Derived.Test.YtldhklbpmfckcaaDoorRefPlace
import Derived.Test.YtldhklbpmfckcaaDoorRefShape
import Derived.Test.YtldhklbpmfckcaaDoorWkPlace
import Derived.Test.YtldhklbpmfckcaaDoorWkAt
import Derived.Test.YtldhklbpmfckcaaDoorInts
import Derived.Test.YtldhklbpmfckcaaDoorTold
namespace Go.Proofs.YtldhklbpmfckcaaDoor
open Go.RowKit

theorem M.placeFrom_err {s t : List Int} : ∀ {p e : Int}, M.placeFrom p s t = .error e → e = 5 := by
  induction s generalizing t with
  | nil => intro p e h; cases t <;> cases h
  | cons n s ih => cases t with
    | nil => intro p e h; cases h
    | cons i t =>
      intro p e h
      rw [M.placeFrom] at h
      split at h
      · exact (Except.error.inj h).symm
      · exact ih h

theorem M.place_out {s t : List Int} {q : Int} (hc : M.count s = .ok q) (hl : t.length = s.length) (h : ¬ M.InR s t) : M.place s t = .error 5 := by
  have e : M.place s t = M.placeFrom 0 s t := by rw [M.place, hc]; simp only [hl, ne_eq, not_true_eq_false, if_false]
  rw [e]
  cases hr : M.placeFrom 0 s t with
  | ok n => exact absurd (M.placeFrom_ok hl hr) h
  | error n => rw [M.placeFrom_err hr]

set_option maxHeartbeats 2000000 in
theorem shapePlaces_walk (p0 : Option Addr) (s : List Int) (c0 : Nat) (p1 : Option Addr) (t : List Int) (c1 : Nat) (p : Int) (w : World) (r0 : Row w p0 s) (l0 : s.length ≤ maxLen) (_ : All64 s) (r1 : Row w p1 t) (l1 : t.length ≤ maxLen) (_ : All64 t) (_ : I64 p) (hg : Laid w) :
    Calls Tryd.prog 8 #[.slice p0 s.length c0, .slice p1 t.length c1, .int .i64 p] w fun e w' => e = .returned (.bool true) ∧ Below w.heap.size w w' := by
  have hplace := fun w (h0 : Row w p0 s) (h1 : Row w p1 t) => place_any p0 p1 s t _ _ c0 c1 w h0 h1 l0 l1 rfl rfl
  have hat := fun w (h0 : Row w p0 s) => at_any p0 s _ c0 p w h0 l0 rfl
  cases hc : M.count s with
  | error n =>
    have hn : n ≠ 0 := by have := M.count_err hc; omega
    have hev := Lib.hid (errN_ne hn)
    have hnn : (n == n) = true := beq_self_eq_true n
    have hn0 : (n == 0) = false := by rw [beq_eq_false_iff_ne]; exact hn
    have hf := Lib.hid (fault_error hc)
    have hp := Lib.hid (show M.place s t = .error n by rw [M.place, hc])
    have ha := Lib.hid (show M.atp s p = .error n by rw [M.atp, hc])
    replace hn := Lib.hid hn
    replace hplace := Lib.hid hplace
    replace hat := Lib.hid hat
    clear hc
    go_enter Tryd.func8, Tryd.ntmps8
    go_wp2_with fail
    refine (fault_any p0 s _ c0 w r0 l0 rfl).mono ?_
    rintro e w' ⟨rfl, rfl⟩
    rw [hf.out]
    go_wp2_with fail
    refine (hplace.out w r0 r1).mono ?_
    rintro e w' ⟨rfl, rfl⟩
    rw [hp.out]
    dsimp only [resI]
    go_wp2_with fail
    rw [← hev.out]
    refine (error_any n n w hg).mono ?_
    rintro e w1 ⟨rfl, b1⟩
    rw [hev.out, hnn]
    go_wp2_with fail
    refine (hat.out w1 (r0.below b1)).mono ?_
    intro e w2 hpost
    obtain rfl := hpost.1 n ha.out
    have b2 := below_trans b1 hpost.2.2
    clear hpost
    go_wp2_with fail
    rw [← hev.out]
    refine (error_any n n w2 (hg.below b2)).mono ?_
    rintro e w3 ⟨rfl, b3⟩
    rw [hev.out, hnn]
    replace b3 := below_trans b2 b3
    go_wp2_with fail
    refine (ints_any none none [] [] 0 0 0 0 w3 (Row.nil _ _) (Row.nil _ _) (Nat.zero_le _) (Nat.zero_le _) rfl rfl).mono ?_
    rintro e w4 ⟨rfl, nd, rfl⟩
    rw [decide_eq_true (rfl : ([] : List Int) = [])]
    go_wp2
    go_ret
    exact ⟨rfl, below_drewN b3 _⟩
  | ok q =>
    have hf := Lib.hid (fault_ok hc)
    have hcells := fun w (h0 : Row w p0 s) => cells_any p0 s _ c0 q w h0 hc rfl
    have hinside := fun (hl : t.length = s.length) w (h0 : Row w p0 s) (h1 : Row w p1 t) => inside_any p0 p1 s t _ _ c0 c1 w h0 h1 hl l0 rfl rfl
    replace hplace := Lib.hid hplace
    replace hat := Lib.hid hat
    replace hcells := Lib.hid hcells
    replace hinside := Lib.hid hinside
    have h6 := (M.count_ok hc).1
    by_cases hl : t.length = s.length
    · cases hi : M.insideB s t with
      | false =>
        have hp := Lib.hid (M.place_out hc hl (fun h => by rw [(M.insideB_iff hl).2 h] at hi; cases hi))
        have d2 : (((t.length : Nat) : Int) != ((s.length : Nat) : Int)) = false := by rw [bne_eq_false_iff_eq]; omega
        replace hinside := Lib.hid (hinside.out hl)
        replace hi := Lib.hid hi
        replace hl := Lib.hid hl
        by_cases hlt : p < 0
        · have d0 : decide (p < 0) = true := decide_eq_true hlt
          have ha := Lib.hid (show M.atp s p = .error 5 by rw [M.atp, hc]; exact if_pos (.inl hlt))
          replace hlt := Lib.hid hlt
          replace hc := Lib.hid hc
          go_enter Tryd.func8, Tryd.ntmps8
          go_wp2_with fail
          refine (fault_any p0 s _ c0 w r0 l0 rfl).mono ?_
          rintro e w' ⟨rfl, rfl⟩
          rw [hf.out]
          go_wp2_with fail
          refine (hinside.out w r0 r1).mono ?_
          rintro e w' ⟨rfl, n1, rfl⟩
          rw [hi.out]
          go_wp2_with fail
          refine (hplace.out _ (r0.drewN n1) (r1.drewN n1)).mono ?_
          rintro e w' ⟨rfl, rfl⟩
          rw [hp.out]
          dsimp only [resI]
          go_wp2_with fail
          refine (error_any 5 5 (w.drewN n1) (hg.below (below_drewN (Below.refl _ w) n1))).mono ?_
          rintro e w1 ⟨rfl, b1⟩
          replace b1 := below_trans (below_drewN (Below.refl _ w) n1) b1
          go_wp2_with fail
          refine (hat.out w1 (r0.below b1)).mono ?_
          intro e w5 hpost
          obtain rfl := hpost.1 5 ha.out
          have b5 := below_trans b1 hpost.2.2
          clear hpost
          go_wp2_with fail
          refine (error_any 5 5 w5 (hg.below b5)).mono ?_
          rintro e w6 ⟨rfl, b6⟩
          replace b6 := below_trans b5 b6
          go_wp2_with fail
          refine (ints_any none none [] [] 0 0 0 0 w6 (Row.nil _ _) (Row.nil _ _) (Nat.zero_le _) (Nat.zero_le _) rfl rfl).mono ?_
          rintro e w7 ⟨rfl, nd, rfl⟩
          rw [decide_eq_true (rfl : ([] : List Int) = [])]
          go_wp2
          go_ret
          exact ⟨rfl, below_drewN b6 _⟩
        · by_cases hge : q ≤ p
          · have d0 : decide (p < 0) = false := decide_eq_false hlt
            have d1 : decide (q ≤ p) = true := decide_eq_true hge
            have ha := Lib.hid (show M.atp s p = .error 5 by rw [M.atp, hc]; exact if_pos (.inr hge))
            replace hlt := Lib.hid hlt
            replace hge := Lib.hid hge
            replace hc := Lib.hid hc
            go_enter Tryd.func8, Tryd.ntmps8
            go_wp2_with fail
            refine (fault_any p0 s _ c0 w r0 l0 rfl).mono ?_
            rintro e w' ⟨rfl, rfl⟩
            rw [hf.out]
            go_wp2_with fail
            refine (hinside.out w r0 r1).mono ?_
            rintro e w' ⟨rfl, n1, rfl⟩
            rw [hi.out]
            go_wp2_with fail
            refine (hplace.out _ (r0.drewN n1) (r1.drewN n1)).mono ?_
            rintro e w' ⟨rfl, rfl⟩
            rw [hp.out]
            dsimp only [resI]
            go_wp2_with fail
            refine (error_any 5 5 (w.drewN n1) (hg.below (below_drewN (Below.refl _ w) n1))).mono ?_
            rintro e w1 ⟨rfl, b1⟩
            replace b1 := below_trans (below_drewN (Below.refl _ w) n1) b1
            go_wp2_with fail
            refine (hcells.out w1 (r0.below b1)).mono ?_
            rintro e w' ⟨rfl, rfl⟩
            go_wp2_with fail
            refine (hat.out w1 (r0.below b1)).mono ?_
            intro e w5 hpost
            obtain rfl := hpost.1 5 ha.out
            have b5 := below_trans b1 hpost.2.2
            clear hpost
            go_wp2_with fail
            refine (error_any 5 5 w5 (hg.below b5)).mono ?_
            rintro e w6 ⟨rfl, b6⟩
            replace b6 := below_trans b5 b6
            go_wp2_with fail
            refine (ints_any none none [] [] 0 0 0 0 w6 (Row.nil _ _) (Row.nil _ _) (Nat.zero_le _) (Nat.zero_le _) rfl rfl).mono ?_
            rintro e w7 ⟨rfl, nd, rfl⟩
            rw [decide_eq_true (rfl : ([] : List Int) = [])]
            go_wp2
            go_ret
            exact ⟨rfl, below_drewN b6 _⟩
          · have d0 : decide (p < 0) = false := decide_eq_false hlt
            have d1 : decide (q ≤ p) = false := decide_eq_false hge
            have ha := Lib.hid (show M.atp s p = .ok (M.coords s p).1 by rw [M.atp, hc]; exact if_neg (fun h => h.elim hlt hge))
            have hco := Lib.hid (fun w (h0 : Row w p0 s) => coords_any p0 s _ c0 q p w h0 hc (by omega) (by omega) rfl)
            have hcl := Lib.hid (show (M.coords s p).1.length ≤ maxLen by rw [coords_length]; exact l0)
            replace hlt := Lib.hid hlt
            replace hge := Lib.hid hge
            replace hc := Lib.hid hc
            go_enter Tryd.func8, Tryd.ntmps8
            go_wp2_with fail
            refine (fault_any p0 s _ c0 w r0 l0 rfl).mono ?_
            rintro e w' ⟨rfl, rfl⟩
            rw [hf.out]
            go_wp2_with fail
            refine (hinside.out w r0 r1).mono ?_
            rintro e w' ⟨rfl, n1, rfl⟩
            rw [hi.out]
            go_wp2_with fail
            refine (hplace.out _ (r0.drewN n1) (r1.drewN n1)).mono ?_
            rintro e w' ⟨rfl, rfl⟩
            rw [hp.out]
            dsimp only [resI]
            go_wp2_with fail
            refine (error_any 5 5 (w.drewN n1) (hg.below (below_drewN (Below.refl _ w) n1))).mono ?_
            rintro e w1 ⟨rfl, b1⟩
            replace b1 := below_trans (below_drewN (Below.refl _ w) n1) b1
            go_wp2_with fail
            refine (hcells.out w1 (r0.below b1)).mono ?_
            rintro e w' ⟨rfl, rfl⟩
            go_wp2_with fail
            refine (hco.out w1 (r0.below b1)).mono ?_
            rintro e w4 ⟨v4, rfl, o4, b4⟩
            obtain ⟨a4, k4, rfl, _, _, q4⟩ := o4.view
            replace b4 := below_trans b1 b4
            clear o4
            go_wp2_with fail
            refine (hat.out w4 (r0.below b4)).mono ?_
            intro e w5 hpost
            obtain ⟨v5, rfl, o5⟩ := hpost.2.1 _ ha.out
            have b45 := hpost.2.2
            clear hpost
            obtain ⟨a5, k5, rfl, _, _, q5⟩ := o5.view
            replace q4 := q4.below b45
            have b5 := below_trans b4 b45
            clear b45 o5
            go_wp2_with fail
            refine (error_any 0 0 w5 (hg.below b5)).mono ?_
            rintro e w6 ⟨rfl, b6⟩
            replace q4 := q4.below b6
            replace q5 := q5.below b6
            replace b6 := below_trans b5 b6
            go_wp2_with fail
            refine (ints_any a5 a4 _ _ _ _ k5 k4 w6 q5 q4 hcl.out hcl.out rfl rfl).mono ?_
            rintro e w7 ⟨rfl, nd, rfl⟩
            rw [decide_eq_true rfl]
            go_wp2
            go_ret
            exact ⟨rfl, below_drewN b6 _⟩
      | true =>
        have hin := (M.insideB_iff hl).1 hi
        have hp := Lib.hid (M.place_mk hc hin)
        have hwh := Lib.hid (fun w (h0 : Row w p0 s) (h1 : Row w p1 t) => where_any p0 p1 s t _ _ c0 c1 q w h0 h1 hin hc rfl rfl)
        have d2 : (((t.length : Nat) : Int) != ((s.length : Nat) : Int)) = false := by rw [bne_eq_false_iff_eq]; omega
        have d3 : (M.placeN 0 s t != M.placeN 0 s t) = false := by rw [bne_eq_false_iff_eq]
        replace hinside := Lib.hid (hinside.out hl)
        replace hi := Lib.hid hi
        replace hl := Lib.hid hl
        clear hin
        by_cases hlt : p < 0
        · have d0 : decide (p < 0) = true := decide_eq_true hlt
          have ha := Lib.hid (show M.atp s p = .error 5 by rw [M.atp, hc]; exact if_pos (.inl hlt))
          replace hlt := Lib.hid hlt
          replace hc := Lib.hid hc
          go_enter Tryd.func8, Tryd.ntmps8
          go_wp2_with fail
          refine (fault_any p0 s _ c0 w r0 l0 rfl).mono ?_
          rintro e w' ⟨rfl, rfl⟩
          rw [hf.out]
          go_wp2_with fail
          refine (hinside.out w r0 r1).mono ?_
          rintro e w' ⟨rfl, n1, rfl⟩
          rw [hi.out]
          go_wp2_with fail
          refine (hwh.out _ (r0.drewN n1) (r1.drewN n1)).mono ?_
          rintro e w' ⟨rfl, rfl⟩
          go_wp2_with fail
          refine (hplace.out _ (r0.drewN n1) (r1.drewN n1)).mono ?_
          rintro e w' ⟨rfl, rfl⟩
          rw [hp.out]
          dsimp only [resI]
          go_wp2_with fail
          refine (error_any 0 0 (w.drewN n1) (hg.below (below_drewN (Below.refl _ w) n1))).mono ?_
          rintro e w1 ⟨rfl, b1⟩
          replace b1 := below_trans (below_drewN (Below.refl _ w) n1) b1
          go_wp2_with fail
          refine (hat.out w1 (r0.below b1)).mono ?_
          intro e w5 hpost
          obtain rfl := hpost.1 5 ha.out
          have b5 := below_trans b1 hpost.2.2
          clear hpost
          go_wp2_with fail
          refine (error_any 5 5 w5 (hg.below b5)).mono ?_
          rintro e w6 ⟨rfl, b6⟩
          replace b6 := below_trans b5 b6
          go_wp2_with fail
          refine (ints_any none none [] [] 0 0 0 0 w6 (Row.nil _ _) (Row.nil _ _) (Nat.zero_le _) (Nat.zero_le _) rfl rfl).mono ?_
          rintro e w7 ⟨rfl, nd, rfl⟩
          rw [decide_eq_true (rfl : ([] : List Int) = [])]
          go_wp2
          go_ret
          exact ⟨rfl, below_drewN b6 _⟩
        · by_cases hge : q ≤ p
          · have d0 : decide (p < 0) = false := decide_eq_false hlt
            have d1 : decide (q ≤ p) = true := decide_eq_true hge
            have ha := Lib.hid (show M.atp s p = .error 5 by rw [M.atp, hc]; exact if_pos (.inr hge))
            replace hlt := Lib.hid hlt
            replace hge := Lib.hid hge
            replace hc := Lib.hid hc
            go_enter Tryd.func8, Tryd.ntmps8
            go_wp2_with fail
            refine (fault_any p0 s _ c0 w r0 l0 rfl).mono ?_
            rintro e w' ⟨rfl, rfl⟩
            rw [hf.out]
            go_wp2_with fail
            refine (hinside.out w r0 r1).mono ?_
            rintro e w' ⟨rfl, n1, rfl⟩
            rw [hi.out]
            go_wp2_with fail
            refine (hwh.out _ (r0.drewN n1) (r1.drewN n1)).mono ?_
            rintro e w' ⟨rfl, rfl⟩
            go_wp2_with fail
            refine (hplace.out _ (r0.drewN n1) (r1.drewN n1)).mono ?_
            rintro e w' ⟨rfl, rfl⟩
            rw [hp.out]
            dsimp only [resI]
            go_wp2_with fail
            refine (error_any 0 0 (w.drewN n1) (hg.below (below_drewN (Below.refl _ w) n1))).mono ?_
            rintro e w1 ⟨rfl, b1⟩
            replace b1 := below_trans (below_drewN (Below.refl _ w) n1) b1
            go_wp2_with fail
            refine (hcells.out w1 (r0.below b1)).mono ?_
            rintro e w' ⟨rfl, rfl⟩
            go_wp2_with fail
            refine (hat.out w1 (r0.below b1)).mono ?_
            intro e w5 hpost
            obtain rfl := hpost.1 5 ha.out
            have b5 := below_trans b1 hpost.2.2
            clear hpost
            go_wp2_with fail
            refine (error_any 5 5 w5 (hg.below b5)).mono ?_
            rintro e w6 ⟨rfl, b6⟩
            replace b6 := below_trans b5 b6
            go_wp2_with fail
            refine (ints_any none none [] [] 0 0 0 0 w6 (Row.nil _ _) (Row.nil _ _) (Nat.zero_le _) (Nat.zero_le _) rfl rfl).mono ?_
            rintro e w7 ⟨rfl, nd, rfl⟩
            rw [decide_eq_true (rfl : ([] : List Int) = [])]
            go_wp2
            go_ret
            exact ⟨rfl, below_drewN b6 _⟩
          · have d0 : decide (p < 0) = false := decide_eq_false hlt
            have d1 : decide (q ≤ p) = false := decide_eq_false hge
            have ha := Lib.hid (show M.atp s p = .ok (M.coords s p).1 by rw [M.atp, hc]; exact if_neg (fun h => h.elim hlt hge))
            have hco := Lib.hid (fun w (h0 : Row w p0 s) => coords_any p0 s _ c0 q p w h0 hc (by omega) (by omega) rfl)
            have hcl := Lib.hid (show (M.coords s p).1.length ≤ maxLen by rw [coords_length]; exact l0)
            replace hlt := Lib.hid hlt
            replace hge := Lib.hid hge
            replace hc := Lib.hid hc
            go_enter Tryd.func8, Tryd.ntmps8
            go_wp2_with fail
            refine (fault_any p0 s _ c0 w r0 l0 rfl).mono ?_
            rintro e w' ⟨rfl, rfl⟩
            rw [hf.out]
            go_wp2_with fail
            refine (hinside.out w r0 r1).mono ?_
            rintro e w' ⟨rfl, n1, rfl⟩
            rw [hi.out]
            go_wp2_with fail
            refine (hwh.out _ (r0.drewN n1) (r1.drewN n1)).mono ?_
            rintro e w' ⟨rfl, rfl⟩
            go_wp2_with fail
            refine (hplace.out _ (r0.drewN n1) (r1.drewN n1)).mono ?_
            rintro e w' ⟨rfl, rfl⟩
            rw [hp.out]
            dsimp only [resI]
            go_wp2_with fail
            refine (error_any 0 0 (w.drewN n1) (hg.below (below_drewN (Below.refl _ w) n1))).mono ?_
            rintro e w1 ⟨rfl, b1⟩
            replace b1 := below_trans (below_drewN (Below.refl _ w) n1) b1
            go_wp2_with fail
            refine (hcells.out w1 (r0.below b1)).mono ?_
            rintro e w' ⟨rfl, rfl⟩
            go_wp2_with fail
            refine (hco.out w1 (r0.below b1)).mono ?_
            rintro e w4 ⟨v4, rfl, o4, b4⟩
            obtain ⟨a4, k4, rfl, _, _, q4⟩ := o4.view
            replace b4 := below_trans b1 b4
            clear o4
            go_wp2_with fail
            refine (hat.out w4 (r0.below b4)).mono ?_
            intro e w5 hpost
            obtain ⟨v5, rfl, o5⟩ := hpost.2.1 _ ha.out
            have b45 := hpost.2.2
            clear hpost
            obtain ⟨a5, k5, rfl, _, _, q5⟩ := o5.view
            replace q4 := q4.below b45
            have b5 := below_trans b4 b45
            clear b45 o5
            go_wp2_with fail
            refine (error_any 0 0 w5 (hg.below b5)).mono ?_
            rintro e w6 ⟨rfl, b6⟩
            replace q4 := q4.below b6
            replace q5 := q5.below b6
            replace b6 := below_trans b5 b6
            go_wp2_with fail
            refine (ints_any a5 a4 _ _ _ _ k5 k4 w6 q5 q4 hcl.out hcl.out rfl rfl).mono ?_
            rintro e w7 ⟨rfl, nd, rfl⟩
            rw [decide_eq_true rfl]
            go_wp2
            go_ret
            exact ⟨rfl, below_drewN b6 _⟩
    · have hp := Lib.hid (show M.place s t = .error 3 by rw [M.place, hc]; exact if_pos hl)
      have d2 : (((t.length : Nat) : Int) != ((s.length : Nat) : Int)) = true := by rw [bne_iff_ne]; omega
      replace hl := Lib.hid hl
      by_cases hlt : p < 0
      · have d0 : decide (p < 0) = true := decide_eq_true hlt
        have ha := Lib.hid (show M.atp s p = .error 5 by rw [M.atp, hc]; exact if_pos (.inl hlt))
        replace hlt := Lib.hid hlt
        replace hc := Lib.hid hc
        go_enter Tryd.func8, Tryd.ntmps8
        go_wp2_with fail
        refine (fault_any p0 s _ c0 w r0 l0 rfl).mono ?_
        rintro e w' ⟨rfl, rfl⟩
        rw [hf.out]
        go_wp2_with fail
        refine (hplace.out w r0 r1).mono ?_
        rintro e w' ⟨rfl, rfl⟩
        rw [hp.out]
        dsimp only [resI]
        go_wp2_with fail
        refine (error_any 3 3 w hg).mono ?_
        rintro e w1 ⟨rfl, b1⟩
        go_wp2_with fail
        refine (hat.out w1 (r0.below b1)).mono ?_
        intro e w5 hpost
        obtain rfl := hpost.1 5 ha.out
        have b5 := below_trans b1 hpost.2.2
        clear hpost
        go_wp2_with fail
        refine (error_any 5 5 w5 (hg.below b5)).mono ?_
        rintro e w6 ⟨rfl, b6⟩
        replace b6 := below_trans b5 b6
        go_wp2_with fail
        refine (ints_any none none [] [] 0 0 0 0 w6 (Row.nil _ _) (Row.nil _ _) (Nat.zero_le _) (Nat.zero_le _) rfl rfl).mono ?_
        rintro e w7 ⟨rfl, nd, rfl⟩
        rw [decide_eq_true (rfl : ([] : List Int) = [])]
        go_wp2
        go_ret
        exact ⟨rfl, below_drewN b6 _⟩
      · by_cases hge : q ≤ p
        · have d0 : decide (p < 0) = false := decide_eq_false hlt
          have d1 : decide (q ≤ p) = true := decide_eq_true hge
          have ha := Lib.hid (show M.atp s p = .error 5 by rw [M.atp, hc]; exact if_pos (.inr hge))
          replace hlt := Lib.hid hlt
          replace hge := Lib.hid hge
          replace hc := Lib.hid hc
          go_enter Tryd.func8, Tryd.ntmps8
          go_wp2_with fail
          refine (fault_any p0 s _ c0 w r0 l0 rfl).mono ?_
          rintro e w' ⟨rfl, rfl⟩
          rw [hf.out]
          go_wp2_with fail
          refine (hplace.out w r0 r1).mono ?_
          rintro e w' ⟨rfl, rfl⟩
          rw [hp.out]
          dsimp only [resI]
          go_wp2_with fail
          refine (error_any 3 3 w hg).mono ?_
          rintro e w1 ⟨rfl, b1⟩
          go_wp2_with fail
          refine (hcells.out w1 (r0.below b1)).mono ?_
          rintro e w' ⟨rfl, rfl⟩
          go_wp2_with fail
          refine (hat.out w1 (r0.below b1)).mono ?_
          intro e w5 hpost
          obtain rfl := hpost.1 5 ha.out
          have b5 := below_trans b1 hpost.2.2
          clear hpost
          go_wp2_with fail
          refine (error_any 5 5 w5 (hg.below b5)).mono ?_
          rintro e w6 ⟨rfl, b6⟩
          replace b6 := below_trans b5 b6
          go_wp2_with fail
          refine (ints_any none none [] [] 0 0 0 0 w6 (Row.nil _ _) (Row.nil _ _) (Nat.zero_le _) (Nat.zero_le _) rfl rfl).mono ?_
          rintro e w7 ⟨rfl, nd, rfl⟩
          rw [decide_eq_true (rfl : ([] : List Int) = [])]
          go_wp2
          go_ret
          exact ⟨rfl, below_drewN b6 _⟩
        · have d0 : decide (p < 0) = false := decide_eq_false hlt
          have d1 : decide (q ≤ p) = false := decide_eq_false hge
          have ha := Lib.hid (show M.atp s p = .ok (M.coords s p).1 by rw [M.atp, hc]; exact if_neg (fun h => h.elim hlt hge))
          have hco := Lib.hid (fun w (h0 : Row w p0 s) => coords_any p0 s _ c0 q p w h0 hc (by omega) (by omega) rfl)
          have hcl := Lib.hid (show (M.coords s p).1.length ≤ maxLen by rw [coords_length]; exact l0)
          replace hlt := Lib.hid hlt
          replace hge := Lib.hid hge
          replace hc := Lib.hid hc
          go_enter Tryd.func8, Tryd.ntmps8
          go_wp2_with fail
          refine (fault_any p0 s _ c0 w r0 l0 rfl).mono ?_
          rintro e w' ⟨rfl, rfl⟩
          rw [hf.out]
          go_wp2_with fail
          refine (hplace.out w r0 r1).mono ?_
          rintro e w' ⟨rfl, rfl⟩
          rw [hp.out]
          dsimp only [resI]
          go_wp2_with fail
          refine (error_any 3 3 w hg).mono ?_
          rintro e w1 ⟨rfl, b1⟩
          go_wp2_with fail
          refine (hcells.out w1 (r0.below b1)).mono ?_
          rintro e w' ⟨rfl, rfl⟩
          go_wp2_with fail
          refine (hco.out w1 (r0.below b1)).mono ?_
          rintro e w4 ⟨v4, rfl, o4, b4⟩
          obtain ⟨a4, k4, rfl, _, _, q4⟩ := o4.view
          replace b4 := below_trans b1 b4
          clear o4
          go_wp2_with fail
          refine (hat.out w4 (r0.below b4)).mono ?_
          intro e w5 hpost
          obtain ⟨v5, rfl, o5⟩ := hpost.2.1 _ ha.out
          have b45 := hpost.2.2
          clear hpost
          obtain ⟨a5, k5, rfl, _, _, q5⟩ := o5.view
          replace q4 := q4.below b45
          have b5 := below_trans b4 b45
          clear b45 o5
          go_wp2_with fail
          refine (error_any 0 0 w5 (hg.below b5)).mono ?_
          rintro e w6 ⟨rfl, b6⟩
          replace q4 := q4.below b6
          replace q5 := q5.below b6
          replace b6 := below_trans b5 b6
          go_wp2_with fail
          refine (ints_any a5 a4 _ _ _ _ k5 k4 w6 q5 q4 hcl.out hcl.out rfl rfl).mono ?_
          rintro e w7 ⟨rfl, nd, rfl⟩
          rw [decide_eq_true rfl]
          go_wp2
          go_ret
          exact ⟨rfl, below_drewN b6 _⟩

end Go.Proofs.YtldhklbpmfckcaaDoor
