/- The document's SquareFault; the statements' helpers is and ints. Condition: rows that lie as lists of ints; the library's one variable is laid where an error is told. -/
import Derived.Test.YtcenhemlgapkeaaDoorBdZ
import Derived.Test.YtcenhemlgapkeaaDoorRefArr
import Derived.Test.YtcenhemlgapkeaaDoorBdQ
import Derived.Test.YtcenhemlgapkeaaDoorBdU
import Derived.Test.YtcenhemlgapkeaaDoorBdE
import Derived.Deep.QuietTactic
import Derived.BigQuiet
namespace Go.Proofs.YtcenhemlgapkeaaDoor
open Go.RowKit

set_option maxHeartbeats 4000000 in
theorem sqFault_any (most : Nat) (hm : most ≤ 64) (ch : Bool) (a b : Option Addr) (s d : List Int) (m c n z : Nat) (w : World) (hs : Row w a s) (hd : Row w b d) (ls : s.length ≤ maxLen) (ld : d.length ≤ maxLen) (em : m = s.length) (en : n = d.length) :
    Calls Tryd.prog 19 #[arrV ch a m c b n z, .int .i64 (most : Int)] w fun e w' => e = .returned (.int .i64 (M.sqFault ⟨ch, s, d⟩ most)) ∧ Below w.heap.size w w' := by
  subst em
  subst en
  have kf := fun w h1 h2 => refFlaw_any ch a b s d _ c _ z w h1 h2 ls ld rfl rfl
  have E := (((Env.start w).addRow hd).addRow hs).box ch a s.length c b d.length z
  replace kf := Lib.hid kf
  go_enter Tryd.func19, Tryd.ntmps19
  go_wp2_with fail
  refine (kf.out _ (E.getRow 1 rfl) (E.getRow 2 rfl)).mono ?_
  rintro e w1 ⟨rfl, hb⟩
  replace E := E.step hb
  clear hb kf
  have hr0 : M.sqFault ⟨ch, s, d⟩ most = if M.flaw ch s d ≠ 0 then M.flaw ch s d else if s.length ≠ 2 then 3 else if s.getD 0 0 ≠ s.getD 1 0 then 4 else if (most : Int) < s.getD 0 0 then 7 else if ch = true then 6 else 0 := rfl
  by_cases hf : M.flaw ch s d = 0
  case neg =>
    rw [if_pos hf] at hr0
    have hz : (M.flaw ch s d != 0) = true := by rw [bne_iff_ne]; exact hf
    generalize M.flaw ch s d = nn at *
    replace hr0 := Lib.hid hr0
    replace hf := Lib.hid hf
    go_wp2
    go_ret
    exact ⟨by rw [hr0.out]; rfl, E.bel⟩
  rw [if_neg (fun h => h hf)] at hr0
  rw [hf]
  have hfl := Lib.hid hf
  clear hf
  obtain ⟨⟨u0, u1, u2⟩, -, -, -⟩ := E.getBox 0 rfl
  have hbel := E.bel
  have hS := E.getRow 1 rfl
  clear E
  by_cases hl : s.length = 2
  case neg =>
    rw [if_pos hl] at hr0
    have hb2 : (((s.length : Nat) : Int) != 2) = true := by rw [bne_iff_ne]; omega
    replace hl := Lib.hid hl
    replace hr0 := Lib.hid hr0
    go_wp2
    go_ret
    exact ⟨by rw [hr0.out]; rfl, hbel⟩
  rw [if_neg (fun h => h hl)] at hr0
  obtain ⟨x, y, rfl⟩ : ∃ x y, s = [x, y] := by
    match s, hl with
    | [x, y], _ => exact ⟨x, y, rfl⟩
  obtain ⟨bs, os, rfl, hc0⟩ := hS 0 (by simp)
  obtain ⟨bs', os', e, hc1⟩ := hS 1 (by simp)
  cases e
  simp only [List.getD_cons_zero, List.getD_cons_succ, Nat.add_zero, List.length_cons, List.length_nil, Nat.zero_add, Nat.reduceAdd] at hc0 hc1 hr0 u1 ⊢
  clear hl
  by_cases hxy : x = y
  case neg =>
    rw [if_pos hxy] at hr0
    have hb2 : (x != y) = true := by rw [bne_iff_ne]; exact hxy
    replace hxy := Lib.hid hxy
    replace hr0 := Lib.hid hr0
    go_wp2
    go_quiet (fail)
    go_wp2
    go_ret
    exact ⟨by rw [hr0.out]; rfl, below_drewN hbel _⟩
  subst hxy
  rw [if_neg (fun h => h rfl)] at hr0
  have hxx : (x != x) = false := by rw [bne_eq_false_iff_eq]
  by_cases hg : (most : Int) < x
  case pos =>
    rw [if_pos hg] at hr0
    have hb2 : decide ((most : Int) < x) = true := decide_eq_true hg
    replace hg := Lib.hid hg
    replace hr0 := Lib.hid hr0
    go_wp2
    go_quiet (fail)
    go_wp2
    go_ret
    exact ⟨by rw [hr0.out]; rfl, below_drewN hbel _⟩
  rw [if_neg hg] at hr0
  have hb2 : decide ((most : Int) < x) = false := decide_eq_false hg
  replace hg := Lib.hid hg
  cases ch with
  | true =>
    replace hr0 := Lib.hid (hr0.trans (if_pos rfl))
    go_wp2
    go_quiet (fail)
    go_wp2
    go_ret
    exact ⟨by rw [hr0.out]; rfl, below_drewN hbel _⟩
  | false =>
    replace hr0 := Lib.hid (hr0.trans (if_neg (by simp)))
    go_wp2
    go_quiet (fail)
    go_wp2
    go_ret
    exact ⟨by rw [hr0.out]; rfl, below_drewN hbel _⟩

set_option maxHeartbeats 1000000 in
theorem isL_any (ch ch' : Bool) (a b a' b' : Option Addr) (s d s' d' : List Int) (m c n z m' c' n' z' : Nat) (p q : Int) (w : World) (hg : Laid w) (hs : Row w a s) (hd : Row w b d) (ls : s.length ≤ maxLen) (ld : d.length ≤ maxLen) (em : m = s.length) (en : n = d.length)
    (hs' : Row w a' s') (hd' : Row w b' d') (ls' : s'.length ≤ maxLen) (ld' : d'.length ≤ maxLen) (em' : m' = s'.length) (en' : n' = d'.length) (h : (p == q) = true ∧ decide ((⟨ch, s, d⟩ : Arr) = ⟨ch', s', d'⟩) = true) :
    Calls Tryd.prog 23 #[arrV ch a m c b n z, errV p, arrV ch' a' m' c' b' n' z', .int .i64 q] w fun e w' => e = .returned (.bool true) ∧ Below w.heap.size w w' := by
  subst em
  subst en
  subst em'
  subst en'
  have E := ((((((Env.start w).add (f := laidF) hg).addRow hd').addRow hs').addRow hd).addRow hs).box ch a s.length c b d.length z |>.box ch' a' s'.length c' b' d'.length z'
  simp only [World.size_alloc] at E
  have ka := fun w h1 h2 h3 h4 => array_any ch ch' a b a' b' s d s' d' _ c _ z _ c' _ z' w h1 h2 ls ld rfl rfl h3 h4 ls' ld' rfl rfl
  have ke := fun w h => error_any p q w h
  rw [h.1] at ke
  rw [h.2] at ka
  replace ka := Lib.hid ka
  replace ke := Lib.hid ke
  clear h
  generalize errV p = ep at *
  go_enter Tryd.func23, Tryd.ntmps23
  go_wp2_with fail
  refine (ke.out _ (E.laid 6 rfl)).mono ?_
  rintro e w1 ⟨rfl, hb⟩
  replace E := E.step hb
  obtain ⟨⟨u0, u1, u2⟩, -, -, -⟩ := E.getBox 0 rfl
  obtain ⟨⟨v0, v1, v2⟩, -, -, -⟩ := E.getBox 1 rfl
  go_wp2_with fail
  refine (ka.out _ (E.getRow 2 rfl) (E.getRow 3 rfl) (E.getRow 4 rfl) (E.getRow 5 rfl)).mono ?_
  rintro e w2 ⟨rfl, hb⟩
  replace E := E.step hb
  go_wp2
  go_ret
  exact ⟨rfl, E.bel⟩

set_option maxHeartbeats 1000000 in
theorem intsL_any (a b : Option Addr) (s t : List Int) (m n c d : Nat) (p q : Int) (w : World) (hg : Laid w) (hs : Row w a s) (ht : Row w b t) (hm : s.length ≤ maxLen) (hn : t.length ≤ maxLen) (em : m = s.length) (en : n = t.length) (h : (p == q) = true ∧ decide (s = t) = true) :
    Calls Tryd.prog 28 #[.slice a m c, errV p, .slice b n d, .int .i64 q] w fun e w' => e = .returned (.bool true) ∧ Below w.heap.size w w' := by
  subst em
  subst en
  have E := (((Env.start w).add (f := laidF) hg).addRow ht).addRow hs
  have ka := fun w h1 h2 => ints_any a b s t _ _ c d w h1 h2 hm hn rfl rfl
  have ke := fun w h => error_any p q w h
  rw [h.1] at ke
  rw [h.2] at ka
  replace ka := Lib.hid ka
  replace ke := Lib.hid ke
  clear h
  generalize errV p = ep at *
  go_enter Tryd.func28, Tryd.ntmps28
  go_wp2_with fail
  refine (ke.out _ (E.laid 2 rfl)).mono ?_
  rintro e w1 ⟨rfl, hb⟩
  replace E := E.step hb
  go_wp2_with fail
  refine (ka.out _ (E.getRow 0 rfl) (E.getRow 1 rfl)).mono ?_
  rintro e w2 ⟨rfl, n2, hw⟩
  replace E := E.drew n2
  rw [← hw] at E
  replace hw := Lib.hid hw
  go_wp2
  go_ret
  exact ⟨rfl, E.bel⟩
end Go.Proofs.YtcenhemlgapkeaaDoor
