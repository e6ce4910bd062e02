/- Texts that lie in one file: what is plain, rows, boxes, squares, and what is known of a world. No condition. -/
import Derived.Test.YtaplaoelamnoiaaGreatDoorBg02
import Derived.Test.YtaplaoelamnoiaaGreatDoorBg01
import Derived.Test.YtaplaoelamnoiaaGreatDoorBg04
/- The statements' helper Array: are two arrays the same? Condition: rows that lie as lists of ints. -/
namespace Go.Proofs.YtaplaoelamnoiaaGreatDoor
open Go.RowKit

set_option maxHeartbeats 1000000 in
theorem array_any (ch ch' : Bool) (a b a' b' : Option Addr) (s d s' d' : List Int) (m c n z m' c' n' z' : Nat) (w : World) (hs : Row w a s) (hd : Row w b d) (ls : s.length ≤ maxLen) (ld : d.length ≤ maxLen) (em : m = s.length) (en : n = d.length)
    (hs' : Row w a' s') (hd' : Row w b' d') (ls' : s'.length ≤ maxLen) (ld' : d'.length ≤ maxLen) (em' : m' = s'.length) (en' : n' = d'.length) :
    Calls Tryz.prog 17 #[arrV ch a m c b n z, arrV ch' a' m' c' b' n' z'] w fun e w' => e = .returned (.bool (decide ((⟨ch, s, d⟩ : Arr) = ⟨ch', s', d'⟩))) ∧ Below w.heap.size w w' := by
  subst em
  subst en
  subst em'
  subst en'
  have bel0 : Below w.heap.size w ((w.alloc (.cells #[.bool ch, .slice a s.length c, .slice b d.length z] 24)).alloc (.cells #[.bool ch', .slice a' s'.length c', .slice b' d'.length z'] 24)) := push (push (start w) _) _
  rw [arr_eq]
  dsimp only
  by_cases hc : ch = ch'
  · have hcd := Lib.hid (decide_eq_true hc)
    have hbc : (ch == ch') = true := by simpa using hc
    clear hc
    go_enter Tryz.func17, Tryz.ntmps17
    go_wp2_with fail
    refine (ints_any a a' s s' _ _ c c' _ (hs.below bel0) (hs'.below bel0) ls ls' rfl rfl).mono ?_
    rintro e w4 ⟨rfl, n4, rfl⟩
    have b4 := below_drewN bel0 n4
    cases hss : decide (s = s') with
    | true =>
      replace hss := Lib.hid hss
      go_wp2_with fail
      refine (ints_any b b' d d' _ _ z z' _ (hd.below b4) (hd'.below b4) ld ld' rfl rfl).mono ?_
      rintro e w5 ⟨rfl, n5, rfl⟩
      have b5 := below_drewN bel0 (n4 + n5)
      cases hdd : decide (d = d') with
      | true =>
        replace hdd := Lib.hid hdd
        go_wp2
        go_ret
        exact ⟨by rw [hcd.out, hss.out, hdd.out]; rfl, b5⟩
      | false =>
        replace hdd := Lib.hid hdd
        go_wp2
        go_ret
        exact ⟨by rw [hcd.out, hss.out, hdd.out]; rfl, b5⟩
    | false =>
      replace hss := Lib.hid hss
      go_wp2_with fail
      refine (ints_any b b' d d' _ _ z z' _ (hd.below b4) (hd'.below b4) ld ld' rfl rfl).mono ?_
      rintro e w5 ⟨rfl, n5, rfl⟩
      have b5 := below_drewN bel0 (n4 + n5)
      cases hdd : decide (d = d') with
      | true =>
        replace hdd := Lib.hid hdd
        go_wp2
        go_ret
        exact ⟨by rw [hcd.out, hss.out, hdd.out]; rfl, b5⟩
      | false =>
        replace hdd := Lib.hid hdd
        go_wp2
        go_ret
        exact ⟨by rw [hcd.out, hss.out, hdd.out]; rfl, b5⟩
  · have hbc : (ch == ch') = false := by simpa using hc
    have hcd := Lib.hid (decide_eq_false hc)
    clear hc
    go_enter Tryz.func17, Tryz.ntmps17
    go_wp2
    go_ret
    exact ⟨by rw [hcd.out]; rfl, bel0⟩

end Go.Proofs.YtaplaoelamnoiaaGreatDoor

/- The calls prod.known, prod.check, prod.compares and the two closures of prod.between. Condition: rows that lie as lists of ints. -/
namespace Go.Proofs.YtaplaoelamnoiaaGreatDoor
open Go.RowKit

set_option maxHeartbeats 4000000 in
theorem known2_any (f g : Int) (b : Nat) (w : World) (c0 : w.cell? ⟨b, 0, none⟩ = some (.int .i64 f)) (c1 : w.cell? ⟨b, 1, none⟩ = some (.int .i64 g)) :
    Calls Tryz.prog 133 #[.slice (some ⟨b, 0, none⟩) 2 2] w fun e w' => e = .returned (errV (M.unk f g)) ∧ ∃ n, w' = w.drewN n := by
  have k0 := fun f W => cellTwo_any f 0 1 W (by unfold I64; omega) (by unfold I64; omega)
  replace k0 := Lib.hid k0
  go_enter Tryz.func133, Tryz.ntmps133
  go_wp2
  go_loopw [9] (fun i wr => ((i = .int .i64 0) ∨ (i = .int .i64 1 ∧ M.fn2 f = true) ∨ (i = .int .i64 2 ∧ M.fn2 f = true ∧ M.fn2 g = true)) ∧ ∃ n, wr = w.drewN n) (fun i _ => 2 - (intOf i).toNat)
  case atStart => exact ⟨.inl rfl, 0, rfl⟩
  case round =>
    obtain ⟨hcase, n, rfl⟩ := hrel
    rcases hcase with rfl | ⟨rfl, h1⟩ | ⟨rfl, h1, h2⟩
    · by_cases hf : M.fn2 f = true
      · skip
        obtain ⟨v, hv⟩ := two_known hf
        replace hf := Lib.hid hf
        replace hv := Lib.hid hv
        go_wp2_with fail
        refine (k0.out f (w.drewN n)).mono ?_
        rw [hv.out]
        rintro e w1 ⟨rfl, m, rfl⟩
        dsimp only [resI]
        go_wp2
        go_roundw
        case rel => exact ⟨.inr (.inl ⟨by go_num, hf.out⟩), _, rfl⟩
        case measure => simp [intOf]
      · replace hf := Bool.eq_false_iff.2 hf
        have hv := two_unknown hf 0 1
        replace hf := Lib.hid hf
        replace hv := Lib.hid hv
        go_wp2_with fail
        refine (k0.out f (w.drewN n)).mono ?_
        rw [hv.out]
        rintro e w1 ⟨rfl, m, rfl⟩
        dsimp only [resI]
        go_wp2
        go_ret
        exact ⟨by rw [show M.unk f g = 1 by unfold M.unk; rw [hf.out]; rfl]; rfl, _, rfl⟩
    · by_cases hf : M.fn2 g = true
      · skip
        obtain ⟨v, hv⟩ := two_known hf
        replace hf := Lib.hid hf
        replace hv := Lib.hid hv
        replace h1 := Lib.hid h1
        go_wp2_with fail
        refine (k0.out g (w.drewN n)).mono ?_
        rw [hv.out]
        rintro e w1 ⟨rfl, m, rfl⟩
        dsimp only [resI]
        go_wp2
        go_roundw
        case rel => exact ⟨.inr (.inr ⟨by go_num, h1.out, hf.out⟩), _, rfl⟩
        case measure => simp [intOf]
      · replace hf := Bool.eq_false_iff.2 hf
        have hv := two_unknown hf 0 1
        replace hf := Lib.hid hf
        replace hv := Lib.hid hv
        replace h1 := Lib.hid h1
        go_wp2_with fail
        refine (k0.out g (w.drewN n)).mono ?_
        rw [hv.out]
        rintro e w1 ⟨rfl, m, rfl⟩
        dsimp only [resI]
        go_wp2
        go_ret
        exact ⟨by rw [show M.unk f g = 1 by unfold M.unk; rw [h1.out, hf.out]; rfl]; rfl, _, rfl⟩
    · replace h1 := Lib.hid h1
      replace h2 := Lib.hid h2
      go_wp2
      go_ret
      exact ⟨by rw [show M.unk f g = 0 by unfold M.unk; rw [h1.out, h2.out]; rfl]; rfl, _, rfl⟩

set_option maxHeartbeats 1000000 in
theorem pcheck_any (ch ch' : Bool) (a b a' b' : Option Addr) (s d s' d' : List Int) (m c n z m' c' n' z' : Nat) (w : World) (hs : Row w a s) (hd : Row w b d) (ls : s.length ≤ maxLen) (ld : d.length ≤ maxLen) (em : m = s.length) (en : n = d.length)
    (hs' : Row w a' s') (hd' : Row w b' d') (ls' : s'.length ≤ maxLen) (ld' : d'.length ≤ maxLen) (em' : m' = s'.length) (en' : n' = d'.length) :
    Calls Tryz.prog 134 #[arrV ch a m c b n z, arrV ch' a' m' c' b' n' z'] w fun e w' => e = .returned (errV (M.flaws ⟨ch, s, d⟩ ⟨ch', s', d'⟩)) ∧ Below w.heap.size w w' := by
  subst em
  subst en
  subst em'
  subst en'
  have E := ((((((Env.start w).addRow hd').addRow hs').addRow hd).addRow hs).box ch a s.length c b d.length z).box ch' a' s'.length c' b' d'.length z'
  rw [World.size_alloc] at E
  have k1 := fun w h1 h2 => check_any ch a b s d _ c _ z w h1 h2 ls ld rfl rfl
  have k2 := fun w h1 h2 => check_any ch' a' b' s' d' _ c' _ z' w h1 h2 ls' ld' rfl rfl
  replace k1 := Lib.hid k1
  replace k2 := Lib.hid k2
  by_cases hf : M.flaw ch s d = 0
  · have hr := Lib.hid (show M.flaws ⟨ch, s, d⟩ ⟨ch', s', d'⟩ = M.flaw ch' s' d' from if_pos hf)
    replace hf := Lib.hid hf
    go_enter Tryz.func134, Tryz.ntmps134
    go_wp2_with fail
    refine (k1.out _ (E.getRow 2 rfl) (E.getRow 3 rfl)).mono ?_
    rw [hf.out, errV_zero]
    rintro e w2 ⟨rfl, hb⟩
    replace E := E.step hb
    clear hb
    obtain ⟨⟨u0, u1, u2⟩, -, -, -⟩ := E.getBox 0 rfl
    go_wp2_with fail
    refine (k2.out _ (E.getRow 4 rfl) (E.getRow 5 rfl)).mono ?_
    rintro e w3 ⟨rfl, hb⟩
    go_wp2
    go_ret
    exact ⟨by rw [hr.out]; rfl, (E.step hb).bel⟩
  · have hr := Lib.hid (show M.flaws ⟨ch, s, d⟩ ⟨ch', s', d'⟩ = M.flaw ch s d from if_neg hf)
    have hv := Lib.hid (errV_ne hf)
    replace hf := Lib.hid hf
    go_enter Tryz.func134, Tryz.ntmps134
    go_wp2_with fail
    refine (k1.out _ (E.getRow 2 rfl) (E.getRow 3 rfl)).mono ?_
    rw [hv.out]
    rintro e w2 ⟨rfl, hb⟩
    go_wp2
    go_ret
    exact ⟨by rw [hr.out, hv.out]; rfl, (E.step hb).bel⟩

set_option maxHeartbeats 1000000 in
theorem compares_any (f : Int) (w : World) : Calls Tryz.prog 136 #[.int .i64 f] w fun e w' => e = .returned (.bool (M.cmp f)) ∧ w = w' := by
  cases h1 : (f == 8) with
  | true =>
    have hr := Lib.hid (show M.cmp f = true by unfold M.cmp; rw [h1]; rfl)
    go_enter Tryz.func136, Tryz.ntmps136
    go_wp2
    go_ret
    exact ⟨by rw [hr.out]; rfl, rfl⟩
  | false =>
    have hr := Lib.hid (show M.cmp f = (f == 9) by unfold M.cmp; rw [h1]; rfl)
    go_enter Tryz.func136, Tryz.ntmps136
    go_wp2
    go_ret
    exact ⟨by rw [hr.out]; rfl, rfl⟩

set_option maxHeartbeats 1000000 in
theorem betw1_any (g a b : Int) (B : Nat) (w : World) (hc : w.cell? ⟨B, 0, none⟩ = some (.int .i64 g)) (ha : I64 a) (hb : I64 b) :
    Calls Tryz.prog 190 #[.int .i64 a, .int .i64 b, .pointer (some ⟨B, 0, none⟩)] w fun e w' => e = .returned (resI (M.two g a b)) ∧ ∃ n, w' = w.drewN n := by
  have k := cellTwo_any g a b w ha hb
  cases hq : M.two g a b with
  | ok v =>
    rw [hq] at k
    replace hq := Lib.hid hq
    replace k := Lib.hid k
    go_enter Tryz.func190, Tryz.ntmps190
    go_wp2_with fail
    refine k.out.mono ?_
    rintro e w1 ⟨rfl, n, rfl⟩
    dsimp only [resI]
    go_wp2
    go_ret2
    exact ⟨rfl, _, rfl⟩
  | error v =>
    rw [hq] at k
    replace hq := Lib.hid hq
    replace k := Lib.hid k
    go_enter Tryz.func190, Tryz.ntmps190
    go_wp2_with fail
    refine k.out.mono ?_
    rintro e w1 ⟨rfl, n, rfl⟩
    dsimp only [resI]
    go_wp2
    go_ret2
    exact ⟨rfl, _, rfl⟩
set_option maxHeartbeats 1000000 in
theorem betw2_any (v a b : Int) (B : Nat) (w : World) (hc : w.cell? ⟨B, 0, none⟩ = some (.int .i64 v)) :
    Calls Tryz.prog 191 #[.int .i64 a, .int .i64 b, .pointer (some ⟨B, 0, none⟩)] w fun e w' => e = .returned (resI (.ok v)) ∧ w = w' := by
  go_enter Tryz.func191, Tryz.ntmps191
  go_wp2
  go_ret2
  exact ⟨rfl, rfl⟩

end Go.Proofs.YtaplaoelamnoiaaGreatDoor
