/- The calls prod.known, prod.check, prod.compares and the two closures of prod.between. Condition: rows that lie as lists of ints. -/
import Derived.Test.YtfnoalbnkbifmaaTwo2
import Derived.Test.YtfnoalbnkbifmaaWkArr
import Derived.Test.YtfnoalbnkbifmaaBdB
import Derived.Test.YtfnoalbnkbifmaaWkCell
namespace Go.Proofs.Ytfnoalbnkbifmaa
open Go.RowKit

set_option maxHeartbeats 4000000 in
theorem known2_any (f g : Int) (b : Nat) (w : World) (c0 : w.cell? ⟨b, 0, none⟩ = some (.int .i64 f)) (c1 : w.cell? ⟨b, 1, none⟩ = some (.int .i64 g)) :
    Calls Try.prog 15 #[.slice (some ⟨b, 0, none⟩) 2 2] w fun e w' => e = .returned (errV (M.unk f g)) ∧ ∃ n, w' = w.drewN n := by
  have k0 := fun f W => cellTwo_any f 0 1 W (by unfold I64; omega) (by unfold I64; omega)
  replace k0 := Lib.hid k0
  go_enter Try.func15, Try.ntmps15
  go_wp2
  go_loopw [9] (fun i wr => ((i = .int .i64 0) ∨ (i = .int .i64 1 ∧ M.fn2 f = true) ∨ (i = .int .i64 2 ∧ M.fn2 f = true ∧ M.fn2 g = true)) ∧ ∃ n, wr = w.drewN n) (fun i _ => 2 - (intOf i).toNat)
  case atStart => exact ⟨.inl rfl, 0, rfl⟩
  case round =>
    obtain ⟨hcase, n, rfl⟩ := hrel
    rcases hcase with rfl | ⟨rfl, h1⟩ | ⟨rfl, h1, h2⟩
    · by_cases hf : M.fn2 f = true
      · skip
        obtain ⟨v, hv⟩ := two_known hf
        replace hf := Lib.hid hf
        replace hv := Lib.hid hv
        go_wp2_with fail
        refine (k0.out f (w.drewN n)).mono ?_
        rw [hv.out]
        rintro e w1 ⟨rfl, m, rfl⟩
        dsimp only [resI]
        go_wp2
        go_roundw
        case rel => exact ⟨.inr (.inl ⟨by go_num, hf.out⟩), _, rfl⟩
        case measure => simp [intOf]
      · replace hf := Bool.eq_false_iff.2 hf
        have hv := two_unknown hf 0 1
        replace hf := Lib.hid hf
        replace hv := Lib.hid hv
        go_wp2_with fail
        refine (k0.out f (w.drewN n)).mono ?_
        rw [hv.out]
        rintro e w1 ⟨rfl, m, rfl⟩
        dsimp only [resI]
        go_wp2
        go_ret
        exact ⟨by rw [show M.unk f g = 1 by unfold M.unk; rw [hf.out]; rfl]; rfl, _, rfl⟩
    · by_cases hf : M.fn2 g = true
      · skip
        obtain ⟨v, hv⟩ := two_known hf
        replace hf := Lib.hid hf
        replace hv := Lib.hid hv
        replace h1 := Lib.hid h1
        go_wp2_with fail
        refine (k0.out g (w.drewN n)).mono ?_
        rw [hv.out]
        rintro e w1 ⟨rfl, m, rfl⟩
        dsimp only [resI]
        go_wp2
        go_roundw
        case rel => exact ⟨.inr (.inr ⟨by go_num, h1.out, hf.out⟩), _, rfl⟩
        case measure => simp [intOf]
      · replace hf := Bool.eq_false_iff.2 hf
        have hv := two_unknown hf 0 1
        replace hf := Lib.hid hf
        replace hv := Lib.hid hv
        replace h1 := Lib.hid h1
        go_wp2_with fail
        refine (k0.out g (w.drewN n)).mono ?_
        rw [hv.out]
        rintro e w1 ⟨rfl, m, rfl⟩
        dsimp only [resI]
        go_wp2
        go_ret
        exact ⟨by rw [show M.unk f g = 1 by unfold M.unk; rw [h1.out, hf.out]; rfl]; rfl, _, rfl⟩
    · replace h1 := Lib.hid h1
      replace h2 := Lib.hid h2
      go_wp2
      go_ret
      exact ⟨by rw [show M.unk f g = 0 by unfold M.unk; rw [h1.out, h2.out]; rfl]; rfl, _, rfl⟩

set_option maxHeartbeats 1000000 in
theorem pcheck_any (ch ch' : Bool) (a b a' b' : Option Addr) (s d s' d' : List Int) (m c n z m' c' n' z' : Nat) (w : World) (hs : Row w a s) (hd : Row w b d) (ls : s.length ≤ maxLen) (ld : d.length ≤ maxLen) (em : m = s.length) (en : n = d.length)
    (hs' : Row w a' s') (hd' : Row w b' d') (ls' : s'.length ≤ maxLen) (ld' : d'.length ≤ maxLen) (em' : m' = s'.length) (en' : n' = d'.length) :
    Calls Try.prog 16 #[arrV ch a m c b n z, arrV ch' a' m' c' b' n' z'] w fun e w' => e = .returned (errV (M.flaws ⟨ch, s, d⟩ ⟨ch', s', d'⟩)) ∧ Below w.heap.size w w' := by
  subst em
  subst en
  subst em'
  subst en'
  have E := ((((((Env.start w).addRow hd').addRow hs').addRow hd).addRow hs).box ch a s.length c b d.length z).box ch' a' s'.length c' b' d'.length z'
  rw [World.size_alloc] at E
  have k1 := fun w h1 h2 => check_any ch a b s d _ c _ z w h1 h2 ls ld rfl rfl
  have k2 := fun w h1 h2 => check_any ch' a' b' s' d' _ c' _ z' w h1 h2 ls' ld' rfl rfl
  replace k1 := Lib.hid k1
  replace k2 := Lib.hid k2
  by_cases hf : M.flaw ch s d = 0
  · have hr := Lib.hid (show M.flaws ⟨ch, s, d⟩ ⟨ch', s', d'⟩ = M.flaw ch' s' d' from if_pos hf)
    replace hf := Lib.hid hf
    go_enter Try.func16, Try.ntmps16
    go_wp2_with fail
    refine (k1.out _ (E.getRow 2 rfl) (E.getRow 3 rfl)).mono ?_
    rw [hf.out, errV_zero]
    rintro e w2 ⟨rfl, hb⟩
    replace E := E.step hb
    clear hb
    obtain ⟨⟨u0, u1, u2⟩, -, -, -⟩ := E.getBox 0 rfl
    go_wp2_with fail
    refine (k2.out _ (E.getRow 4 rfl) (E.getRow 5 rfl)).mono ?_
    rintro e w3 ⟨rfl, hb⟩
    go_wp2
    go_ret
    exact ⟨by rw [hr.out]; rfl, (E.step hb).bel⟩
  · have hr := Lib.hid (show M.flaws ⟨ch, s, d⟩ ⟨ch', s', d'⟩ = M.flaw ch s d from if_neg hf)
    have hv := Lib.hid (errV_ne hf)
    replace hf := Lib.hid hf
    go_enter Try.func16, Try.ntmps16
    go_wp2_with fail
    refine (k1.out _ (E.getRow 2 rfl) (E.getRow 3 rfl)).mono ?_
    rw [hv.out]
    rintro e w2 ⟨rfl, hb⟩
    go_wp2
    go_ret
    exact ⟨by rw [hr.out, hv.out]; rfl, (E.step hb).bel⟩

set_option maxHeartbeats 1000000 in
theorem compares_any (f : Int) (w : World) : Calls Try.prog 18 #[.int .i64 f] w fun e w' => e = .returned (.bool (M.cmp f)) ∧ w = w' := by
  cases h1 : (f == 8) with
  | true =>
    have hr := Lib.hid (show M.cmp f = true by unfold M.cmp; rw [h1]; rfl)
    go_enter Try.func18, Try.ntmps18
    go_wp2
    go_ret
    exact ⟨by rw [hr.out]; rfl, rfl⟩
  | false =>
    have hr := Lib.hid (show M.cmp f = (f == 9) by unfold M.cmp; rw [h1]; rfl)
    go_enter Try.func18, Try.ntmps18
    go_wp2
    go_ret
    exact ⟨by rw [hr.out]; rfl, rfl⟩

set_option maxHeartbeats 1000000 in
theorem betw1_any (g a b : Int) (B : Nat) (w : World) (hc : w.cell? ⟨B, 0, none⟩ = some (.int .i64 g)) (ha : I64 a) (hb : I64 b) :
    Calls Try.prog 35 #[.int .i64 a, .int .i64 b, .pointer (some ⟨B, 0, none⟩)] w fun e w' => e = .returned (resI (M.two g a b)) ∧ ∃ n, w' = w.drewN n := by
  have k := cellTwo_any g a b w ha hb
  cases hq : M.two g a b with
  | ok v =>
    rw [hq] at k
    replace hq := Lib.hid hq
    replace k := Lib.hid k
    go_enter Try.func35, Try.ntmps35
    go_wp2_with fail
    refine k.out.mono ?_
    rintro e w1 ⟨rfl, n, rfl⟩
    dsimp only [resI]
    go_wp2
    go_ret2
    exact ⟨rfl, _, rfl⟩
  | error v =>
    rw [hq] at k
    replace hq := Lib.hid hq
    replace k := Lib.hid k
    go_enter Try.func35, Try.ntmps35
    go_wp2_with fail
    refine k.out.mono ?_
    rintro e w1 ⟨rfl, n, rfl⟩
    dsimp only [resI]
    go_wp2
    go_ret2
    exact ⟨rfl, _, rfl⟩
set_option maxHeartbeats 1000000 in
theorem betw2_any (v a b : Int) (B : Nat) (w : World) (hc : w.cell? ⟨B, 0, none⟩ = some (.int .i64 v)) :
    Calls Try.prog 36 #[.int .i64 a, .int .i64 b, .pointer (some ⟨B, 0, none⟩)] w fun e w' => e = .returned (resI (.ok v)) ∧ w = w' := by
  go_enter Try.func36, Try.ntmps36
  go_wp2
  go_ret2
  exact ⟨rfl, rfl⟩

end Go.Proofs.Ytfnoalbnkbifmaa
