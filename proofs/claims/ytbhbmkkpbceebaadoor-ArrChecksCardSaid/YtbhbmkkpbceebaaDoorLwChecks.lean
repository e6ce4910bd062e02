/- The walk of the law ArrChecks: it returns true at all arrays. Condition: the library's one variable is laid. -/
import Derived.Test.YtbhbmkkpbceebaaDoorEnv
import Derived.Test.YtbhbmkkpbceebaaDoorRefArr
import Derived.Test.YtbhbmkkpbceebaaDoorWkVec
import Derived.Test.YtbhbmkkpbceebaaDoorWkRavel
import Derived.Test.YtbhbmkkpbceebaaDoorWkMatch
import Derived.Test.YtbhbmkkpbceebaaDoorTold
namespace Go.Proofs.YtbhbmkkpbceebaaDoor
open Go.RowKit

/-- The library's one variable, as a fact. -/
abbrev laidF : Fact := .word ⟨2, 0, none⟩ 106 (.agg #[.pointer (some ⟨3, 26, none⟩)])

theorem Env.laid {w0 w : World} {L : List Fact} (h : Env w0 w L) (i : Nat) (hi : L[i]? = some laidF) : Laid w := h.getWord i hi

namespace M
def flaws (x y : Arr) : Int := if flaw x.ch x.s x.d = 0 then flaw y.ch y.s y.d else flaw x.ch x.s x.d
end M

set_option maxHeartbeats 1000000 in
theorem refFlaws_any (ch ch' : Bool) (a b a' b' : Option Addr) (s d s' d' : List Int) (m c n z m' c' n' z' : Nat) (w : World) (hs : Row w a s) (hd : Row w b d) (ls : s.length ≤ maxLen) (ld : d.length ≤ maxLen) (em : m = s.length) (en : n = d.length)
    (hs' : Row w a' s') (hd' : Row w b' d') (ls' : s'.length ≤ maxLen) (ld' : d'.length ≤ maxLen) (em' : m' = s'.length) (en' : n' = d'.length) :
    Calls Tryd.prog 21 #[arrV ch a m c b n z, arrV ch' a' m' c' b' n' z'] w fun e w' => e = .returned (.int .i64 (M.flaws ⟨ch, s, d⟩ ⟨ch', s', d'⟩)) ∧ Below w.heap.size w w' := by
  subst em
  subst en
  subst em'
  subst en'
  have E := ((((Env.start w).addRow hd').addRow hs').box ch a s.length c b d.length z).box ch' a' s'.length c' b' d'.length z'
  go_enter Tryd.func21, Tryd.ntmps21
  go_wp2_with fail
  refine (refFlaw_any ch a b s d _ c _ z _ (hs.below E.bel) (hd.below E.bel) ls ld rfl rfl).mono ?_
  rintro e w2 ⟨rfl, hb⟩
  replace E := E.step hb
  clear hb
  rw [World.size_alloc] at E
  by_cases hf : M.flaw ch s d = 0
  · have hr := Lib.hid (show M.flaws ⟨ch, s, d⟩ ⟨ch', s', d'⟩ = M.flaw ch' s' d' from if_pos hf)
    rw [hf]
    replace hf := Lib.hid hf
    obtain ⟨⟨u0, u1, u2⟩, -, -, -⟩ := E.getBox 0 rfl
    go_wp2_with fail
    refine (refFlaw_any ch' a' b' s' d' _ c' _ z' _ (E.getRow 2 rfl) (E.getRow 3 rfl) ls' ld' rfl rfl).mono ?_
    rintro e w3 ⟨rfl, hb⟩
    go_wp2
    go_ret
    exact ⟨by rw [hr.out]; rfl, (E.step hb).bel⟩
  · have hr := Lib.hid (show M.flaws ⟨ch, s, d⟩ ⟨ch', s', d'⟩ = M.flaw ch s d from if_neg hf)
    have hz : (M.flaw ch s d == 0) = false := by rw [beq_eq_false_iff_ne]; exact hf
    replace hf := Lib.hid hf
    go_wp2
    go_ret
    exact ⟨by rw [hr.out]; rfl, E.bel⟩

theorem same_zero : decide ((⟨false, [], []⟩ : Arr) = ⟨false, [], []⟩) = true := rfl

set_option maxHeartbeats 4000000 in
theorem arrChecks_walk (b0 : Bool) (p0 q0 : Option Addr) (x0 y0 : List Int) (c0 d0 : Nat) (b1 : Bool) (p1 q1 : Option Addr) (x1 y1 : List Int) (c1 d1 : Nat) (w : World)
    (r0 : Row w p0 x0) (t0 : Row w q0 y0) (l0 : x0.length ≤ maxLen) (m0 : y0.length ≤ maxLen) (_ : All64 x0) (_ : All64 y0) (r1 : Row w p1 x1) (t1 : Row w q1 y1) (l1 : x1.length ≤ maxLen) (m1 : y1.length ≤ maxLen) (_ : All64 x1) (_ : All64 y1) (hg : Laid w) :
    Calls Tryd.prog 6 #[arrV b0 p0 x0.length c0 q0 y0.length d0, arrV b1 p1 x1.length c1 q1 y1.length d1] w fun e w' => e = .returned (.bool true) ∧ Below w.heap.size w w' := by
  have E := (((((((Env.start w).add (f := laidF) hg).addRow t1).addRow r1).addRow t0).addRow r0).box b0 p0 x0.length c0 q0 y0.length d0).box b1 p1 x1.length c1 q1 y1.length d1
  have hcheck := fun w h1 h2 => check_any b0 p0 q0 x0 y0 _ c0 _ d0 w h1 h2 l0 m0 rfl rfl
  have hmatch := fun w h1 h2 h3 h4 => match_any b0 b1 p0 q0 p1 q1 x0 y0 x1 y1 _ c0 _ d0 _ c1 _ d1 w h1 h2 l0 m0 rfl rfl h3 h4 l1 m1 rfl rfl
  have hflaws := fun w h1 h2 h3 h4 => refFlaws_any b0 b1 p0 q0 p1 q1 x0 y0 x1 y1 _ c0 _ d0 _ c1 _ d1 w h1 h2 l0 m0 rfl rfl h3 h4 l1 m1 rfl rfl
  have harr := fun w h1 h2 h3 h4 => array_any b0 b1 p0 q0 p1 q1 x0 y0 x1 y1 _ c0 _ d0 _ c1 _ d1 w h1 h2 l0 m0 rfl rfl h3 h4 l1 m1 rfl rfl
  have hravel := fun w h1 h2 => ravel_any b0 p0 q0 x0 y0 _ c0 _ d0 w h1 h2 l0 m0 rfl rfl
  have hflaw := fun w h1 h2 => refFlaw_any b0 p0 q0 x0 y0 _ c0 _ d0 w h1 h2 l0 m0 rfl rfl
  by_cases hf : M.flaw b0 x0 y0 = 0
  · have hlen := (flaw_len hf).1
    have hr1 : M.ravel ⟨b0, x0, y0⟩ = .ok ⟨b0, [(y0.length : Int)], y0⟩ := if_pos hf
    have hfl : M.flaws ⟨b0, x0, y0⟩ ⟨b1, x1, y1⟩ = M.flaw b1 x1 y1 := if_pos hf
    have hvec := fun w h => vector_any b0 q0 y0 _ d0 w h (by omega) rfl
    have hms : M.same ⟨b0, x0, y0⟩ ⟨b1, x1, y1⟩ = if M.flaw b1 x1 y1 = 0 then .ok (decide ((⟨b0, x0, y0⟩ : Arr) = ⟨b1, x1, y1⟩)) else .error (M.flaw b1 x1 y1) := if_pos hf
    have hvv := fun w a c b k a' c' b' k' h1 h2 h3 h4 => array_any b0 b0 a b a' b' [(y0.length : Int)] y0 [(y0.length : Int)] y0 1 c _ k 1 c' _ k' w h1 h2 (by simp [maxLen]) m0 rfl rfl h3 h4 (by simp [maxLen]) m0 rfl rfl
    rw [hf] at hcheck hflaw
    rw [hfl] at hflaws
    rw [errV_zero] at hcheck
    rw [hms] at hmatch
    generalize decide ((⟨b0, x0, y0⟩ : Arr) = ⟨b1, x1, y1⟩) = s at hmatch harr
    have hv1 : decide ((⟨b0, [(y0.length : Int)], y0⟩ : Arr) = ⟨b0, [(y0.length : Int)], y0⟩) = true := decide_eq_true rfl
    rw [hv1] at hvv
    replace hvv := Lib.hid hvv
    replace hcheck := Lib.hid hcheck
    replace hflaw := Lib.hid hflaw
    replace hflaws := Lib.hid hflaws
    replace harr := Lib.hid harr
    replace hravel := Lib.hid hravel
    replace hvec := Lib.hid hvec
    replace hr1 := Lib.hid hr1
    clear hfl hms hv1
    by_cases hf1 : M.flaw b1 x1 y1 = 0
    · rw [hf1] at hmatch hflaws
      rw [if_pos rfl] at hmatch
      have hss : (s == s) = true := beq_self_eq_true s
      replace hmatch := Lib.hid hmatch
      replace hflaws := Lib.hid hflaws
      go_enter Tryd.func6, Tryd.ntmps6
      go_wp2_with fail
      refine (hflaw.out _ (E.getRow 2 rfl) (E.getRow 3 rfl)).mono ?_
      rintro e w2 ⟨rfl, hb⟩
      replace E := E.step hb
      rw [World.size_alloc] at E
      clear hb
      obtain ⟨⟨u0, u1, u2⟩, -, -, -⟩ := E.getBox 1 rfl
      go_wp2_with fail
      refine (hcheck.out _ (E.getRow 2 rfl) (E.getRow 3 rfl)).mono ?_
      rintro e w3 ⟨rfl, hb⟩
      replace E := E.step hb
      clear hb u0 u1 u2
      go_wp2_with fail
      refine (error_any 0 0 w3 (E.laid 6 rfl)).mono ?_
      rintro e w4 ⟨rfl, hb⟩
      replace E := E.step hb
      have nn : w.heap.size + 1 < w4.heap.size := (E.getBox 0 rfl).lt
      replace E := E.box false none 0 0 none 0 0
      clear hb
      obtain ⟨⟨u0, u1, u2⟩, -, -, -⟩ := E.getBox 2 rfl
      go_wp2_with fail
      refine (hvec.out _ (E.getRow 4 rfl)).mono ?_
      rintro e w5 ⟨a5, k5, e5, f5, rfl, ra, rb, hb⟩
      clear u0 u1 u2
      dsimp only [List.length_cons, List.length_nil, Nat.reduceAdd] at ra rb ⊢
      have E5 := ((E.step hb).addRow rb).addRow ra
      have EB := (E.step hb).getBox 0 rfl
      have E6 := Env.store (L := .row a5 [(y0.length : Int)] :: .row e5 y0 :: _) (N := w4.heap.size) (w0 := w) (w := w5) (ch := false) (a := none) (m := 0) (c := 0) (b := none) (n := 0) (z := 0)
        ((((E.step hb).drop1).addRow rb |>.addRow ra).add (f := .box w4.heap.size false none 0 0 none 0 0) EB) (by omega) (by
          intro i N' ch' a' m' c' b' n' z' h
          match i with
          | 0 => cases h
          | 1 => cases h
          | 2 => cases h; omega
          | 3 => cases h; omega
          | 4 => cases h
          | 5 => cases h
          | 6 => cases h
          | 7 => cases h
          | 8 => cases h
          | i + 9 => cases h) b0 a5 1 k5 e5 y0.length f5
      obtain ⟨⟨z0, z1, z2⟩, g0, g1, g2⟩ := EB
      clear E5 E
      obtain ⟨⟨u0, u1, u2⟩, -, -, -⟩ := E6.getBox 4 rfl
      have E := E6
      clear E6
      go_wp2_with fail
      refine (hravel.out _ (E.getRow 5 rfl) (E.getRow 6 rfl)).mono ?_
      intro e w6 hp
      obtain ⟨a6, k6, e6, f6, rfl, ra, rb, hb⟩ := hp.is_ok hr1.out
      clear hp u0 u1 u2 z0 z1 z2 g0 g1 g2
      dsimp only [List.length_cons, List.length_nil, Nat.reduceAdd] at ra rb ⊢
      replace E := (((E.step hb).addRow rb).addRow ra).box b0 a6 1 k6 e6 y0.length f6
      clear hb ra rb
      go_wp2_with fail
      refine (error_any 0 0 _ (E.laid 12 rfl)).mono ?_
      rintro e w7 ⟨rfl, hb⟩
      replace E := E.step hb
      clear hb
      obtain ⟨⟨u0, u1, u2⟩, -, -, -⟩ := E.getBox 0 rfl
      obtain ⟨⟨v0, v1, v2⟩, -, -, -⟩ := E.getBox 3 rfl
      go_wp2_with fail
      refine (hvv.out w7 a6 k6 e6 f6 a5 k5 e5 f5 (E.getRow 1 rfl) (E.getRow 2 rfl) (E.getRow 4 rfl) (E.getRow 5 rfl)).mono ?_
      rintro e w8 ⟨rfl, hb⟩
      replace E := ((((((E.step hb).drop1).drop1).drop1).drop1).drop1)
      clear hb u0 u1 u2 v0 v1 v2
      obtain ⟨⟨u0, u1, u2⟩, -, -, -⟩ := E.getBox 2 rfl
      obtain ⟨⟨v0, v1, v2⟩, -, -, -⟩ := E.getBox 1 rfl
      go_wp2_with fail
      refine (hflaws.out _ (E.getRow 3 rfl) (E.getRow 4 rfl) (E.getRow 5 rfl) (E.getRow 6 rfl)).mono ?_
      rintro e w9 ⟨rfl, hb⟩
      replace E := E.step hb
      clear hb u0 u1 u2 v0 v1 v2
      obtain ⟨⟨u0, u1, u2⟩, -, -, -⟩ := E.getBox 2 rfl
      obtain ⟨⟨v0, v1, v2⟩, -, -, -⟩ := E.getBox 1 rfl
      go_wp2_with fail
      refine (harr.out _ (E.getRow 3 rfl) (E.getRow 4 rfl) (E.getRow 5 rfl) (E.getRow 6 rfl)).mono ?_
      rintro e w10 ⟨rfl, hb⟩
      replace E := E.step hb
      clear hb u0 u1 u2 v0 v1 v2
      obtain ⟨⟨u0, u1, u2⟩, -, -, -⟩ := E.getBox 2 rfl
      obtain ⟨⟨v0, v1, v2⟩, -, -, -⟩ := E.getBox 1 rfl
      go_wp2_with fail
      refine (hmatch.out _ (E.getRow 3 rfl) (E.getRow 4 rfl) (E.getRow 5 rfl) (E.getRow 6 rfl)).mono ?_
      rintro e w11 ⟨rfl, hb⟩
      replace E := E.step hb
      clear hb
      dsimp only [resB]
      go_wp2_with fail
      refine (error_any 0 0 w11 (E.laid 7 rfl)).mono ?_
      rintro e w12 ⟨rfl, hb⟩
      replace E := E.step hb
      cases s
      · go_wp2
        go_ret
        exact ⟨rfl, E.bel⟩
      · go_wp2
        go_ret
        exact ⟨rfl, E.bel⟩
    · rw [if_neg hf1] at hmatch
      have hev := errN_ne hf1
      have hz : (M.flaw b1 x1 y1 == 0) = false := by rw [beq_eq_false_iff_ne]; exact hf1
      generalize M.flaw b1 x1 y1 = n at *
      have hnn : (n == n) = true := beq_self_eq_true n
      replace hev := Lib.hid hev
      replace hf1 := Lib.hid hf1
      replace hmatch := Lib.hid hmatch
      replace hflaws := Lib.hid hflaws
      go_enter Tryd.func6, Tryd.ntmps6
      go_wp2_with fail
      refine (hflaw.out _ (E.getRow 2 rfl) (E.getRow 3 rfl)).mono ?_
      rintro e w2 ⟨rfl, hb⟩
      replace E := E.step hb
      rw [World.size_alloc] at E
      clear hb
      obtain ⟨⟨u0, u1, u2⟩, -, -, -⟩ := E.getBox 1 rfl
      go_wp2_with fail
      refine (hcheck.out _ (E.getRow 2 rfl) (E.getRow 3 rfl)).mono ?_
      rintro e w3 ⟨rfl, hb⟩
      replace E := E.step hb
      clear hb u0 u1 u2
      go_wp2_with fail
      refine (error_any 0 0 w3 (E.laid 6 rfl)).mono ?_
      rintro e w4 ⟨rfl, hb⟩
      replace E := E.step hb
      have nn : w.heap.size + 1 < w4.heap.size := (E.getBox 0 rfl).lt
      replace E := E.box false none 0 0 none 0 0
      clear hb
      obtain ⟨⟨u0, u1, u2⟩, -, -, -⟩ := E.getBox 2 rfl
      go_wp2_with fail
      refine (hvec.out _ (E.getRow 4 rfl)).mono ?_
      rintro e w5 ⟨a5, k5, e5, f5, rfl, ra, rb, hb⟩
      clear u0 u1 u2
      dsimp only [List.length_cons, List.length_nil, Nat.reduceAdd] at ra rb ⊢
      have E5 := ((E.step hb).addRow rb).addRow ra
      have EB := (E.step hb).getBox 0 rfl
      have E6 := Env.store (L := .row a5 [(y0.length : Int)] :: .row e5 y0 :: _) (N := w4.heap.size) (w0 := w) (w := w5) (ch := false) (a := none) (m := 0) (c := 0) (b := none) (n := 0) (z := 0)
        ((((E.step hb).drop1).addRow rb |>.addRow ra).add (f := .box w4.heap.size false none 0 0 none 0 0) EB) (by omega) (by
          intro i N' ch' a' m' c' b' n' z' h
          match i with
          | 0 => cases h
          | 1 => cases h
          | 2 => cases h; omega
          | 3 => cases h; omega
          | 4 => cases h
          | 5 => cases h
          | 6 => cases h
          | 7 => cases h
          | 8 => cases h
          | i + 9 => cases h) b0 a5 1 k5 e5 y0.length f5
      obtain ⟨⟨z0, z1, z2⟩, g0, g1, g2⟩ := EB
      clear E5 E
      obtain ⟨⟨u0, u1, u2⟩, -, -, -⟩ := E6.getBox 4 rfl
      have E := E6
      clear E6
      go_wp2_with fail
      refine (hravel.out _ (E.getRow 5 rfl) (E.getRow 6 rfl)).mono ?_
      intro e w6 hp
      obtain ⟨a6, k6, e6, f6, rfl, ra, rb, hb⟩ := hp.is_ok hr1.out
      clear hp u0 u1 u2 z0 z1 z2 g0 g1 g2
      dsimp only [List.length_cons, List.length_nil, Nat.reduceAdd] at ra rb ⊢
      replace E := (((E.step hb).addRow rb).addRow ra).box b0 a6 1 k6 e6 y0.length f6
      clear hb ra rb
      go_wp2_with fail
      refine (error_any 0 0 _ (E.laid 12 rfl)).mono ?_
      rintro e w7 ⟨rfl, hb⟩
      replace E := E.step hb
      clear hb
      obtain ⟨⟨u0, u1, u2⟩, -, -, -⟩ := E.getBox 0 rfl
      obtain ⟨⟨v0, v1, v2⟩, -, -, -⟩ := E.getBox 3 rfl
      go_wp2_with fail
      refine (hvv.out w7 a6 k6 e6 f6 a5 k5 e5 f5 (E.getRow 1 rfl) (E.getRow 2 rfl) (E.getRow 4 rfl) (E.getRow 5 rfl)).mono ?_
      rintro e w8 ⟨rfl, hb⟩
      replace E := ((((((E.step hb).drop1).drop1).drop1).drop1).drop1)
      clear hb u0 u1 u2 v0 v1 v2
      obtain ⟨⟨u0, u1, u2⟩, -, -, -⟩ := E.getBox 2 rfl
      obtain ⟨⟨v0, v1, v2⟩, -, -, -⟩ := E.getBox 1 rfl
      go_wp2_with fail
      refine (hflaws.out _ (E.getRow 3 rfl) (E.getRow 4 rfl) (E.getRow 5 rfl) (E.getRow 6 rfl)).mono ?_
      rintro e w9 ⟨rfl, hb⟩
      replace E := E.step hb
      clear hb u0 u1 u2 v0 v1 v2
      obtain ⟨⟨u0, u1, u2⟩, -, -, -⟩ := E.getBox 2 rfl
      obtain ⟨⟨v0, v1, v2⟩, -, -, -⟩ := E.getBox 1 rfl
      go_wp2_with fail
      refine (harr.out _ (E.getRow 3 rfl) (E.getRow 4 rfl) (E.getRow 5 rfl) (E.getRow 6 rfl)).mono ?_
      rintro e w10 ⟨rfl, hb⟩
      replace E := E.step hb
      clear hb u0 u1 u2 v0 v1 v2
      obtain ⟨⟨u0, u1, u2⟩, -, -, -⟩ := E.getBox 2 rfl
      obtain ⟨⟨v0, v1, v2⟩, -, -, -⟩ := E.getBox 1 rfl
      go_wp2_with fail
      refine (hmatch.out _ (E.getRow 3 rfl) (E.getRow 4 rfl) (E.getRow 5 rfl) (E.getRow 6 rfl)).mono ?_
      rintro e w11 ⟨rfl, hb⟩
      replace E := E.step hb
      clear hb
      dsimp only [resB]
      go_wp2_with fail
      rw [← hev.out]
      refine (error_any n n w11 (E.laid 7 rfl)).mono ?_
      rintro e w12 ⟨rfl, hb⟩
      rw [hev.out, hnn]
      replace E := E.step hb
      cases s
      · go_wp2
        go_ret
        exact ⟨rfl, E.bel⟩
      · go_wp2
        go_ret
        exact ⟨rfl, E.bel⟩
  · have hr1 : M.ravel ⟨b0, x0, y0⟩ = .error (M.flaw b0 x0 y0) := if_neg hf
    have hfl : M.flaws ⟨b0, x0, y0⟩ ⟨b1, x1, y1⟩ = M.flaw b0 x0 y0 := if_neg hf
    have hms : M.same ⟨b0, x0, y0⟩ ⟨b1, x1, y1⟩ = .error (M.flaw b0 x0 y0) := if_neg hf
    have hzz := fun w => array_any false false none none none none [] [] [] [] 0 0 0 0 0 0 0 0 w (Row.nil _ _) (Row.nil _ _) (Nat.zero_le _) (Nat.zero_le _) rfl rfl (Row.nil _ _) (Row.nil _ _) (Nat.zero_le _) (Nat.zero_le _) rfl rfl
    rw [same_zero] at hzz
    rw [hfl] at hflaws
    rw [hms] at hmatch
    rw [errV_ne hf] at hcheck
    have hev := errN_ne hf
    have hz : (M.flaw b0 x0 y0 == 0) = false := by rw [beq_eq_false_iff_ne]; exact hf
    generalize decide ((⟨b0, x0, y0⟩ : Arr) = ⟨b1, x1, y1⟩) = s at harr
    clear hms hfl
    generalize M.flaw b0 x0 y0 = n at *
    have hnn : (n == n) = true := beq_self_eq_true n
    replace hev := Lib.hid hev
    replace hf := Lib.hid hf
    replace hzz := Lib.hid hzz
    replace hcheck := Lib.hid hcheck
    replace hflaw := Lib.hid hflaw
    replace hflaws := Lib.hid hflaws
    replace harr := Lib.hid harr
    replace hravel := Lib.hid hravel
    replace hmatch := Lib.hid hmatch
    replace hr1 := Lib.hid hr1
    go_enter Tryd.func6, Tryd.ntmps6
    go_wp2_with fail
    refine (hflaw.out _ (E.getRow 2 rfl) (E.getRow 3 rfl)).mono ?_
    rintro e w2 ⟨rfl, hb⟩
    replace E := E.step hb
    rw [World.size_alloc] at E
    clear hb
    obtain ⟨⟨u0, u1, u2⟩, -, -, -⟩ := E.getBox 1 rfl
    go_wp2_with fail
    refine (hcheck.out _ (E.getRow 2 rfl) (E.getRow 3 rfl)).mono ?_
    rintro e w3 ⟨rfl, hb⟩
    replace E := E.step hb
    clear hb u0 u1 u2
    go_wp2_with fail
    rw [← hev.out]
    refine (error_any n n w3 (E.laid 6 rfl)).mono ?_
    rintro e w4 ⟨rfl, hb⟩
    rw [hev.out, hnn]
    replace E := (E.step hb).box false none 0 0 none 0 0
    clear hb
    obtain ⟨⟨u0, u1, u2⟩, -, -, -⟩ := E.getBox 2 rfl
    go_wp2_with fail
    refine (hravel.out _ (E.getRow 3 rfl) (E.getRow 4 rfl)).mono ?_
    intro e w5 hp
    obtain ⟨rfl, hb⟩ := hp.is_error hr1.out
    clear hp u0 u1 u2
    replace E := (E.step hb).box false none 0 0 none 0 0
    clear hb
    go_wp2_with fail
    rw [← hev.out]
    refine (error_any n n _ (E.laid 8 rfl)).mono ?_
    rintro e w6 ⟨rfl, hb⟩
    rw [hev.out, hnn]
    replace E := E.step hb
    clear hb
    obtain ⟨⟨u0, u1, u2⟩, -, -, -⟩ := E.getBox 0 rfl
    obtain ⟨⟨v0, v1, v2⟩, -, -, -⟩ := E.getBox 1 rfl
    go_wp2_with fail
    refine (hzz.out w6).mono ?_
    rintro e w7 ⟨rfl, hb⟩
    replace E := E.step hb
    clear hb u0 u1 u2 v0 v1 v2
    obtain ⟨⟨u0, u1, u2⟩, -, -, -⟩ := E.getBox 3 rfl
    obtain ⟨⟨v0, v1, v2⟩, -, -, -⟩ := E.getBox 2 rfl
    go_wp2_with fail
    refine (hflaws.out _ (E.getRow 4 rfl) (E.getRow 5 rfl) (E.getRow 6 rfl) (E.getRow 7 rfl)).mono ?_
    rintro e w8 ⟨rfl, hb⟩
    replace E := E.step hb
    clear hb u0 u1 u2 v0 v1 v2
    obtain ⟨⟨u0, u1, u2⟩, -, -, -⟩ := E.getBox 3 rfl
    obtain ⟨⟨v0, v1, v2⟩, -, -, -⟩ := E.getBox 2 rfl
    go_wp2_with fail
    refine (harr.out _ (E.getRow 4 rfl) (E.getRow 5 rfl) (E.getRow 6 rfl) (E.getRow 7 rfl)).mono ?_
    rintro e w9 ⟨rfl, hb⟩
    replace E := E.step hb
    clear hb u0 u1 u2 v0 v1 v2
    obtain ⟨⟨u0, u1, u2⟩, -, -, -⟩ := E.getBox 3 rfl
    obtain ⟨⟨v0, v1, v2⟩, -, -, -⟩ := E.getBox 2 rfl
    go_wp2_with fail
    refine (hmatch.out _ (E.getRow 4 rfl) (E.getRow 5 rfl) (E.getRow 6 rfl) (E.getRow 7 rfl)).mono ?_
    rintro e w10 ⟨rfl, hb⟩
    replace E := E.step hb
    clear hb u0 u1 u2 v0 v1 v2
    dsimp only [resB]
    go_wp2_with fail
    rw [← hev.out]
    refine (error_any n n w10 (E.laid 8 rfl)).mono ?_
    rintro e w11 ⟨rfl, hb⟩
    rw [hev.out, hnn]
    replace E := E.step hb
    cases s
    · go_wp2
      go_ret
      exact ⟨rfl, E.bel⟩
    · go_wp2
      go_ret
      exact ⟨rfl, E.bel⟩

end Go.Proofs.YtbhbmkkpbceebaaDoor
