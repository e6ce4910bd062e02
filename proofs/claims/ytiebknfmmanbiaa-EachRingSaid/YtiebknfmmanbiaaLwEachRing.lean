/- The walk of the law EachRing: it returns true at all arrays. No condition. -/
import Derived.Test.YtiebknfmmanbiaaEachPlain2
import Derived.Test.YtiebknfmmanbiaaWkMatches
import Derived.Test.YtiebknfmmanbiaaWkArr
import Derived.Test.YtiebknfmmanbiaaInts
namespace Go.Proofs.Ytiebknfmmanbiaa
open Go.RowKit

theorem ring_fact : M.each2 3 ⟨false, [], [3]⟩ ⟨false, [], [4]⟩ = .ok ⟨false, [], [12]⟩ := by kernel_rfl

set_option maxRecDepth 20000 in
set_option maxHeartbeats 16000000 in
theorem eachRing_walk (b0 : Bool) (p0 q0 : Option Addr) (x0 y0 : List Int) (c0 d0 : Nat) (b1 : Bool) (p1 q1 : Option Addr) (x1 y1 : List Int) (c1 d1 : Nat) (b2 : Bool) (p2 q2 : Option Addr) (x2 y2 : List Int) (c2 d2 : Nat) (w : World) (r0 : Row w p0 x0) (s0 : Row w q0 y0) (l0 : x0.length ≤ maxLen) (m0 : y0.length ≤ maxLen) (n0 : All64 x0) (o0 : All64 y0) (r1 : Row w p1 x1) (s1 : Row w q1 y1) (l1 : x1.length ≤ maxLen) (m1 : y1.length ≤ maxLen) (n1 : All64 x1) (o1 : All64 y1) (r2 : Row w p2 x2) (s2 : Row w q2 y2) (l2 : x2.length ≤ maxLen) (m2 : y2.length ≤ maxLen) (n2 : All64 x2) (o2 : All64 y2) :
    Calls Try.prog 4 #[arrV b0 p0 x0.length c0 q0 y0.length d0, arrV b1 p1 x1.length c1 q1 y1.length d1, arrV b2 p2 x2.length c2 q2 y2.length d2] w fun e w' => e = .returned (.bool true) ∧ Below w.heap.size w w' := by
  have E := ((((((((((Env.start w).addRow s2).addRow r2).addRow s1).addRow r1).addRow s0).addRow r0).box b0 p0 x0.length c0 q0 y0.length d0).box b1 p1 x1.length c1 q1 y1.length d1).box b2 p2 x2.length c2 q2 y2.length d2)
  replace E := (E.alloc (.cells #[.int .i64 3] 3)).addRow (row_lit _ [3] _ _ rfl)
  try simp only [World.size_alloc] at E
  replace E := (E.alloc (.cells #[.int .i64 4] 3)).addRow (row_lit _ [4] _ _ rfl)
  try simp only [World.size_alloc] at E
  try simp only [World.size_alloc] at E
  have hab := fun w h1 h2 => ints_any p0 p1 x0 x1 _ _ c0 c1 w h1 h2 l0 l1 rfl rfl
  have hbc := fun w h1 h2 => ints_any p1 p2 x1 x2 _ _ c1 c2 w h1 h2 l1 l2 rfl rfl
  obtain ⟨sab, eab⟩ : ∃ s, decide (x0 = x1) = s := ⟨_, rfl⟩
  obtain ⟨sbc, ebc⟩ : ∃ s, decide (x1 = x2) = s := ⟨_, rfl⟩
  rw [eab] at hab
  rw [ebc] at hbc
  replace hab := Lib.hid hab
  replace hbc := Lib.hid hbc
  replace eab := Lib.hid eab
  replace ebc := Lib.hid ebc
  replace l0 := Lib.hid l0
  replace m0 := Lib.hid m0
  replace n0 := Lib.hid n0
  replace o0 := Lib.hid o0
  clear r0
  clear s0
  replace l1 := Lib.hid l1
  replace m1 := Lib.hid m1
  replace n1 := Lib.hid n1
  replace o1 := Lib.hid o1
  clear r1
  clear s1
  replace l2 := Lib.hid l2
  replace m2 := Lib.hid m2
  replace n2 := Lib.hid n2
  replace o2 := Lib.hid o2
  clear r2
  clear s2
  go_enter Try.func4, Try.ntmps4
  go_wp2_with fail
  refine (each2_any 3 false false none _ none _ [] [3] [] [4] 0 0 1 1 0 0 1 1 _ (row_none _ _) (E.getRow 1 rfl) (by simp [maxLen]) (by simp [maxLen]) (by intro x hx; simp at hx; unfold I64; omega) rfl rfl (row_none _ _) (E.getRow 0 rfl) (by simp [maxLen]) (by simp [maxLen]) (by intro x hx; simp at hx; unfold I64; omega) rfl rfl).mono ?_
  intro e v22 hp
  obtain ⟨af, cf, ef, kf, rfl, ra, rb, -, -, -, hb⟩ := hp.is_ok ring_fact
  clear hp
  dsimp only [List.length_cons, List.length_nil, Nat.reduceAdd] at ra rb ⊢
  obtain ⟨bf, of', rfl, hcf⟩ := rb.alloc (.cells #[.bool false, .slice af 0 cf, .slice ef 1 kf] 24) 0 (by simp)
  simp only [List.getD_cons_zero, Nat.add_zero] at hcf
  replace E := (E.step hb).box false af 0 cf (some ⟨bf, of', none⟩) 1 kf
  clear ra rb hb
  obtain ⟨⟨u0, u1, u2⟩, -, -, -⟩ := E.getBox 0 rfl
  obtain ⟨⟨t0, t1, t2⟩, -, -, -⟩ := E.getBox 5 rfl
  obtain ⟨⟨v0, v1, v2⟩, -, -, -⟩ := E.getBox 4 rfl
  go_wp2_with fail
  refine (hab.out _ (E.getRow 6 rfl) (E.getRow 8 rfl)).mono ?_
  rintro e v23 ⟨rfl, n23, hv23⟩
  replace E := E.drew n23
  rw [← hv23] at E
  replace hv23 := Lib.hid hv23
  clear hab
  clear u0 u1 u2 t0 t1 t2 v0 v1 v2 hcf
  obtain ⟨⟨u0, u1, u2⟩, -, -, -⟩ := E.getBox 4 rfl
  obtain ⟨⟨t0, t1, t2⟩, -, -, -⟩ := E.getBox 3 rfl
  go_wp2_with fail
  refine (hbc.out _ (E.getRow 8 rfl) (E.getRow 10 rfl)).mono ?_
  rintro e v24 ⟨rfl, n24, hv24⟩
  replace E := E.drew n24
  rw [← hv24] at E
  replace hv24 := Lib.hid hv24
  clear hbc
  clear u0 u1 u2 t0 t1 t2
  obtain ⟨⟨u0, u1, u2⟩, -, -, -⟩ := E.getBox 5 rfl
  go_wp2_with fail
  refine (check_any b0 p0 q0 x0 y0 _ c0 _ d0 _ (E.getRow 6 rfl) (E.getRow 7 rfl) l0.out m0.out rfl rfl).mono ?_
  rintro e v25 ⟨rfl, hb⟩
  replace E := E.step hb
  clear hb
  clear u0 u1 u2
  by_cases f0 : M.flaw b0 x0 y0 = 0
  case neg =>
    rw [errV_ne f0]
    have hbel := E.bel
    replace f0 := Lib.hid f0
    clear E
    go_wp2
    go_ret
    exact ⟨rfl, hbel⟩
  rw [f0, errV_zero]
  replace f0 := Lib.hid f0
  obtain ⟨⟨u0, u1, u2⟩, -, -, -⟩ := E.getBox 4 rfl
  go_wp2_with fail
  refine (check_any b1 p1 q1 x1 y1 _ c1 _ d1 _ (E.getRow 8 rfl) (E.getRow 9 rfl) l1.out m1.out rfl rfl).mono ?_
  rintro e v26 ⟨rfl, hb⟩
  replace E := E.step hb
  clear hb
  clear u0 u1 u2
  by_cases f1 : M.flaw b1 x1 y1 = 0
  case neg =>
    rw [errV_ne f1]
    have hbel := E.bel
    replace f1 := Lib.hid f1
    clear E
    go_wp2
    go_ret
    exact ⟨rfl, hbel⟩
  rw [f1, errV_zero]
  replace f1 := Lib.hid f1
  obtain ⟨⟨u0, u1, u2⟩, -, -, -⟩ := E.getBox 3 rfl
  go_wp2_with fail
  refine (check_any b2 p2 q2 x2 y2 _ c2 _ d2 _ (E.getRow 10 rfl) (E.getRow 11 rfl) l2.out m2.out rfl rfl).mono ?_
  rintro e v27 ⟨rfl, hb⟩
  replace E := E.step hb
  clear hb
  clear u0 u1 u2
  by_cases f2 : M.flaw b2 x2 y2 = 0
  case neg =>
    rw [errV_ne f2]
    have hbel := E.bel
    replace f2 := Lib.hid f2
    clear E
    go_wp2
    go_ret
    exact ⟨rfl, hbel⟩
  rw [f2, errV_zero]
  replace f2 := Lib.hid f2
  obtain ⟨⟨u0, u1, u2⟩, -, -, -⟩ := E.getBox 5 rfl
  obtain ⟨⟨t0, t1, t2⟩, -, -, -⟩ := E.getBox 4 rfl
  obtain ⟨⟨v0, v1, v2⟩, -, -, -⟩ := E.getBox 3 rfl
  cases b0 with
  | true =>
    have hbel := E.bel
    clear E
    go_wp2
    go_ret
    exact ⟨rfl, hbel⟩
  | false =>
  cases b1 with
  | true =>
    have hbel := E.bel
    clear E
    go_wp2
    go_ret
    exact ⟨rfl, hbel⟩
  | false =>
  cases b2 with
  | true =>
    have hbel := E.bel
    clear E
    go_wp2
    go_ret
    exact ⟨rfl, hbel⟩
  | false =>
  cases sab with
  | false =>
    have hbel := E.bel
    clear E
    go_wp2
    go_ret
    exact ⟨rfl, hbel⟩
  | true =>
  cases sbc with
  | false =>
    have hbel := E.bel
    clear E
    go_wp2
    go_ret
    exact ⟨rfl, hbel⟩
  | true =>
  have e01 := of_decide_eq_true eab.out
  have e12 := of_decide_eq_true ebc.out
  clear eab ebc
  subst e01
  subst e12
  obtain ⟨X1, X2, Y, Z, R1, R2, h1, h2, h3, h4, h5, h6, h7, h8, h9, fX2, fY, fR2, ⟨X164, lX1⟩, lX2, ⟨Y64, lY⟩, ⟨Z64, lZ⟩, ⟨R164, lR1⟩, lR2⟩ := ring_all f0.out f1.out f2.out
  have mX1 : X1.length ≤ maxLen := by rw [lX1]; exact m0.out
  have mX2 : X2.length ≤ maxLen := by rw [lX2]; exact m0.out
  have mY : Y.length ≤ maxLen := by rw [lY]; exact m0.out
  have mZ : Z.length ≤ maxLen := by rw [lZ]; exact m0.out
  have mR1 : R1.length ≤ maxLen := by rw [lR1]; exact m0.out
  have mR2 : R2.length ≤ maxLen := by rw [lR2]; exact m0.out
  replace h1 := Lib.hid h1
  replace h2 := Lib.hid h2
  replace h3 := Lib.hid h3
  replace h4 := Lib.hid h4
  replace h5 := Lib.hid h5
  replace h6 := Lib.hid h6
  replace h7 := Lib.hid h7
  replace h8 := Lib.hid h8
  replace h9 := Lib.hid h9
  replace fX2 := Lib.hid fX2
  replace fY := Lib.hid fY
  replace fR2 := Lib.hid fR2
  replace X164 := Lib.hid X164
  replace Y64 := Lib.hid Y64
  replace Z64 := Lib.hid Z64
  replace R164 := Lib.hid R164
  replace lX1 := Lib.hid lX1
  replace lX2 := Lib.hid lX2
  replace lY := Lib.hid lY
  replace lZ := Lib.hid lZ
  replace lR1 := Lib.hid lR1
  replace lR2 := Lib.hid lR2
  replace mX1 := Lib.hid mX1
  replace mX2 := Lib.hid mX2
  replace mY := Lib.hid mY
  replace mZ := Lib.hid mZ
  replace mR1 := Lib.hid mR1
  replace mR2 := Lib.hid mR2
  clear u0 u1 u2 t0 t1 t2 v0 v1 v2
  obtain ⟨⟨u0, u1, u2⟩, -, -, -⟩ := E.getBox 4 rfl
  obtain ⟨⟨t0, t1, t2⟩, -, -, -⟩ := E.getBox 3 rfl
  obtain ⟨⟨v0, v1, v2⟩, -, -, -⟩ := E.getBox 5 rfl
  go_wp2_with fail
  refine (each2_any 1 false false p1 q1 p2 q2 x0 y1 x0 y2 _ c1 _ d1 _ c2 _ d2 _ (E.getRow 8 rfl) (E.getRow 9 rfl) l0.out m1.out o1.out rfl rfl (E.getRow 10 rfl) (E.getRow 11 rfl) l0.out m2.out o2.out rfl rfl).mono ?_
  intro e v28 hp
  obtain ⟨aX, cX, eX, kX, rfl, ra, rb, -, -, hcX, hb⟩ := hp.is_ok h1.out
  clear hp
  clear u0 u1 u2 t0 t1 t2 v0 v1 v2
  dsimp only [List.length_cons, List.length_nil, Nat.reduceAdd] at ra rb hcX ⊢
  have lt_boxF_boxX := ((E.step hb).getBox 0 rfl).lt
  have lt_boxC_boxX := ((E.step hb).getBox 3 rfl).lt
  have lt_boxB_boxX := ((E.step hb).getBox 4 rfl).lt
  have lt_boxA_boxX := ((E.step hb).getBox 5 rfl).lt
  replace E := (((E.step hb).addRow rb).addRow ra).box false aX x0.length cX eX X1.length kX
  clear ra rb hb
  obtain ⟨⟨u0, u1, u2⟩, -, -, -⟩ := E.getBox 8 rfl
  obtain ⟨⟨t0, t1, t2⟩, -, -, -⟩ := E.getBox 0 rfl
  clear u0 u1 u2 t0 t1 t2
  obtain ⟨⟨u0, u1, u2⟩, -, -, -⟩ := E.getBox 8 rfl
  obtain ⟨⟨t0, t1, t2⟩, -, -, -⟩ := E.getBox 0 rfl
  go_wp2_with fail
  refine (each2_any 3 false false p0 q0 aX eX x0 y0 x0 X1 _ c0 _ d0 _ cX _ kX _ (E.getRow 9 rfl) (E.getRow 10 rfl) l0.out m0.out o0.out rfl rfl (E.getRow 1 rfl) (E.getRow 2 rfl) l0.out mX1.out X164.out rfl rfl).mono ?_
  intro e v29 hp
  obtain ⟨aW, cW, eW, kW, rfl, ra, rb, -, -, hcW, hb⟩ := hp.is_ok h2.out
  clear hp
  clear u0 u1 u2 t0 t1 t2
  dsimp only [List.length_cons, List.length_nil, Nat.reduceAdd] at ra rb hcW ⊢
  replace E := E.step hb
  obtain ⟨⟨g0, g1, g2⟩, g3, g4, g5⟩ := E.getBox 0 rfl
  have E6 := Env.store (w0 := w) (w := v29) (N := v28.heap.size) (ch := false) (a := aX) (m := x0.length) (c := cX) (b := eX) (n := X1.length) (z := kX)
    ((((((((((((((((((Env.base E.bel).addRow (E.getRow 14 rfl)).addRow (E.getRow 13 rfl)).addRow (E.getRow 12 rfl)).addRow (E.getRow 11 rfl)).addRow (E.getRow 10 rfl)).addRow (E.getRow 9 rfl)).add (f := .box _ _ _ _ _ _ _ _) (E.getBox 8 rfl)).add (f := .box _ _ _ _ _ _ _ _) (E.getBox 7 rfl)).add (f := .box _ _ _ _ _ _ _ _) (E.getBox 6 rfl)).addRow (E.getRow 5 rfl)).addRow (E.getRow 4 rfl)).add (f := .box _ _ _ _ _ _ _ _) (E.getBox 3 rfl)).addRow (E.getRow 2 rfl)).addRow (E.getRow 1 rfl)).addRow rb).addRow ra).add (f := .box _ _ _ _ _ _ _ _) (E.getBox 0 rfl)) (by omega) (by
      intro i N' ch' a' m' c' b' n' z' h
      match i with
      | 0 => cases h
      | 1 => cases h
      | 2 => cases h
      | 3 => cases h
      | 4 => cases h; omega
      | 5 => cases h
      | 6 => cases h
      | 7 => cases h; omega
      | 8 => cases h; omega
      | 9 => cases h; omega
      | 10 => cases h
      | 11 => cases h
      | 12 => cases h
      | 13 => cases h
      | 14 => cases h
      | 15 => cases h
      | i + 16 => cases h) false aW x0.length cW eW X2.length kW
  replace E := E6
  clear E6 ra rb hb
  obtain ⟨⟨u0, u1, u2⟩, -, -, -⟩ := E.getBox 10 rfl
  obtain ⟨⟨t0, t1, t2⟩, -, -, -⟩ := E.getBox 9 rfl
  go_wp2_with fail
  refine (each2_any 3 false false p0 q0 p1 q1 x0 y0 x0 y1 _ c0 _ d0 _ c1 _ d1 _ (E.getRow 11 rfl) (E.getRow 12 rfl) l0.out m0.out o0.out rfl rfl (E.getRow 13 rfl) (E.getRow 14 rfl) l0.out m1.out o1.out rfl rfl).mono ?_
  intro e v30 hp
  obtain ⟨aY, cY, eY, kY, rfl, ra, rb, -, -, hcY, hb⟩ := hp.is_ok h3.out
  clear hp
  clear g0 g1 g2 g3 g4 g5 u0 u1 u2 t0 t1 t2
  dsimp only [List.length_cons, List.length_nil, Nat.reduceAdd] at ra rb hcY ⊢
  have lt_boxX_boxY := ((E.step hb).getBox 0 rfl).lt
  replace E := (((E.step hb).addRow rb).addRow ra).box false aY x0.length cY eY Y.length kY
  clear ra rb hb
  obtain ⟨⟨u0, u1, u2⟩, -, -, -⟩ := E.getBox 13 rfl
  obtain ⟨⟨t0, t1, t2⟩, -, -, -⟩ := E.getBox 11 rfl
  go_wp2_with fail
  refine (each2_any 3 false false p0 q0 p2 q2 x0 y0 x0 y2 _ c0 _ d0 _ c2 _ d2 _ (E.getRow 14 rfl) (E.getRow 15 rfl) l0.out m0.out o0.out rfl rfl (E.getRow 18 rfl) (E.getRow 19 rfl) l0.out m2.out o2.out rfl rfl).mono ?_
  intro e v31 hp
  obtain ⟨aZ, cZ, eZ, kZ, rfl, ra, rb, -, -, hcZ, hb⟩ := hp.is_ok h4.out
  clear hp
  clear u0 u1 u2 t0 t1 t2
  dsimp only [List.length_cons, List.length_nil, Nat.reduceAdd] at ra rb hcZ ⊢
  have lt_boxX_boxZ := ((E.step hb).getBox 3 rfl).lt
  replace E := (((E.step hb).addRow rb).addRow ra).box false aZ x0.length cZ eZ Z.length kZ
  clear ra rb hb
  obtain ⟨⟨u0, u1, u2⟩, -, -, -⟩ := E.getBox 3 rfl
  obtain ⟨⟨t0, t1, t2⟩, -, -, -⟩ := E.getBox 0 rfl
  go_wp2_with fail
  refine (each2_any 1 false false aY eY aZ eZ x0 Y x0 Z _ cY _ kY _ cZ _ kZ _ (E.getRow 4 rfl) (E.getRow 5 rfl) l0.out mY.out Y64.out rfl rfl (E.getRow 1 rfl) (E.getRow 2 rfl) l0.out mZ.out Z64.out rfl rfl).mono ?_
  intro e v32 hp
  obtain ⟨aU, cU, eU, kU, rfl, ra, rb, -, -, hcU, hb⟩ := hp.is_ok h5.out
  clear hp
  clear u0 u1 u2 t0 t1 t2
  dsimp only [List.length_cons, List.length_nil, Nat.reduceAdd] at ra rb hcU ⊢
  have lt_boxX_boxU := ((E.step hb).getBox 6 rfl).lt
  replace E := (((E.step hb).addRow rb).addRow ra).box false aU x0.length cU eU X2.length kU
  clear ra rb hb
  have hag1 := Lib.hid (show Agree false x0 X2 none false x0 X2 none from .inl ⟨rfl, rfl, fX2.out, rfl, rfl, rfl⟩)
  obtain ⟨⟨u0, u1, u2⟩, -, -, -⟩ := E.getBox 9 rfl
  obtain ⟨⟨t0, t1, t2⟩, -, -, -⟩ := E.getBox 0 rfl
  go_wp2_with fail
  refine (matches_any false false aW eW aU eU x0 X2 x0 X2 _ cW _ kW _ cU _ kU none none _ (E.getRow 10 rfl) (E.getRow 11 rfl) rfl rfl (E.getRow 1 rfl) (E.getRow 2 rfl) rfl rfl hag1.out).mono ?_
  rintro e v33 ⟨rfl, hb⟩
  replace E := E.step hb
  clear hb
  clear u0 u1 u2 t0 t1 t2
  obtain ⟨⟨u0, u1, u2⟩, -, -, -⟩ := E.getBox 18 rfl
  obtain ⟨⟨t0, t1, t2⟩, -, -, -⟩ := E.getBox 19 rfl
  go_wp2_with fail
  refine (each2_any 3 false false p1 q1 p0 q0 x0 y1 x0 y0 _ c1 _ d1 _ c0 _ d0 _ (E.getRow 22 rfl) (E.getRow 23 rfl) l0.out m1.out o1.out rfl rfl (E.getRow 20 rfl) (E.getRow 21 rfl) l0.out m0.out o0.out rfl rfl).mono ?_
  intro e v34 hp
  obtain ⟨aP, cP, eP, kP, rfl, ra, rb, -, -, hcP, hb⟩ := hp.is_ok h6.out
  clear hp
  clear u0 u1 u2 t0 t1 t2
  dsimp only [List.length_cons, List.length_nil, Nat.reduceAdd] at ra rb hcP ⊢
  have lt_boxX_boxP := ((E.step hb).getBox 9 rfl).lt
  replace E := (((E.step hb).addRow rb).addRow ra).box false aP x0.length cP eP Y.length kP
  clear ra rb hb
  obtain ⟨⟨u0, u1, u2⟩, -, -, -⟩ := E.getBox 9 rfl
  obtain ⟨⟨t0, t1, t2⟩, -, -, -⟩ := E.getBox 20 rfl
  go_wp2_with fail
  refine (each2_any 3 false false aY eY p2 q2 x0 Y x0 y2 _ cY _ kY _ c2 _ d2 _ (E.getRow 10 rfl) (E.getRow 11 rfl) l0.out mY.out Y64.out rfl rfl (E.getRow 27 rfl) (E.getRow 28 rfl) l0.out m2.out o2.out rfl rfl).mono ?_
  intro e v35 hp
  obtain ⟨aQ, cQ, eQ, kQ, rfl, ra, rb, -, -, hcQ, hb⟩ := hp.is_ok h7.out
  clear hp
  clear u0 u1 u2 t0 t1 t2
  dsimp only [List.length_cons, List.length_nil, Nat.reduceAdd] at ra rb hcQ ⊢
  have lt_boxX_boxQ := ((E.step hb).getBox 12 rfl).lt
  replace E := (((E.step hb).addRow rb).addRow ra).box false aQ x0.length cQ eQ R2.length kQ
  clear ra rb hb
  obtain ⟨⟨u0, u1, u2⟩, -, -, -⟩ := E.getBox 24 rfl
  obtain ⟨⟨t0, t1, t2⟩, -, -, -⟩ := E.getBox 23 rfl
  go_wp2_with fail
  refine (each2_any 3 false false p1 q1 p2 q2 x0 y1 x0 y2 _ c1 _ d1 _ c2 _ d2 _ (E.getRow 28 rfl) (E.getRow 29 rfl) l0.out m1.out o1.out rfl rfl (E.getRow 30 rfl) (E.getRow 31 rfl) l0.out m2.out o2.out rfl rfl).mono ?_
  intro e v36 hp
  obtain ⟨aR, cR, eR, kR, rfl, ra, rb, -, -, hcR, hb⟩ := hp.is_ok h8.out
  clear hp
  clear u0 u1 u2 t0 t1 t2
  dsimp only [List.length_cons, List.length_nil, Nat.reduceAdd] at ra rb hcR ⊢
  have lt_boxQ_boxR := ((E.step hb).getBox 0 rfl).lt
  have lt_boxP_boxR := ((E.step hb).getBox 3 rfl).lt
  have lt_boxU_boxR := ((E.step hb).getBox 6 rfl).lt
  have lt_boxZ_boxR := ((E.step hb).getBox 9 rfl).lt
  have lt_boxY_boxR := ((E.step hb).getBox 12 rfl).lt
  have lt_boxX_boxR := ((E.step hb).getBox 15 rfl).lt
  have lt_boxF_boxR := ((E.step hb).getBox 20 rfl).lt
  have lt_boxC_boxR := ((E.step hb).getBox 23 rfl).lt
  have lt_boxB_boxR := ((E.step hb).getBox 24 rfl).lt
  have lt_boxA_boxR := ((E.step hb).getBox 25 rfl).lt
  replace E := (((E.step hb).addRow rb).addRow ra).box false aR x0.length cR eR R1.length kR
  clear ra rb hb
  obtain ⟨⟨u0, u1, u2⟩, -, -, -⟩ := E.getBox 28 rfl
  obtain ⟨⟨t0, t1, t2⟩, -, -, -⟩ := E.getBox 0 rfl
  go_wp2_with fail
  refine (each2_any 3 false false p0 q0 aR eR x0 y0 x0 R1 _ c0 _ d0 _ cR _ kR _ (E.getRow 29 rfl) (E.getRow 30 rfl) l0.out m0.out o0.out rfl rfl (E.getRow 1 rfl) (E.getRow 2 rfl) l0.out mR1.out R164.out rfl rfl).mono ?_
  intro e v37 hp
  obtain ⟨aT, cT, eT, kT, rfl, ra, rb, -, -, hcT, hb⟩ := hp.is_ok h9.out
  clear hp
  clear u0 u1 u2 t0 t1 t2
  dsimp only [List.length_cons, List.length_nil, Nat.reduceAdd] at ra rb hcT ⊢
  replace E := E.step hb
  obtain ⟨⟨g0, g1, g2⟩, g3, g4, g5⟩ := E.getBox 0 rfl
  have E6 := Env.store (w0 := w) (w := v37) (N := v36.heap.size) (ch := false) (a := aR) (m := x0.length) (c := cR) (b := eR) (n := R1.length) (z := kR)
    ((((((((((((((((((((((((((((((((((((((Env.base E.bel).addRow (E.getRow 34 rfl)).addRow (E.getRow 33 rfl)).addRow (E.getRow 32 rfl)).addRow (E.getRow 31 rfl)).addRow (E.getRow 30 rfl)).addRow (E.getRow 29 rfl)).add (f := .box _ _ _ _ _ _ _ _) (E.getBox 28 rfl)).add (f := .box _ _ _ _ _ _ _ _) (E.getBox 27 rfl)).add (f := .box _ _ _ _ _ _ _ _) (E.getBox 26 rfl)).addRow (E.getRow 25 rfl)).addRow (E.getRow 24 rfl)).add (f := .box _ _ _ _ _ _ _ _) (E.getBox 23 rfl)).addRow (E.getRow 22 rfl)).addRow (E.getRow 21 rfl)).addRow (E.getRow 20 rfl)).addRow (E.getRow 19 rfl)).add (f := .box _ _ _ _ _ _ _ _) (E.getBox 18 rfl)).addRow (E.getRow 17 rfl)).addRow (E.getRow 16 rfl)).add (f := .box _ _ _ _ _ _ _ _) (E.getBox 15 rfl)).addRow (E.getRow 14 rfl)).addRow (E.getRow 13 rfl)).add (f := .box _ _ _ _ _ _ _ _) (E.getBox 12 rfl)).addRow (E.getRow 11 rfl)).addRow (E.getRow 10 rfl)).add (f := .box _ _ _ _ _ _ _ _) (E.getBox 9 rfl)).addRow (E.getRow 8 rfl)).addRow (E.getRow 7 rfl)).add (f := .box _ _ _ _ _ _ _ _) (E.getBox 6 rfl)).addRow (E.getRow 5 rfl)).addRow (E.getRow 4 rfl)).add (f := .box _ _ _ _ _ _ _ _) (E.getBox 3 rfl)).addRow (E.getRow 2 rfl)).addRow (E.getRow 1 rfl)).addRow rb).addRow ra).add (f := .box _ _ _ _ _ _ _ _) (E.getBox 0 rfl)) (by omega) (by
      intro i N' ch' a' m' c' b' n' z' h
      match i with
      | 0 => cases h
      | 1 => cases h
      | 2 => cases h
      | 3 => cases h
      | 4 => cases h; omega
      | 5 => cases h
      | 6 => cases h
      | 7 => cases h; omega
      | 8 => cases h
      | 9 => cases h
      | 10 => cases h; omega
      | 11 => cases h
      | 12 => cases h
      | 13 => cases h; omega
      | 14 => cases h
      | 15 => cases h
      | 16 => cases h; omega
      | 17 => cases h
      | 18 => cases h
      | 19 => cases h; omega
      | 20 => cases h
      | 21 => cases h
      | 22 => cases h
      | 23 => cases h
      | 24 => cases h; omega
      | 25 => cases h
      | 26 => cases h
      | 27 => cases h; omega
      | 28 => cases h; omega
      | 29 => cases h; omega
      | 30 => cases h
      | 31 => cases h
      | 32 => cases h
      | 33 => cases h
      | 34 => cases h
      | 35 => cases h
      | i + 36 => cases h) false aT x0.length cT eT R2.length kT
  replace E := E6
  clear E6 ra rb hb
  have hag2 := Lib.hid (show Agree false x0 Y none false x0 Y none from .inl ⟨rfl, rfl, fY.out, rfl, rfl, rfl⟩)
  have hag3 := Lib.hid (show Agree false x0 R2 none false x0 R2 none from .inl ⟨rfl, rfl, fR2.out, rfl, rfl, rfl⟩)
  obtain ⟨⟨u0, u1, u2⟩, -, -, -⟩ := E.getBox 8 rfl
  obtain ⟨⟨t0, t1, t2⟩, -, -, -⟩ := E.getBox 17 rfl
  go_wp2_with fail
  refine (matches_any false false aP eP aY eY x0 Y x0 Y _ cP _ kP _ cY _ kY none none _ (E.getRow 9 rfl) (E.getRow 10 rfl) rfl rfl (E.getRow 18 rfl) (E.getRow 19 rfl) rfl rfl hag2.out).mono ?_
  rintro e v38 ⟨rfl, hb⟩
  replace E := E.step hb
  clear hb
  clear g0 g1 g2 g3 g4 g5 u0 u1 u2 t0 t1 t2
  obtain ⟨⟨u0, u1, u2⟩, -, -, -⟩ := E.getBox 5 rfl
  obtain ⟨⟨t0, t1, t2⟩, -, -, -⟩ := E.getBox 0 rfl
  go_wp2_with fail
  refine (matches_any false false aQ eQ aT eT x0 R2 x0 R2 _ cQ _ kQ _ cT _ kT none none _ (E.getRow 6 rfl) (E.getRow 7 rfl) rfl rfl (E.getRow 1 rfl) (E.getRow 2 rfl) rfl rfl hag3.out).mono ?_
  rintro e v39 ⟨rfl, hb⟩
  replace E := E.step hb
  clear hb
  clear u0 u1 u2 t0 t1 t2
  go_wp2
  go_ret
  exact ⟨rfl, E.bel⟩
end Go.Proofs.Ytiebknfmmanbiaa
