/- The walk of the law EachSwaps: it returns true at all arrays. No condition. -/
import Derived.Test.YtiebknfmmanbiaaEachPlain2
import Derived.Test.YtiebknfmmanbiaaWkEach1
import Derived.Test.YtiebknfmmanbiaaWkMatches
import Derived.Test.YtiebknfmmanbiaaInts
namespace Go.Proofs.Ytiebknfmmanbiaa
open Go.RowKit

theorem swaps_fact : M.each2 10 ⟨false, [], [3]⟩ ⟨false, [], [4]⟩ = .ok ⟨false, [], [1]⟩ := by kernel_rfl

set_option maxRecDepth 20000 in
set_option maxHeartbeats 16000000 in
theorem eachSwaps_walk (b0 : Bool) (p0 q0 : Option Addr) (x0 y0 : List Int) (c0 d0 : Nat) (b1 : Bool) (p1 q1 : Option Addr) (x1 y1 : List Int) (c1 d1 : Nat) (w : World) (r0 : Row w p0 x0) (s0 : Row w q0 y0) (l0 : x0.length ≤ maxLen) (m0 : y0.length ≤ maxLen) (n0 : All64 x0) (o0 : All64 y0) (r1 : Row w p1 x1) (s1 : Row w q1 y1) (l1 : x1.length ≤ maxLen) (m1 : y1.length ≤ maxLen) (n1 : All64 x1) (o1 : All64 y1) :
    Calls Try.prog 7 #[arrV b0 p0 x0.length c0 q0 y0.length d0, arrV b1 p1 x1.length c1 q1 y1.length d1] w fun e w' => e = .returned (.bool true) ∧ Below w.heap.size w w' := by
  have E := (((((((Env.start w).addRow s1).addRow r1).addRow s0).addRow r0).box b0 p0 x0.length c0 q0 y0.length d0).box b1 p1 x1.length c1 q1 y1.length d1)
  replace E := (E.alloc (.cells #[.int .i64 3] 3)).addRow (row_lit _ [3] _ _ rfl)
  try simp only [World.size_alloc] at E
  replace E := (E.alloc (.cells #[.int .i64 4] 3)).addRow (row_lit _ [4] _ _ rfl)
  try simp only [World.size_alloc] at E
  try simp only [World.size_alloc] at E
  replace l0 := Lib.hid l0
  replace m0 := Lib.hid m0
  replace n0 := Lib.hid n0
  replace o0 := Lib.hid o0
  clear r0
  clear s0
  replace l1 := Lib.hid l1
  replace m1 := Lib.hid m1
  replace n1 := Lib.hid n1
  replace o1 := Lib.hid o1
  clear r1
  clear s1
  go_enter Try.func7, Try.ntmps7
  go_wp2_with fail
  refine (each2_any 10 false false none _ none _ [] [3] [] [4] 0 0 1 1 0 0 1 1 _ (row_none _ _) (E.getRow 1 rfl) (by simp [maxLen]) (by simp [maxLen]) (by intro x hx; simp at hx; unfold I64; omega) rfl rfl (row_none _ _) (E.getRow 0 rfl) (by simp [maxLen]) (by simp [maxLen]) (by intro x hx; simp at hx; unfold I64; omega) rfl rfl).mono ?_
  intro e v12 hp
  obtain ⟨af, cf, ef, kf, rfl, ra, rb, -, -, -, hb⟩ := hp.is_ok swaps_fact
  clear hp
  dsimp only [List.length_cons, List.length_nil, Nat.reduceAdd] at ra rb ⊢
  obtain ⟨bf, of', rfl, hcf⟩ := rb.alloc (.cells #[.bool false, .slice af 0 cf, .slice ef 1 kf] 24) 0 (by simp)
  simp only [List.getD_cons_zero, Nat.add_zero] at hcf
  replace E := (E.step hb).box false af 0 cf (some ⟨bf, of', none⟩) 1 kf
  clear ra rb hb
  obtain ⟨⟨u0, u1, u2⟩, -, -, -⟩ := E.getBox 0 rfl
  have kA := fun w h1 h2 => check_any b0 p0 q0 x0 y0 _ c0 _ d0 w h1 h2 l0.out m0.out rfl rfl
  replace kA := Lib.hid kA
  obtain ⟨⟨t0, t1, t2⟩, -, -, -⟩ := E.getBox 4 rfl
  go_wp2_with fail
  refine (kA.out _ (E.getRow 5 rfl) (E.getRow 6 rfl)).mono ?_
  rintro e v13 ⟨rfl, hb⟩
  replace E := E.step hb
  clear hb kA
  clear u0 u1 u2 hcf t0 t1 t2
  by_cases f0 : M.flaw b0 x0 y0 = 0
  case neg =>
    rw [errV_ne f0]
    have hbel := E.bel
    replace f0 := Lib.hid f0
    clear E
    go_wp2
    go_ret
    exact ⟨rfl, hbel⟩
  rw [f0, errV_zero]
  replace f0 := Lib.hid f0
  obtain ⟨⟨u0, u1, u2⟩, -, -, -⟩ := E.getBox 3 rfl
  go_wp2_with fail
  refine (check_any b1 p1 q1 x1 y1 _ c1 _ d1 _ (E.getRow 7 rfl) (E.getRow 8 rfl) l1.out m1.out rfl rfl).mono ?_
  rintro e v14 ⟨rfl, hb⟩
  replace E := E.step hb
  clear hb
  clear u0 u1 u2
  by_cases f1 : M.flaw b1 x1 y1 = 0
  case neg =>
    rw [errV_ne f1]
    have hbel := E.bel
    replace f1 := Lib.hid f1
    clear E
    go_wp2
    go_ret
    exact ⟨rfl, hbel⟩
  rw [f1, errV_zero]
  replace f1 := Lib.hid f1
  obtain ⟨⟨u0, u1, u2⟩, -, -, -⟩ := E.getBox 4 rfl
  obtain ⟨⟨t0, t1, t2⟩, -, -, -⟩ := E.getBox 3 rfl
  go_wp2_with fail
  refine (each2_any 10 b0 b1 p0 q0 p1 q1 x0 y0 x1 y1 _ c0 _ d0 _ c1 _ d1 _ (E.getRow 5 rfl) (E.getRow 6 rfl) l0.out m0.out o0.out rfl rfl (E.getRow 7 rfl) (E.getRow 8 rfl) l1.out m1.out o1.out rfl rfl).mono ?_
  intro e v15 hp
  obtain ⟨chX, aX, sX, kX, eX, dX, jX, oX, rfl, ⟨ra, rb, hansX⟩, hb⟩ := hp.ans
  clear hp
  clear u0 u1 u2 t0 t1 t2
  replace E := (((E.step hb).addRow rb).addRow ra).box chX aX sX.length kX eX dX.length jX
  clear ra rb hb
  replace hansX := Lib.hid hansX
  obtain ⟨⟨u0, u1, u2⟩, -, -, -⟩ := E.getBox 6 rfl
  obtain ⟨⟨t0, t1, t2⟩, -, -, -⟩ := E.getBox 7 rfl
  go_wp2_with fail
  refine (each2_any 13 b1 b0 p1 q1 p0 q0 x1 y1 x0 y0 _ c1 _ d1 _ c0 _ d0 _ (E.getRow 10 rfl) (E.getRow 11 rfl) l1.out m1.out o1.out rfl rfl (E.getRow 8 rfl) (E.getRow 9 rfl) l0.out m0.out o0.out rfl rfl).mono ?_
  intro e v16 hp
  obtain ⟨chY, aY, sY, kY, eY, dY, jY, oY, rfl, ⟨ra, rb, hansY⟩, hb⟩ := hp.ans
  clear hp
  clear u0 u1 u2 t0 t1 t2
  replace E := (((E.step hb).addRow rb).addRow ra).box chY aY sY.length kY eY dY.length jY
  clear ra rb hb
  replace hansY := Lib.hid hansY
  have hag1 := Lib.hid (ans_agree2 hansX.out hansY.out (each2_lt (x := ⟨b0, x0, y0⟩) (y := ⟨b1, x1, y1⟩) f0.out f1.out) (fun z h => each2_sound (x := ⟨b0, x0, y0⟩) (y := ⟨b1, x1, y1⟩) f0.out f1.out h))
  clear hansX hansY
  obtain ⟨⟨u0, u1, u2⟩, -, -, -⟩ := E.getBox 10 rfl
  obtain ⟨⟨t0, t1, t2⟩, -, -, -⟩ := E.getBox 9 rfl
  go_wp2_with fail
  refine (each2_any 8 b0 b1 p0 q0 p1 q1 x0 y0 x1 y1 _ c0 _ d0 _ c1 _ d1 _ (E.getRow 11 rfl) (E.getRow 12 rfl) l0.out m0.out o0.out rfl rfl (E.getRow 13 rfl) (E.getRow 14 rfl) l1.out m1.out o1.out rfl rfl).mono ?_
  intro e v17 hp
  obtain ⟨chU, aU, sU, kU, eU, dU, jU, oU, rfl, ⟨ra, rb, hansU⟩, hb⟩ := hp.ans
  clear hp
  clear u0 u1 u2 t0 t1 t2
  replace E := (((E.step hb).addRow rb).addRow ra).box chU aU sU.length kU eU dU.length jU
  clear ra rb hb
  replace hansU := Lib.hid hansU
  obtain ⟨⟨u0, u1, u2⟩, -, -, -⟩ := E.getBox 12 rfl
  obtain ⟨⟨t0, t1, t2⟩, -, -, -⟩ := E.getBox 13 rfl
  go_wp2_with fail
  refine (each2_any 9 b1 b0 p1 q1 p0 q0 x1 y1 x0 y0 _ c1 _ d1 _ c0 _ d0 _ (E.getRow 16 rfl) (E.getRow 17 rfl) l1.out m1.out o1.out rfl rfl (E.getRow 14 rfl) (E.getRow 15 rfl) l0.out m0.out o0.out rfl rfl).mono ?_
  intro e v18 hp
  obtain ⟨chV, aV, sV, kV, eV, dV, jV, oV, rfl, ⟨ra, rb, hansV⟩, hb⟩ := hp.ans
  clear hp
  clear u0 u1 u2 t0 t1 t2
  replace E := (((E.step hb).addRow rb).addRow ra).box chV aV sV.length kV eV dV.length jV
  clear ra rb hb
  replace hansV := Lib.hid hansV
  obtain ⟨⟨u0, u1, u2⟩, -, -, -⟩ := E.getBox 9 rfl
  obtain ⟨⟨t0, t1, t2⟩, -, -, -⟩ := E.getBox 6 rfl
  go_wp2_with fail
  refine (matches_any chX chY aX eX aY eY sX dX sY dY _ kX _ jX _ kY _ jY oX oY _ (E.getRow 10 rfl) (E.getRow 11 rfl) rfl rfl (E.getRow 7 rfl) (E.getRow 8 rfl) rfl rfl hag1.out).mono ?_
  rintro e v19 ⟨rfl, hb⟩
  replace E := E.step hb
  clear hb
  clear u0 u1 u2 t0 t1 t2
  clear hag1
  rcases each2_eq (x := ⟨b0, x0, y0⟩) (y := ⟨b1, x1, y1⟩) f0.out f1.out with ⟨n8, n9, h8, h9⟩ | ⟨s, u, v, h8, h9, h1, fu, fv, v64⟩
  · obtain rfl : oU = some n8 := by
      rcases hansU.out with ⟨-, h⟩ | ⟨n, h, h'⟩
      · rw [h8] at h; cases h
      · rw [h8] at h'; cases h'; exact h
    obtain rfl : oV = some n9 := by
      rcases hansV.out with ⟨-, h⟩ | ⟨n, h, h'⟩
      · rw [h9] at h; cases h
      · rw [h9] at h'; cases h'; exact h
    have hbel := E.bel
    clear hansU hansV h8 h9 E
    rw [eV_some, eV_some]
    go_wp2
    go_ret
    exact ⟨rfl, hbel⟩
  obtain ⟨eU, fU, gU, kUw⟩ : oU = none ∧ false = chU ∧ s = sU ∧ u = dU := by
    rcases hansU.out with ⟨h, h'⟩ | ⟨n, h, h'⟩
    · rw [h8] at h'; cases h'; exact ⟨h, rfl, rfl, rfl⟩
    · rw [h8] at h'; cases h'
  subst eU
  subst fU
  subst gU
  subst kUw
  obtain ⟨eV, fV, gV, kVw⟩ : oV = none ∧ false = chV ∧ s = sV ∧ v = dV := by
    rcases hansV.out with ⟨h, h'⟩ | ⟨n, h, h'⟩
    · rw [h9] at h'; cases h'; exact ⟨h, rfl, rfl, rfl⟩
    · rw [h9] at h'; cases h'
  subst eV
  subst fV
  subst gV
  subst kVw
  rw [eV_none]
  clear hansU hansV
  have lu := (flaw_len fu).1
  have ls := (flaw_len fu).2
  have lv := (flaw_len fv).1
  have lu' : u.length ≤ maxLen := by unfold maxLen; omega
  have ls' : s.length ≤ maxLen := by unfold maxLen; omega
  have lv' : v.length ≤ maxLen := by unfold maxLen; omega
  clear lu ls lv
  replace lu' := Lib.hid lu'
  replace ls' := Lib.hid ls'
  replace lv' := Lib.hid lv'
  replace h8 := Lib.hid h8
  replace h9 := Lib.hid h9
  replace h1 := Lib.hid h1
  replace fu := Lib.hid fu
  replace fv := Lib.hid fv
  obtain ⟨⟨u0, u1, u2⟩, -, -, -⟩ := E.getBox 0 rfl
  go_wp2_with fail
  refine (each1_any 17 false aV eV s v _ kV _ jV _ (E.getRow 1 rfl) (E.getRow 2 rfl) ls'.out lv'.out v64 rfl rfl).mono ?_
  intro e v20 hp
  obtain ⟨aZ, cZ, eZ, kZ, rfl, ra, rb, -, -, hcZ, hb⟩ := hp.is_ok h1.out
  clear hp
  clear u0 u1 u2
  dsimp only [List.length_cons, List.length_nil, Nat.reduceAdd] at ra rb hcZ ⊢
  replace E := (((E.step hb).addRow rb).addRow ra).box false aZ s.length cZ eZ u.length kZ
  clear ra rb hb
  have hag2 := Lib.hid (show Agree false s u none false s u none from .inl ⟨rfl, rfl, fu.out, rfl, rfl, rfl⟩)
  obtain ⟨⟨u0, u1, u2⟩, -, -, -⟩ := E.getBox 0 rfl
  obtain ⟨⟨t0, t1, t2⟩, -, -, -⟩ := E.getBox 6 rfl
  go_wp2_with fail
  refine (matches_any false false aZ eZ aU eU s u s u _ cZ _ kZ _ kU _ jU none none _ (E.getRow 1 rfl) (E.getRow 2 rfl) rfl rfl (E.getRow 7 rfl) (E.getRow 8 rfl) rfl rfl hag2.out).mono ?_
  rintro e v21 ⟨rfl, hb⟩
  replace E := E.step hb
  clear hb
  clear u0 u1 u2 t0 t1 t2
  go_wp2
  go_ret
  exact ⟨rfl, E.bel⟩
end Go.Proofs.Ytiebknfmmanbiaa
