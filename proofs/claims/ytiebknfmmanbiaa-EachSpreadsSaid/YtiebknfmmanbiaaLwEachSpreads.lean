/- The walk of the law EachSpreads: it returns true at all arrays and functions. No condition. -/
import Derived.Test.YtiebknfmmanbiaaEachPlain2
import Derived.Test.YtiebknfmmanbiaaWkMatches
import Derived.Test.YtiebknfmmanbiaaWkArrB
import Derived.Test.YtiebknfmmanbiaaInts
namespace Go.Proofs.Ytiebknfmmanbiaa
open Go.RowKit

theorem spreads_fact : M.each2 1 ⟨false, [], [1]⟩ ⟨false, [2], [5, 7]⟩ = .ok ⟨false, [2], [6, 8]⟩ := by kernel_rfl

set_option maxRecDepth 20000 in
set_option maxHeartbeats 16000000 in
theorem eachSpreads_walk (a0 : Int) (b1 : Bool) (p1 q1 : Option Addr) (x1 y1 : List Int) (c1 d1 : Nat) (b2 : Bool) (p2 q2 : Option Addr) (x2 y2 : List Int) (c2 d2 : Nat) (w : World) (w0 : I64 a0) (r1 : Row w p1 x1) (s1 : Row w q1 y1) (l1 : x1.length ≤ maxLen) (m1 : y1.length ≤ maxLen) (n1 : All64 x1) (o1 : All64 y1) (r2 : Row w p2 x2) (s2 : Row w q2 y2) (l2 : x2.length ≤ maxLen) (m2 : y2.length ≤ maxLen) (n2 : All64 x2) (o2 : All64 y2) :
    Calls Try.prog 6 #[.int .i64 a0, arrV b1 p1 x1.length c1 q1 y1.length d1, arrV b2 p2 x2.length c2 q2 y2.length d2] w fun e w' => e = .returned (.bool true) ∧ Below w.heap.size w w' := by
  have E := (((((((Env.start w).addRow s2).addRow r2).addRow s1).addRow r1).box b1 p1 x1.length c1 q1 y1.length d1).box b2 p2 x2.length c2 q2 y2.length d2)
  replace E := (E.alloc (.cells #[.int .i64 1] 3)).addRow (row_lit _ [1] _ _ rfl)
  try simp only [World.size_alloc] at E
  replace E := (E.alloc (.cells #[.int .i64 2] 3)).addRow (row_lit _ [2] _ _ rfl)
  try simp only [World.size_alloc] at E
  replace E := (E.alloc (.cells #[.int .i64 5, .int .i64 7] 3)).addRow (row_lit _ [5, 7] _ _ rfl)
  try simp only [World.size_alloc] at E
  try simp only [World.size_alloc] at E
  replace l1 := Lib.hid l1
  replace m1 := Lib.hid m1
  replace n1 := Lib.hid n1
  replace o1 := Lib.hid o1
  clear r1
  clear s1
  replace l2 := Lib.hid l2
  replace m2 := Lib.hid m2
  replace n2 := Lib.hid n2
  replace o2 := Lib.hid o2
  clear r2
  clear s2
  clear w0
  go_enter Try.func6, Try.ntmps6
  go_wp2_with fail
  refine (each2_any 1 false false none _ _ _ [] [1] [2] [5, 7] 0 0 1 1 1 1 2 2 _ (row_none _ _) (E.getRow 2 rfl) (by simp [maxLen]) (by simp [maxLen]) (by intro x hx; simp at hx; unfold I64; omega) rfl rfl (E.getRow 1 rfl) (E.getRow 0 rfl) (by simp [maxLen]) (by simp [maxLen]) (by intro x hx; simp at hx; unfold I64; omega) rfl rfl).mono ?_
  intro e v1 hp
  obtain ⟨af, cf, ef, kf, rfl, ra, rb, -, -, hcf, hb⟩ := hp.is_ok spreads_fact
  clear hp
  dsimp only [List.length_cons, List.length_nil, Nat.reduceAdd] at ra rb hcf ⊢
  replace E := (((E.step hb).addRow rb).addRow ra).box false af 1 cf ef 2 kf
  clear ra rb hb
  replace E := (E.alloc (.cells #[.int .i64 6, .int .i64 8] 3)).addRow (row_lit _ [6, 8] _ _ rfl)
  try simp only [World.size_alloc] at E
  obtain ⟨⟨u0, u1, u2⟩, -, -, -⟩ := E.getBox 1 rfl
  go_wp2_with fail
  refine (ints_any ef _ [6, 8] [6, 8] _ _ kf _ _ (E.getRow 3 rfl) (E.getRow 0 rfl) (by simp [maxLen]) (by simp [maxLen]) rfl rfl).mono ?_
  rintro e v2 ⟨rfl, n2, hv2⟩
  rw [decide_eq_true (rfl : ([6, 8] : List Int) = [6, 8])]
  replace E := E.drew n2
  rw [← hv2] at E
  replace hv2 := Lib.hid hv2
  clear u0 u1 u2
  by_cases hs : x1 = []
  case neg =>
    have t0 : (((x1.length : Nat) : Int) != 0) = true := by rw [bne_iff_ne]; have := List.length_pos_iff.2 hs; omega
    have hbel := E.bel
    replace hs := Lib.hid hs
    obtain ⟨⟨u0, u1, u2⟩, -, -, -⟩ := E.getBox 8 rfl
    clear E
    go_wp2
    go_ret
    exact ⟨rfl, hbel⟩
  have t0 : (((x1.length : Nat) : Int) != 0) = false := by rw [hs]; rfl
  replace hs := Lib.hid hs
  obtain ⟨⟨u0, u1, u2⟩, -, -, -⟩ := E.getBox 8 rfl
  go_wp2_with fail
  refine (check_any b1 p1 q1 x1 y1 _ c1 _ d1 _ (E.getRow 9 rfl) (E.getRow 10 rfl) l1.out m1.out rfl rfl).mono ?_
  rintro e v3 ⟨rfl, hb⟩
  replace E := E.step hb
  clear hb
  clear u0 u1 u2
  by_cases f1 : M.flaw b1 x1 y1 = 0
  case neg =>
    rw [errV_ne f1]
    have hbel := E.bel
    replace f1 := Lib.hid f1
    clear E
    go_wp2
    go_ret
    exact ⟨rfl, hbel⟩
  rw [f1, errV_zero]
  replace f1 := Lib.hid f1
  clear t0
  obtain ⟨⟨u0, u1, u2⟩, -, -, -⟩ := E.getBox 7 rfl
  go_wp2_with fail
  refine (check_any b2 p2 q2 x2 y2 _ c2 _ d2 _ (E.getRow 11 rfl) (E.getRow 12 rfl) l2.out m2.out rfl rfl).mono ?_
  rintro e v4 ⟨rfl, hb⟩
  replace E := E.step hb
  clear hb
  clear u0 u1 u2
  by_cases f2 : M.flaw b2 x2 y2 = 0
  case neg =>
    rw [errV_ne f2]
    have hbel := E.bel
    replace f2 := Lib.hid f2
    clear E
    go_wp2
    go_ret
    exact ⟨rfl, hbel⟩
  rw [f2, errV_zero]
  replace f2 := Lib.hid f2
  obtain ⟨YL, hY, fY, Y64, lY, g1, g2⟩ := spread_all (x := ⟨b1, x1, y1⟩) (b := ⟨b2, x2, y2⟩) f1.out f2.out hs.out o1.out
  dsimp only at hY fY lY g1 g2
  have mY : YL.length ≤ maxLen := by rw [lY]; exact m2.out
  replace hY := Lib.hid hY
  replace fY := Lib.hid fY
  replace lY := Lib.hid lY
  replace g1 := Lib.hid g1
  replace g2 := Lib.hid g2
  replace mY := Lib.hid mY
  obtain ⟨⟨u0, u1, u2⟩, -, -, -⟩ := E.getBox 7 rfl
  obtain ⟨⟨t0, t1, t2⟩, -, -, -⟩ := E.getBox 8 rfl
  go_wp2_with fail
  refine (reshape_any p2 x2 _ c2 b1 p1 q1 x1 y1 _ c1 _ d1 _ (E.getRow 11 rfl) l2.out rfl (E.getRow 9 rfl) (E.getRow 10 rfl) l1.out m1.out rfl rfl).mono ?_
  intro e v5 hp
  obtain ⟨aY, cY, eY, kY, rfl, ra, rb, hb⟩ := hp.is_ok hY.out
  clear hp
  clear u0 u1 u2 t0 t1 t2
  dsimp only [List.length_cons, List.length_nil, Nat.reduceAdd] at ra rb ⊢
  replace E := (((E.step hb).addRow rb).addRow ra).box b1 aY x2.length cY eY YL.length kY
  clear ra rb hb
  obtain ⟨⟨u0, u1, u2⟩, -, -, -⟩ := E.getBox 11 rfl
  obtain ⟨⟨t0, t1, t2⟩, -, -, -⟩ := E.getBox 10 rfl
  go_wp2_with fail
  refine (each2_any a0 b1 b2 p1 q1 p2 q2 x1 y1 x2 y2 _ c1 _ d1 _ c2 _ d2 _ (E.getRow 12 rfl) (E.getRow 13 rfl) l1.out m1.out o1.out rfl rfl (E.getRow 14 rfl) (E.getRow 15 rfl) l2.out m2.out o2.out rfl rfl).mono ?_
  intro e v6 hp
  obtain ⟨chP, aP, sP, kP, eP, dP, jP, oP, rfl, ⟨ra, rb, hansP⟩, hb⟩ := hp.ans
  clear hp
  clear u0 u1 u2 t0 t1 t2
  replace E := (((E.step hb).addRow rb).addRow ra).box chP aP sP.length kP eP dP.length jP
  clear ra rb hb
  replace hansP := Lib.hid hansP
  obtain ⟨⟨u0, u1, u2⟩, -, -, -⟩ := E.getBox 3 rfl
  obtain ⟨⟨t0, t1, t2⟩, -, -, -⟩ := E.getBox 13 rfl
  go_wp2_with fail
  refine (each2_any a0 b1 b2 aY eY p2 q2 x2 YL x2 y2 _ cY _ kY _ c2 _ d2 _ (E.getRow 4 rfl) (E.getRow 5 rfl) l2.out mY.out Y64 rfl rfl (E.getRow 17 rfl) (E.getRow 18 rfl) l2.out m2.out o2.out rfl rfl).mono ?_
  intro e v7 hp
  obtain ⟨chQ, aQ, sQ, kQ, eQ, dQ, jQ, oQ, rfl, ⟨ra, rb, hansQ⟩, hb⟩ := hp.ans
  clear hp
  clear u0 u1 u2 t0 t1 t2
  replace E := (((E.step hb).addRow rb).addRow ra).box chQ aQ sQ.length kQ eQ dQ.length jQ
  clear ra rb hb
  replace hansQ := Lib.hid hansQ
  obtain ⟨⟨u0, u1, u2⟩, -, -, -⟩ := E.getBox 16 rfl
  obtain ⟨⟨t0, t1, t2⟩, -, -, -⟩ := E.getBox 17 rfl
  go_wp2_with fail
  refine (each2_any a0 b2 b1 p2 q2 p1 q1 x2 y2 x1 y1 _ c2 _ d2 _ c1 _ d1 _ (E.getRow 20 rfl) (E.getRow 21 rfl) l2.out m2.out o2.out rfl rfl (E.getRow 18 rfl) (E.getRow 19 rfl) l1.out m1.out o1.out rfl rfl).mono ?_
  intro e v8 hp
  obtain ⟨chU, aU, sU, kU, eU, dU, jU, oU, rfl, ⟨ra, rb, hansU⟩, hb⟩ := hp.ans
  clear hp
  clear u0 u1 u2 t0 t1 t2
  replace E := (((E.step hb).addRow rb).addRow ra).box chU aU sU.length kU eU dU.length jU
  clear ra rb hb
  replace hansU := Lib.hid hansU
  obtain ⟨⟨u0, u1, u2⟩, -, -, -⟩ := E.getBox 19 rfl
  obtain ⟨⟨t0, t1, t2⟩, -, -, -⟩ := E.getBox 9 rfl
  go_wp2_with fail
  refine (each2_any a0 b2 b1 p2 q2 aY eY x2 y2 x2 YL _ c2 _ d2 _ cY _ kY _ (E.getRow 23 rfl) (E.getRow 24 rfl) l2.out m2.out o2.out rfl rfl (E.getRow 10 rfl) (E.getRow 11 rfl) l2.out mY.out Y64 rfl rfl).mono ?_
  intro e v9 hp
  obtain ⟨chV, aV, sV, kV, eV, dV, jV, oV, rfl, ⟨ra, rb, hansV⟩, hb⟩ := hp.ans
  clear hp
  clear u0 u1 u2 t0 t1 t2
  replace E := (((E.step hb).addRow rb).addRow ra).box chV aV sV.length kV eV dV.length jV
  clear ra rb hb
  replace hansV := Lib.hid hansV
  have hag1 := Lib.hid (ans_agree2 hansP.out hansQ.out (g1.out a0).symm (fun z h => each2_sound (x := ⟨b1, x1, y1⟩) (y := ⟨b2, x2, y2⟩) f1.out f2.out h))
  have hag2 := Lib.hid (ans_agree2 hansU.out hansV.out (g2.out a0).symm (fun z h => each2_sound (x := ⟨b2, x2, y2⟩) (y := ⟨b1, x1, y1⟩) f2.out f1.out h))
  clear hansP hansQ hansU hansV
  obtain ⟨⟨u0, u1, u2⟩, -, -, -⟩ := E.getBox 9 rfl
  obtain ⟨⟨t0, t1, t2⟩, -, -, -⟩ := E.getBox 6 rfl
  go_wp2_with fail
  refine (matches_any chP chQ aP eP aQ eQ sP dP sQ dQ _ kP _ jP _ kQ _ jQ oP oQ _ (E.getRow 10 rfl) (E.getRow 11 rfl) rfl rfl (E.getRow 7 rfl) (E.getRow 8 rfl) rfl rfl hag1.out).mono ?_
  rintro e v10 ⟨rfl, hb⟩
  replace E := E.step hb
  clear hb
  clear u0 u1 u2 t0 t1 t2
  obtain ⟨⟨u0, u1, u2⟩, -, -, -⟩ := E.getBox 3 rfl
  obtain ⟨⟨t0, t1, t2⟩, -, -, -⟩ := E.getBox 0 rfl
  go_wp2_with fail
  refine (matches_any chU chV aU eU aV eV sU dU sV dV _ kU _ jU _ kV _ jV oU oV _ (E.getRow 4 rfl) (E.getRow 5 rfl) rfl rfl (E.getRow 1 rfl) (E.getRow 2 rfl) rfl rfl hag2.out).mono ?_
  rintro e v11 ⟨rfl, hb⟩
  replace E := E.step hb
  clear hb
  clear u0 u1 u2 t0 t1 t2
  go_wp2
  go_ret
  exact ⟨rfl, E.bel⟩
end Go.Proofs.Ytiebknfmmanbiaa
