/- The walk of the law ProdParts: it returns true at all functions and arrays. No condition. -/
import Derived.Test.YtfnoalbnkbifmaaWkOutAny
import Derived.Test.YtfnoalbnkbifmaaWkEach
import Derived.Test.YtfnoalbnkbifmaaWkJoin
import Derived.Test.YtfnoalbnkbifmaaPartsPlain
import Derived.Test.YtfnoalbnkbifmaaWkReduce
import Derived.Test.YtfnoalbnkbifmaaWkLawVec
import Derived.Test.YtfnoalbnkbifmaaBdE
import Derived.Test.YtfnoalbnkbifmaaWkAlike
import Derived.Test.YtfnoalbnkbifmaaBdO
namespace Go.Proofs.Ytfnoalbnkbifmaa
open Go.RowKit

theorem parts_fact : M.outer 2 ⟨false, [2], [5, 7]⟩ ⟨false, [2], [1, 2]⟩ = .ok ⟨false, [2, 2], [4, 3, 6, 5]⟩ := by kernel_rfl
theorem one_axis {ch : Bool} {s d : List Int} (h : M.flaw ch s d = 0) (hl : s.length = 1) : ∃ P : Nat, s = [(P : Int)] := by
  obtain ⟨q, c, -⟩ := flaw_parts h
  obtain ⟨-, a2, -⟩ := M.count_ok c
  match s, hl with
  | [x], _ => exact ⟨x.toNat, by have := a2 x (by simp); rw [Int.toNat_of_nonneg this.1]⟩
theorem join0_fits {x y z : Arr} (h : M.join0 x y = .ok z) (hx : All64 x.d) (hy : All64 y.d) : z.s.length ≤ maxLen ∧ z.d.length ≤ maxLen ∧ All64 z.d := by
  obtain ⟨m, n, u, fa, fb, sa, sb, -, -, rfl⟩ := join0_ok h
  obtain ⟨q1, c1, e1⟩ := flaw_parts fa
  obtain ⟨q2, c2, e2⟩ := flaw_parts fb
  obtain ⟨a1, -, -, a4, a5⟩ := M.count_ok c1
  obtain ⟨b1, -, -, b4, b5⟩ := M.count_ok c2
  rw [sa] at a1
  refine ⟨?_, ?_, ?_⟩
  · unfold maxLen; simp at a1 ⊢; omega
  · unfold maxLen; simp; omega
  · intro v hv
    rcases List.mem_append.1 hv with h | h
    · exact hx v h
    · exact hy v h
theorem outer_fine {f : Int} {x y z : Arr} (h : M.outer f x y = .ok z) : M.flaw x.ch x.s x.d = 0 ∧ M.flaw y.ch y.s y.d = 0 ∧ ∃ L, M.count (x.s ++ y.s) = .ok L := by
  unfold M.outer at h
  split at h
  · cases h
  split at h
  · cases h
  rename_i hfl
  have hfl := Decidable.of_not_not hfl
  unfold M.flaws at hfl
  cases hc : M.count (x.s ++ y.s) with
  | error e => rw [hc] at h; cases h
  | ok L =>
    by_cases hx : M.flaw x.ch x.s x.d = 0
    · rw [if_pos hx] at hfl
      exact ⟨hx, hfl, L, rfl⟩
    · rw [if_neg hx] at hfl
      exact absurd hfl hx
theorem reduce_at (f : Int) (hf : M.fn2 f = true) (a b : Option Addr) (u : List Int) (P : Nat) (d : List Int) (c z : Nat) (ax : Int) (m : Nat) (w : World) (eax : ax = (u.length : Int)) (em : m = u.length + 1) (hs : Row w a (u ++ [(P : Int)])) (hd : Row w b d) (ld : d.length ≤ maxLen) (hd64 : All64 d) (hfl : M.flaw false (u ++ [(P : Int)]) d = 0) (hu4 : M.prod u ≤ 4096) :
    Calls Try.prog 10 #[.int .i64 f, .int .i64 ax, arrV false a m c b d.length z] w fun e w' => ArrPost (M.reduce f u P d) w e w' := by
  subst eax
  subst em
  exact reduce_any f hf a b u P d c z w hs hd ld hd64 hfl hu4

set_option maxRecDepth 20000 in
set_option maxHeartbeats 16000000 in
theorem prodParts_walk (a0 : Int) (b1 : Bool) (p1 q1 : Option Addr) (x1 y1 : List Int) (c1 d1 : Nat) (b2 : Bool) (p2 q2 : Option Addr) (x2 y2 : List Int) (c2 d2 : Nat) (b3 : Bool) (p3 q3 : Option Addr) (x3 y3 : List Int) (c3 d3 : Nat) (w : World) (w0 : I64 a0) (r1 : Row w p1 x1) (s1 : Row w q1 y1) (l1 : x1.length ≤ maxLen) (m1 : y1.length ≤ maxLen) (n1 : All64 x1) (o1 : All64 y1) (cu1 : x1.length ≤ c1) (cz1 : y1.length ≤ d1) (r2 : Row w p2 x2) (s2 : Row w q2 y2) (l2 : x2.length ≤ maxLen) (m2 : y2.length ≤ maxLen) (n2 : All64 x2) (o2 : All64 y2) (cu2 : x2.length ≤ c2) (cz2 : y2.length ≤ d2) (r3 : Row w p3 x3) (s3 : Row w q3 y3) (l3 : x3.length ≤ maxLen) (m3 : y3.length ≤ maxLen) (n3 : All64 x3) (o3 : All64 y3) (cu3 : x3.length ≤ c3) (cz3 : y3.length ≤ d3) :
    Calls Try.prog 4 #[.int .i64 a0, arrV b1 p1 x1.length c1 q1 y1.length d1, arrV b2 p2 x2.length c2 q2 y2.length d2, arrV b3 p3 x3.length c3 q3 y3.length d3] w fun e w' => e = .returned (.bool true) ∧ Below w.heap.size w w' := by
  have E := ((((((((((Env.start w).addRow s3).addRow r3).addRow s2).addRow r2).addRow s1).addRow r1).box b1 p1 x1.length c1 q1 y1.length d1).box b2 p2 x2.length c2 q2 y2.length d2).box b3 p3 x3.length c3 q3 y3.length d3)
  replace E := (E.alloc (.cells #[.int .i64 5, .int .i64 7] 3)).addRow (row_lit _ [5, 7] _ _ rfl)
  try simp only [World.size_alloc] at E
  have hfa := Lib.hid parts_fact
  replace l1 := Lib.hid l1
  replace m1 := Lib.hid m1
  replace n1 := Lib.hid n1
  replace o1 := Lib.hid o1
  replace cu1 := Lib.hid cu1
  replace cz1 := Lib.hid cz1
  clear r1
  clear s1
  replace l2 := Lib.hid l2
  replace m2 := Lib.hid m2
  replace n2 := Lib.hid n2
  replace o2 := Lib.hid o2
  replace cu2 := Lib.hid cu2
  replace cz2 := Lib.hid cz2
  clear r2
  clear s2
  replace l3 := Lib.hid l3
  replace m3 := Lib.hid m3
  replace n3 := Lib.hid n3
  replace o3 := Lib.hid o3
  replace cu3 := Lib.hid cu3
  replace cz3 := Lib.hid cz3
  clear r3
  clear s3
  clear w0
  go_enter Try.func4, Try.ntmps4
  go_wp2_with fail
  refine (lawVec_any _ [5, 7] _ _ _ (E.getRow 0 rfl) (by simp) rfl).mono ?_
  rintro e v1 ⟨ap, ep, kp, rfl, ra, rb, hb⟩
  dsimp only [List.length_cons, List.length_nil, Nat.reduceAdd] at ra rb ⊢
  replace E := (((E.step hb).drop1).addRow rb).addRow ra
  clear ra rb hb
  replace E := (E.alloc (.cells #[.int .i64 1, .int .i64 2] 3)).addRow (row_lit _ [1, 2] _ _ rfl)
  try simp only [World.size_alloc] at E
  go_wp2_with fail
  refine (lawVec_any _ [1, 2] _ _ _ (E.getRow 0 rfl) (by simp) rfl).mono ?_
  rintro e v2 ⟨aq, eq, kq, rfl, ra, rb, hb⟩
  dsimp only [List.length_cons, List.length_nil, Nat.reduceAdd] at ra rb ⊢
  replace E := (((E.step hb).drop1).addRow rb).addRow ra
  clear ra rb hb
  go_wp2_with fail
  refine (outer_any 2 false false ap ep aq eq [2] [5, 7] [2] [1, 2] 1 1 2 kp 1 1 2 kq _ (E.getRow 2 rfl) (E.getRow 3 rfl) (by simp [maxLen]) (by simp [maxLen]) (by intro x hx; simp at hx; unfold I64; omega) rfl rfl (E.getRow 0 rfl) (E.getRow 1 rfl) (by simp [maxLen]) (by simp [maxLen]) (by intro x hx; simp at hx; unfold I64; omega) rfl rfl).mono ?_
  intro e v3 hp
  obtain ⟨af, cf, ef, kf, rfl, ra, rb, -, -, hcf, hb⟩ := hp.is_ok hfa.out
  clear hp
  dsimp only [List.length_cons, List.length_nil, Nat.reduceAdd] at ra rb hcf ⊢
  replace E := (((E.step hb).addRow rb).addRow ra).box false af 2 cf ef 4 kf
  clear ra rb hb
  replace E := (E.alloc (.cells #[.int .i64 4, .int .i64 3, .int .i64 6, .int .i64 5] 3)).addRow (row_lit _ [4, 3, 6, 5] _ _ rfl)
  try simp only [World.size_alloc] at E
  obtain ⟨⟨u0, u1, u2⟩, -, -, -⟩ := E.getBox 1 rfl
  go_wp2_with fail
  refine (ints_any ef _ [4, 3, 6, 5] [4, 3, 6, 5] _ _ kf _ _ (E.getRow 3 rfl) (E.getRow 0 rfl) (by simp [maxLen]) (by simp [maxLen]) rfl rfl).mono ?_
  rintro e v4 ⟨rfl, n4, hv4⟩
  rw [decide_eq_true (rfl : ([4, 3, 6, 5] : List Int) = [4, 3, 6, 5])]
  replace E := E.drew n4
  rw [← hv4] at E
  replace hv4 := Lib.hid hv4
  clear u0 u1 u2
  replace E := E.drop1
  replace E := E.drop1
  replace E := E.drop1
  replace E := E.drop1
  replace E := E.drop1
  replace E := E.drop1
  replace E := E.drop1
  replace E := E.drop1
  obtain ⟨⟨u0, u1, u2⟩, -, -, -⟩ := E.getBox 2 rfl
  obtain ⟨⟨t0, t1, t2⟩, -, -, -⟩ := E.getBox 1 rfl
  go_wp2_with fail
  refine (join0_any b1 b2 p1 q1 p2 q2 x1 y1 x2 y2 _ c1 _ d1 _ c2 _ d2 _ (E.getRow 3 rfl) (E.getRow 4 rfl) l1.out m1.out o1.out cz1.out rfl rfl (E.getRow 5 rfl) (E.getRow 6 rfl) l2.out m2.out o2.out cz2.out rfl rfl).mono ?_
  intro e v5 hp
  cases hj : M.join0 ⟨b1, x1, y1⟩ ⟨b2, x2, y2⟩ with
  | error x9 =>
    obtain ⟨rfl, hb⟩ := hp.is_error hj
    clear hp
    replace hj := Lib.hid hj
    have hbel := ((E.step hb).box false none 0 0 none 0 0).bel
    clear E
    go_wp2
    go_ret
    exact ⟨rfl, hbel⟩
  | ok X0 =>
  obtain ⟨lsX, ldX, x64⟩ := join0_fits hj o1.out o2.out
  replace lsX := Lib.hid lsX
  replace ldX := Lib.hid ldX
  replace x64 := Lib.hid x64
  obtain ⟨aX, cX, eX, kX, rfl, ra, rb, hb⟩ := hp.is_ok hj
  clear hp
  clear u0 u1 u2 t0 t1 t2
  dsimp only [List.length_cons, List.length_nil, Nat.reduceAdd] at ra rb ⊢
  replace E := (((E.step hb).addRow rb).addRow ra).box X0.ch aX X0.s.length cX eX X0.d.length kX
  clear ra rb hb
  replace hj := Lib.hid hj
  obtain ⟨⟨u0, u1, u2⟩, -, -, -⟩ := E.getBox 0 rfl
  obtain ⟨⟨t0, t1, t2⟩, -, -, -⟩ := E.getBox 3 rfl
  go_wp2_with fail
  refine (outerG_any a0 X0.ch b3 aX eX p3 q3 X0.s X0.d x3 y3 _ cX _ kX _ c3 _ d3 _ (E.getRow 1 rfl) (E.getRow 2 rfl) lsX.out ldX.out x64.out rfl rfl (E.getRow 10 rfl) (E.getRow 11 rfl) l3.out m3.out o3.out rfl rfl).mono ?_
  intro e v6 hp
  cases hy : M.outer a0 ⟨X0.ch, X0.s, X0.d⟩ ⟨b3, x3, y3⟩ with
  | error x9 =>
    obtain ⟨rfl, hb⟩ := hp.is_error hy
    clear hp
    replace hy := Lib.hid hy
    have hbel := ((E.step hb).box false none 0 0 none 0 0).bel
    clear E
    go_wp2
    go_ret
    exact ⟨rfl, hbel⟩
  | ok Y0 =>
  obtain ⟨P0, Q0, hP, hQ, hZ, p64, q64, lP, lQ, mP, mQ, lY, mY⟩ := parts_is hj.out hy o1.out o2.out o3.out
  obtain ⟨fa, fc, L0, hL⟩ := outer_fine hP
  replace hP := Lib.hid hP
  replace hQ := Lib.hid hQ
  replace hZ := Lib.hid hZ
  replace p64 := Lib.hid p64
  replace q64 := Lib.hid q64
  replace lP := Lib.hid lP
  replace lQ := Lib.hid lQ
  replace mP := Lib.hid mP
  replace mQ := Lib.hid mQ
  replace lY := Lib.hid lY
  replace mY := Lib.hid mY
  replace fa := Lib.hid fa
  replace fc := Lib.hid fc
  replace hL := Lib.hid hL
  obtain ⟨aY, cY, eY, kY, rfl, ra, rb, -, -, hcY, hkY, hb⟩ := hp.is_ok hy
  clear hp
  clear u0 u1 u2 t0 t1 t2
  dsimp only [List.length_cons, List.length_nil, Nat.reduceAdd] at ra rb hcY ⊢
  replace E := (((E.step hb).addRow rb).addRow ra).box Y0.ch aY Y0.s.length cY eY Y0.d.length kY
  clear ra rb hb
  replace hy := Lib.hid hy
  obtain ⟨⟨u0, u1, u2⟩, -, -, -⟩ := E.getBox 8 rfl
  obtain ⟨⟨t0, t1, t2⟩, -, -, -⟩ := E.getBox 6 rfl
  go_wp2_with fail
  refine (outerG_any a0 b1 b3 p1 q1 p3 q3 x1 y1 x3 y3 _ c1 _ d1 _ c3 _ d3 _ (E.getRow 9 rfl) (E.getRow 10 rfl) l1.out m1.out o1.out rfl rfl (E.getRow 13 rfl) (E.getRow 14 rfl) l3.out m3.out o3.out rfl rfl).mono ?_
  intro e v7 hp
  obtain ⟨aP, cP, eP, kP, rfl, ra, rb, -, -, hcP, hkP, hb⟩ := hp.is_ok hP.out
  clear hp
  clear u0 u1 u2 t0 t1 t2
  dsimp only [List.length_cons, List.length_nil, Nat.reduceAdd] at ra rb hcP ⊢
  replace E := (((E.step hb).addRow rb).addRow ra).box P0.ch aP P0.s.length cP eP P0.d.length kP
  clear ra rb hb
  obtain ⟨⟨u0, u1, u2⟩, -, -, -⟩ := E.getBox 10 rfl
  obtain ⟨⟨t0, t1, t2⟩, -, -, -⟩ := E.getBox 9 rfl
  go_wp2_with fail
  refine (outerG_any a0 b2 b3 p2 q2 p3 q3 x2 y2 x3 y3 _ c2 _ d2 _ c3 _ d3 _ (E.getRow 14 rfl) (E.getRow 15 rfl) l2.out m2.out o2.out rfl rfl (E.getRow 16 rfl) (E.getRow 17 rfl) l3.out m3.out o3.out rfl rfl).mono ?_
  intro e v8 hp
  obtain ⟨aQ, cQ, eQ, kQ, rfl, ra, rb, -, -, hcQ, hkQ, hb⟩ := hp.is_ok hQ.out
  clear hp
  clear u0 u1 u2 t0 t1 t2
  dsimp only [List.length_cons, List.length_nil, Nat.reduceAdd] at ra rb hcQ ⊢
  replace E := (((E.step hb).addRow rb).addRow ra).box Q0.ch aQ Q0.s.length cQ eQ Q0.d.length kQ
  clear ra rb hb
  obtain ⟨⟨u0, u1, u2⟩, -, -, -⟩ := E.getBox 3 rfl
  obtain ⟨⟨t0, t1, t2⟩, -, -, -⟩ := E.getBox 0 rfl
  go_wp2_with fail
  refine (join0_any P0.ch Q0.ch aP eP aQ eQ P0.s P0.d Q0.s Q0.d _ cP _ kP _ cQ _ kQ _ (E.getRow 4 rfl) (E.getRow 5 rfl) lP.out mP.out p64.out hkP rfl rfl (E.getRow 1 rfl) (E.getRow 2 rfl) lQ.out mQ.out q64.out hkQ rfl rfl).mono ?_
  intro e v9 hp
  obtain ⟨aZ, cZ, eZ, kZ, rfl, ra, rb, hb⟩ := hp.is_ok hZ.out
  clear hp
  clear u0 u1 u2 t0 t1 t2
  dsimp only [List.length_cons, List.length_nil, Nat.reduceAdd] at ra rb ⊢
  replace E := (((E.step hb).addRow rb).addRow ra).box Y0.ch aZ Y0.s.length cZ eZ Y0.d.length kZ
  clear ra rb hb
  obtain ⟨⟨u0, u1, u2⟩, -, -, -⟩ := E.getBox 9 rfl
  obtain ⟨⟨t0, t1, t2⟩, -, -, -⟩ := E.getBox 0 rfl
  go_wp2_with fail
  refine (alike_any Y0.ch Y0.ch aY eY aZ eZ Y0.s Y0.d Y0.s Y0.d _ cY _ kY _ cZ _ kZ _ (E.getRow 10 rfl) (E.getRow 11 rfl) lY.out mY.out rfl rfl (E.getRow 1 rfl) (E.getRow 2 rfl) lY.out mY.out rfl rfl).mono ?_
  rintro e v10 ⟨rfl, hb⟩
  rw [decide_eq_true (rfl : (⟨Y0.ch, Y0.s, Y0.d⟩ : Arr) = ⟨Y0.ch, Y0.s, Y0.d⟩)]
  replace E := E.step hb
  clear hb
  clear u0 u1 u2 t0 t1 t2
  replace E := E.drop1
  replace E := E.drop1
  replace E := E.drop1
  replace E := E.drop1
  replace E := E.drop1
  replace E := E.drop1
  replace E := E.drop1
  replace E := E.drop1
  replace E := E.drop1
  replace E := E.drop1
  replace E := E.drop1
  replace E := E.drop1
  replace E := E.drop1
  replace E := E.drop1
  replace E := E.drop1
  clear hcY hcP hcQ hkY hkP hkQ
  obtain ⟨⟨u0, u1, u2⟩, -, -, -⟩ := E.getBox 2 rfl
  obtain ⟨⟨t0, t1, t2⟩, -, -, -⟩ := E.getBox 0 rfl
  cases b3 with
  | true =>
    have hbel := E.bel
    clear E
    go_wp2
    go_ret
    exact ⟨rfl, hbel⟩
  | false =>
  cases b1 with
  | true =>
    have hbel := E.bel
    clear E
    go_wp2
    go_ret
    exact ⟨rfl, hbel⟩
  | false =>
  by_cases h1 : x1.length = 1
  case neg =>
    have th1 : (((x1.length : Nat) : Int) != 1) = true := by rw [bne_iff_ne]; omega
    have hbel := E.bel
    replace h1 := Lib.hid h1
    clear E
    go_wp2
    go_ret
    exact ⟨rfl, hbel⟩
  have th1 : (((x1.length : Nat) : Int) != 1) = false := by rw [h1]; rfl
  replace h1 := Lib.hid h1
  by_cases h3 : x3.length = 1
  case neg =>
    have th3 : (((x3.length : Nat) : Int) != 1) = true := by rw [bne_iff_ne]; omega
    have hbel := E.bel
    replace h3 := Lib.hid h3
    clear E
    go_wp2
    go_ret
    exact ⟨rfl, hbel⟩
  have th3 : (((x3.length : Nat) : Int) != 1) = false := by rw [h3]; rfl
  replace h3 := Lib.hid h3
  obtain ⟨N, hN⟩ := one_axis fa.out h1.out
  obtain ⟨K, hK⟩ := one_axis fc.out h3.out
  have hL2 := hL.out
  try dsimp only at hL2 hN hK
  rw [hN, hK] at hL2
  obtain ⟨T, R, v0, hU, t64, lT, fT, hN4, hyK, hR1, hR0, v64, hW, lR⟩ := rows_is (a := ⟨false, x1, y1⟩) (c := ⟨false, x3, y3⟩) fa.out fc.out rfl rfl hN hK o1.out o3.out hL2
  try dsimp only at hyK
  have fC2 : M.flaw false ([] ++ [(K : Int)]) y3 = 0 := by have := fc.out; rw [hK] at this; exact this
  replace hL2 := Lib.hid hL2
  replace hU := Lib.hid hU
  replace t64 := Lib.hid t64
  replace lT := Lib.hid lT
  replace fT := Lib.hid fT
  replace hN4 := Lib.hid hN4
  replace hyK := Lib.hid hyK
  replace hR1 := Lib.hid hR1
  replace hR0 := Lib.hid hR0
  replace v64 := Lib.hid v64
  replace hW := Lib.hid hW
  replace lR := Lib.hid lR
  replace hN := Lib.hid hN
  replace hK := Lib.hid hK
  replace fC2 := Lib.hid fC2
  clear u0 u1 u2 t0 t1 t2
  obtain ⟨⟨u0, u1, u2⟩, -, -, -⟩ := E.getBox 2 rfl
  obtain ⟨⟨t0, t1, t2⟩, -, -, -⟩ := E.getBox 0 rfl
  go_wp2_with fail
  refine (outerG_any 3 false false p1 q1 p3 q3 x1 y1 x3 y3 _ c1 _ d1 _ c3 _ d3 _ (E.getRow 3 rfl) (E.getRow 4 rfl) l1.out m1.out o1.out rfl rfl (E.getRow 7 rfl) (E.getRow 8 rfl) l3.out m3.out o3.out rfl rfl).mono ?_
  intro e v11 hp
  obtain ⟨aU, cU, eU, kU, rfl, ra, rb, -, -, hcU, hkU, hb⟩ := hp.is_ok hU.out
  clear hp
  clear u0 u1 u2 t0 t1 t2
  dsimp only [List.length_cons, List.length_nil, Nat.reduceAdd] at ra rb hcU ⊢
  have lt_boxC_boxU := ((E.step hb).getBox 0 rfl).lt
  have lt_boxB_boxU := ((E.step hb).getBox 1 rfl).lt
  have lt_boxA_boxU := ((E.step hb).getBox 2 rfl).lt
  replace E := (((E.step hb).addRow rb).addRow ra).box false aU 2 cU eU T.length kU
  clear ra rb hb
  obtain ⟨⟨u0, u1, u2⟩, -, -, -⟩ := E.getBox 0 rfl
  go_wp2_with fail
  refine (reduce_at 1 rfl aU eU [(N : Int)] K T cU kU 1 2 _ rfl rfl (E.getRow 1 rfl) (E.getRow 2 rfl) lT.out t64.out fT.out (by have := hN4.out; simp [M.prod]; omega)).mono ?_
  intro e v12 hp
  obtain ⟨aS, cS, eS, kS, rfl, ra, rb, hb⟩ := hp.is_ok hR1.out
  clear hp
  clear u0 u1 u2
  dsimp only [List.length_cons, List.length_nil, Nat.reduceAdd] at ra rb ⊢
  replace E := E.step hb
  obtain ⟨⟨g0, g1, g2⟩, g3, g4, g5⟩ := E.getBox 0 rfl
  have E6 := Env.store (w0 := w) (w := v12) (N := v11.heap.size) (ch := false) (a := aU) (m := 2) (c := cU) (b := eU) (n := T.length) (z := kU)
    (((((((((((((((Env.base E.bel).addRow (E.getRow 11 rfl)).addRow (E.getRow 10 rfl)).addRow (E.getRow 9 rfl)).addRow (E.getRow 8 rfl)).addRow (E.getRow 7 rfl)).addRow (E.getRow 6 rfl)).add (f := .box _ _ _ _ _ _ _ _) (E.getBox 5 rfl)).add (f := .box _ _ _ _ _ _ _ _) (E.getBox 4 rfl)).add (f := .box _ _ _ _ _ _ _ _) (E.getBox 3 rfl)).addRow (E.getRow 2 rfl)).addRow (E.getRow 1 rfl)).addRow rb).addRow ra).add (f := .box _ _ _ _ _ _ _ _) (E.getBox 0 rfl)) (by omega) (by
      intro i N' ch' a' m' c' b' n' z' h
      match i with
      | 0 => cases h
      | 1 => cases h
      | 2 => cases h
      | 3 => cases h
      | 4 => cases h; omega
      | 5 => cases h; omega
      | 6 => cases h; omega
      | 7 => cases h
      | 8 => cases h
      | 9 => cases h
      | 10 => cases h
      | 11 => cases h
      | 12 => cases h
      | i + 13 => cases h) false aS 1 cS eS R.length kS
  replace E := E6
  clear E6 ra rb hb
  obtain ⟨⟨u0, u1, u2⟩, -, -, -⟩ := E.getBox 5 rfl
  go_wp2_with fail
  refine (reduce_at 1 rfl p3 q3 [] K y3 c3 d3 0 x3.length _ rfl h3.out (by rw [List.nil_append, ← hK.out]; exact (E.getRow 12 rfl)) (E.getRow 13 rfl) m3.out o3.out fC2.out (by simp [M.prod])).mono ?_
  intro e v13 hp
  obtain ⟨aV, cV, eV, kV, rfl, ra, rb, hb⟩ := hp.is_ok hR0.out
  clear hp
  clear g0 g1 g2 g3 g4 g5 u0 u1 u2
  dsimp only [List.length_cons, List.length_nil, Nat.reduceAdd] at ra rb ⊢
  have lt_boxU_boxV := ((E.step hb).getBox 0 rfl).lt
  replace E := (((E.step hb).addRow rb).addRow ra).box false aV 0 cV eV 1 kV
  clear ra rb hb
  obtain ⟨⟨u0, u1, u2⟩, -, -, -⟩ := E.getBox 10 rfl
  obtain ⟨⟨t0, t1, t2⟩, -, -, -⟩ := E.getBox 0 rfl
  go_wp2_with fail
  refine (each2_any 3 false false p1 q1 aV eV x1 y1 [] [v0] _ c1 _ d1 0 cV 1 kV _ (E.getRow 11 rfl) (E.getRow 12 rfl) l1.out m1.out o1.out rfl rfl (E.getRow 1 rfl) (E.getRow 2 rfl) (by simp [maxLen]) (by simp [maxLen]) (by intro x hx; simp at hx; rw [hx]; exact v64.out) rfl rfl).mono ?_
  intro e v14 hp
  obtain ⟨aW, cW, eW, kW, rfl, ra, rb, -, -, hcW, hb⟩ := hp.is_ok hW.out
  clear hp
  clear u0 u1 u2 t0 t1 t2
  dsimp only [List.length_cons, List.length_nil, Nat.reduceAdd] at ra rb hcW ⊢
  have lt_boxU_boxW := ((E.step hb).getBox 3 rfl).lt
  replace E := (((E.step hb).addRow rb).addRow ra).box false aW 1 cW eW R.length kW
  clear ra rb hb
  obtain ⟨⟨u0, u1, u2⟩, -, -, -⟩ := E.getBox 6 rfl
  obtain ⟨⟨t0, t1, t2⟩, -, -, -⟩ := E.getBox 0 rfl
  go_wp2_with fail
  refine (alike_any false false aS eS aW eW [(N : Int)] R [(N : Int)] R 1 cS _ kS 1 cW _ kW _ (E.getRow 7 rfl) (E.getRow 8 rfl) (by simp [maxLen]) lR.out rfl rfl (E.getRow 1 rfl) (E.getRow 2 rfl) (by simp [maxLen]) lR.out rfl rfl).mono ?_
  rintro e v15 ⟨rfl, hb⟩
  rw [decide_eq_true (rfl : (⟨false, [(N : Int)], R⟩ : Arr) = ⟨false, [(N : Int)], R⟩)]
  replace E := E.step hb
  clear hb
  clear u0 u1 u2 t0 t1 t2
  have hbel := E.bel
  clear E
  go_wp2
  go_ret
  exact ⟨rfl, hbel⟩
end Go.Proofs.Ytfnoalbnkbifmaa
