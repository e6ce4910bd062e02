/- The walk of the law ReachSteps: it returns true at all arrays. No condition. -/
import Derived.Test.YtiebknfmmanbiaaStepsPlain
import Derived.Test.YtiebknfmmanbiaaWkChain
import Derived.Test.YtiebknfmmanbiaaWkInner
import Derived.Test.YtiebknfmmanbiaaWkAlike
import Derived.Test.YtiebknfmmanbiaaWkEach
import Derived.Test.YtiebknfmmanbiaaWkFlip
namespace Go.Proofs.Ytiebknfmmanbiaa
open Go.RowKit


set_option maxRecDepth 20000 in
set_option maxHeartbeats 16000000 in
theorem reachSteps_walk (b0 : Bool) (p0 q0 : Option Addr) (x0 y0 : List Int) (c0 d0 : Nat) (w : World) (r0 : Row w p0 x0) (s0 : Row w q0 y0) (l0 : x0.length ≤ maxLen) (m0 : y0.length ≤ maxLen) (n0 : All64 x0) (o0 : All64 y0) (cu0 : x0.length ≤ c0) (cz0 : y0.length ≤ d0) :
    Calls Try.prog 10 #[arrV b0 p0 x0.length c0 q0 y0.length d0] w fun e w' => e = .returned (.bool true) ∧ Below w.heap.size w w' := by
  have E := ((((Env.start w).addRow s0).addRow r0).box b0 p0 x0.length c0 q0 y0.length d0)
  by_cases hf : M.relFault ⟨b0, x0, y0⟩ = 0
  case neg =>
    have hr := Lib.hid (show M.close ⟨b0, x0, y0⟩ = .error (M.relFault ⟨b0, x0, y0⟩) from if_neg hf)
    have hc := fun w h1 h2 => closeF_any b0 p0 q0 x0 y0 _ c0 _ d0 w h1 h2 l0 m0 rfl rfl
    generalize M.relFault ⟨b0, x0, y0⟩ = nn at *
    replace hf := Lib.hid hf
    replace hc := Lib.hid hc
    go_enter Try.func10, Try.ntmps10
    go_wp2_with fail
    refine (chain_any _).mono ?_
    rintro e w1 ⟨rfl, hb⟩
    replace E := E.step hb
    clear hb
    obtain ⟨⟨u0, u1, u2⟩, -, -, -⟩ := E.getBox 0 rfl
    go_wp2_with fail
    refine (hc.out _ (E.getRow 1 rfl) (E.getRow 2 rfl)).mono ?_
    intro e w2 hp
    obtain ⟨rfl, hb⟩ := hp.is_error hr.out
    replace E := E.step hb
    clear hp u0 u1 u2
    go_wp2
    go_ret
    exact ⟨rfl, (E.box false none 0 0 none 0 0).bel⟩
  obtain ⟨n, hn, hb0, hx0, hD, hN, h01, hfl⟩ := rel_parts hf
  dsimp only at hb0 hx0 hD h01 hfl
  subst hb0
  subst hx0
  obtain ⟨X, Y, T, U, h1, h2, h3, h4, h5, h6, ⟨X64, lX⟩, ⟨Y64, lY⟩, lT, lU⟩ := steps_all hn hD h01
  have hnn : n * n ≤ 24 * 24 := Nat.mul_le_mul hn hn
  have mX : X.length ≤ maxLen := by rw [lX]; unfold maxLen; omega
  have mY : Y.length ≤ maxLen := by rw [lY]; unfold maxLen; omega
  have mT : T.length ≤ maxLen := by rw [lT]; unfold maxLen; omega
  have mU : U.length ≤ maxLen := by rw [lU]; unfold maxLen; omega
  have fX : M.flaw false [(n : Int), (n : Int)] X = 0 := flaw_mat (by omega) (by omega) lX
  simp only [List.length_cons, List.length_nil, Nat.zero_add, Nat.reduceAdd] at E cu0 ⊢
  replace hf := Lib.hid hf
  replace hN := Lib.hid hN
  replace hD := Lib.hid hD
  replace h01 := Lib.hid h01
  replace hfl := Lib.hid hfl
  replace h1 := Lib.hid h1
  replace h2 := Lib.hid h2
  replace h3 := Lib.hid h3
  replace h4 := Lib.hid h4
  replace h5 := Lib.hid h5
  replace h6 := Lib.hid h6
  replace X64 := Lib.hid X64
  replace Y64 := Lib.hid Y64
  replace lX := Lib.hid lX
  replace lY := Lib.hid lY
  replace lT := Lib.hid lT
  replace lU := Lib.hid lU
  replace mX := Lib.hid mX
  replace mY := Lib.hid mY
  replace mT := Lib.hid mT
  replace mU := Lib.hid mU
  replace fX := Lib.hid fX
  replace l0 := Lib.hid l0
  replace m0 := Lib.hid m0
  replace n0 := Lib.hid n0
  replace o0 := Lib.hid o0
  replace cu0 := Lib.hid cu0
  replace cz0 := Lib.hid cz0
  clear hnn r0 s0
  go_enter Try.func10, Try.ntmps10
  go_wp2_with fail
  refine (chain_any _).mono ?_
  rintro e v1 ⟨rfl, hb⟩
  replace E := E.step hb
  clear hb
  obtain ⟨⟨u0, u1, u2⟩, -, -, -⟩ := E.getBox 0 rfl
  go_wp2_with fail
  refine (closeF_any false p0 q0 [(n : Int), (n : Int)] y0 2 c0 _ d0 _ (E.getRow 1 rfl) (E.getRow 2 rfl) (by simp [maxLen]) m0.out rfl rfl).mono ?_
  intro e v2 hp
  obtain ⟨aX, cX, eX, kX, rfl, ra, rb, -, -, hcX, hb⟩ := hp.is_ok h1.out
  clear hp
  clear u0 u1 u2
  dsimp only [List.length_cons, List.length_nil, Nat.reduceAdd] at ra rb hcX ⊢
  replace E := (((E.step hb).addRow rb).addRow ra).box false aX 2 cX eX X.length kX
  clear ra rb hb
  obtain ⟨⟨u0, u1, u2⟩, -, -, -⟩ := E.getBox 3 rfl
  obtain ⟨⟨t0, t1, t2⟩, -, -, -⟩ := E.getBox 0 rfl
  go_wp2_with fail
  refine (inner_num 15 14 ⟨0, rfl⟩ false false rfl rfl p0 q0 aX eX [(n : Int), (n : Int)] y0 [(n : Int), (n : Int)] X 2 c0 _ d0 2 cX _ kX _ (E.getRow 4 rfl) (E.getRow 5 rfl) (by simp [maxLen]) m0.out o0.out cu0.out rfl rfl (E.getRow 1 rfl) (E.getRow 2 rfl) (by simp [maxLen]) mX.out X64.out hcX rfl rfl).mono ?_
  intro e v3 hp
  obtain ⟨aY, cY, eY, kY, rfl, ra, rb, -, -, hcY, hb⟩ := hp.is_ok h2.out
  clear hp
  clear u0 u1 u2 t0 t1 t2
  dsimp only [List.length_cons, List.length_nil, Nat.reduceAdd] at ra rb hcY ⊢
  replace E := (((E.step hb).addRow rb).addRow ra).box false aY 2 cY eY Y.length kY
  clear ra rb hb
  obtain ⟨⟨u0, u1, u2⟩, -, -, -⟩ := E.getBox 6 rfl
  obtain ⟨⟨t0, t1, t2⟩, -, -, -⟩ := E.getBox 0 rfl
  go_wp2_with fail
  refine (each2_any 15 false false p0 q0 aY eY [(n : Int), (n : Int)] y0 [(n : Int), (n : Int)] Y 2 c0 _ d0 2 cY _ kY _ (E.getRow 7 rfl) (E.getRow 8 rfl) (by simp [maxLen]) m0.out o0.out rfl rfl (E.getRow 1 rfl) (E.getRow 2 rfl) (by simp [maxLen]) mY.out Y64.out rfl rfl).mono ?_
  intro e v4 hp
  obtain ⟨aZ, cZ, eZ, kZ, rfl, ra, rb, -, -, hcZ, hb⟩ := hp.is_ok h3.out
  clear hp
  clear u0 u1 u2 t0 t1 t2
  dsimp only [List.length_cons, List.length_nil, Nat.reduceAdd] at ra rb hcZ ⊢
  replace E := (((E.step hb).addRow rb).addRow ra).box false aZ 2 cZ eZ X.length kZ
  clear ra rb hb
  obtain ⟨⟨u0, u1, u2⟩, -, -, -⟩ := E.getBox 0 rfl
  obtain ⟨⟨t0, t1, t2⟩, -, -, -⟩ := E.getBox 6 rfl
  go_wp2_with fail
  refine (alike_any false false aZ eZ aX eX [(n : Int), (n : Int)] X [(n : Int), (n : Int)] X 2 cZ _ kZ 2 cX _ kX _ (E.getRow 1 rfl) (E.getRow 2 rfl) (by simp [maxLen]) mX.out rfl rfl (E.getRow 7 rfl) (E.getRow 8 rfl) (by simp [maxLen]) mX.out rfl rfl).mono ?_
  rintro e v5 ⟨rfl, hb⟩
  rw [decide_eq_true (rfl : (⟨false, [(n : Int), (n : Int)], X⟩ : Arr) = ⟨false, [(n : Int), (n : Int)], X⟩)]
  replace E := E.step hb
  clear hb
  clear u0 u1 u2 t0 t1 t2
  replace E := (E.alloc (.cells #[.int .i64 1, .int .i64 0] 3)).addRow (row_lit _ [1, 0] _ _ rfl)
  try simp only [World.size_alloc] at E
  obtain ⟨⟨u0, u1, u2⟩, -, -, -⟩ := E.getBox 10 rfl
  go_wp2_with fail
  refine (flip_any false p0 q0 _ n n y0 c0 d0 _ _ (E.getRow 0 rfl) (E.getRow 11 rfl) (E.getRow 12 rfl) m0.out hfl.out).mono ?_
  intro e v6 hp
  rw [h4.out] at hp
  obtain ⟨aB, cB, eB, kB, rfl, ra, rb, -, -, hcB, hb⟩ := hp.is_ok rfl
  clear hp
  clear u0 u1 u2
  dsimp only [List.length_cons, List.length_nil, Nat.reduceAdd] at ra rb hcB ⊢
  replace E := (((E.step hb).addRow rb).addRow ra).box false aB 2 cB eB T.length kB
  clear ra rb hb
  obtain ⟨⟨u0, u1, u2⟩, -, -, -⟩ := E.getBox 0 rfl
  go_wp2_with fail
  refine (closeF_any false aB eB [(n : Int), (n : Int)] T 2 cB _ kB _ (E.getRow 1 rfl) (E.getRow 2 rfl) (by simp [maxLen]) mT.out rfl rfl).mono ?_
  intro e v7 hp
  obtain ⟨aU, cU, eU, kU, rfl, ra, rb, -, -, hcU, hb⟩ := hp.is_ok h5.out
  clear hp
  clear u0 u1 u2
  dsimp only [List.length_cons, List.length_nil, Nat.reduceAdd] at ra rb hcU ⊢
  replace E := (((E.step hb).addRow rb).addRow ra).box false aU 2 cU eU U.length kU
  clear ra rb hb
  replace E := (E.alloc (.cells #[.int .i64 1, .int .i64 0] 3)).addRow (row_lit _ [1, 0] _ _ rfl)
  try simp only [World.size_alloc] at E
  obtain ⟨⟨u0, u1, u2⟩, -, -, -⟩ := E.getBox 14 rfl
  go_wp2_with fail
  refine (flip_any false aX eX _ n n X cX kX _ _ (E.getRow 0 rfl) (E.getRow 15 rfl) (E.getRow 16 rfl) mX.out fX.out).mono ?_
  intro e v8 hp
  rw [h6.out] at hp
  obtain ⟨aV, cV, eV, kV, rfl, ra, rb, -, -, hcV, hb⟩ := hp.is_ok rfl
  clear hp
  clear u0 u1 u2
  dsimp only [List.length_cons, List.length_nil, Nat.reduceAdd] at ra rb hcV ⊢
  replace E := (((E.step hb).addRow rb).addRow ra).box false aV 2 cV eV U.length kV
  clear ra rb hb
  obtain ⟨⟨u0, u1, u2⟩, -, -, -⟩ := E.getBox 4 rfl
  obtain ⟨⟨t0, t1, t2⟩, -, -, -⟩ := E.getBox 0 rfl
  go_wp2_with fail
  refine (alike_any false false aU eU aV eV [(n : Int), (n : Int)] U [(n : Int), (n : Int)] U 2 cU _ kU 2 cV _ kV _ (E.getRow 5 rfl) (E.getRow 6 rfl) (by simp [maxLen]) mU.out rfl rfl (E.getRow 1 rfl) (E.getRow 2 rfl) (by simp [maxLen]) mU.out rfl rfl).mono ?_
  rintro e v9 ⟨rfl, hb⟩
  rw [decide_eq_true (rfl : (⟨false, [(n : Int), (n : Int)], U⟩ : Arr) = ⟨false, [(n : Int), (n : Int)], U⟩)]
  replace E := E.step hb
  clear hb
  clear u0 u1 u2 t0 t1 t2
  go_wp2
  go_ret
  exact ⟨rfl, E.bel⟩
end Go.Proofs.Ytiebknfmmanbiaa
