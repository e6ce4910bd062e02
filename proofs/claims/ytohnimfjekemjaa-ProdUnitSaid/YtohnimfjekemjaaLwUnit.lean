/- The walk of the law ProdUnit: it returns true at all arrays. No condition. -/
import Derived.Test.YtohnimfjekemjaaUnitPlain
import Derived.Test.YtohnimfjekemjaaWkInner
import Derived.Test.YtohnimfjekemjaaWkAlike
import Derived.Test.YtohnimfjekemjaaInts
import Derived.Test.YtohnimfjekemjaaGrid
namespace Go.Proofs.Ytohnimfjekemjaa
open Go.RowKit

theorem row_at9 {w : World} {b o : Nat} {xs : List Int} (h : Row w (some ⟨b, o, none⟩) xs) {i : Nat} (hi : i < xs.length) : w.cell? ⟨b, o + i, none⟩ = some (.int .i64 (xs.getD i 0)) := by
  obtain ⟨b', o', e, hc⟩ := h i hi
  cases e
  exact hc
theorem unL_two : unL 2 = [1, 0, 0, 1] := by kernel_rfl

set_option maxRecDepth 20000 in
set_option maxHeartbeats 16000000 in
theorem prodUnit_walk (b0 : Bool) (p0 q0 : Option Addr) (x0 y0 : List Int) (c0 d0 : Nat) (w : World)
    (r0 : Row w p0 x0) (s0 : Row w q0 y0) (l0 : x0.length ≤ maxLen) (m0 : y0.length ≤ maxLen) (n0 : All64 x0) (o0 : All64 y0) (z0 : x0.length ≤ c0) (uu0 : y0.length ≤ d0) :
    Calls Try.prog 8 #[arrV b0 p0 x0.length c0 q0 y0.length d0] w fun e w' => e = .returned (.bool true) ∧ Below w.heap.size w w' := by
  have E := (((Env.start w).addRow s0).addRow r0).box b0 p0 x0.length c0 q0 y0.length d0
  have hga := fun w h => grid_any 16 b0 p0 q0 x0 y0 _ c0 _ d0 w h l0 m0 rfl rfl
  have hio := iota_upTo (n := 2) (by omega)
  replace hga := Lib.hid hga
  replace hio := Lib.hid hio
  replace l0 := Lib.hid l0
  replace m0 := Lib.hid m0
  replace o0 := Lib.hid o0
  replace z0 := Lib.hid z0
  clear n0 uu0
  go_enter Try.func8, Try.ntmps8
  go_wp2_with fail
  refine (iota_any ((2 : Nat) : Int) _ (by unfold I64; omega)).mono ?_
  intro e v1 hp
  obtain ⟨a1, k1, e1, j1, rfl, ra, rb, hb⟩ := hp.is_ok hio.out
  clear hp
  dsimp only [List.length_cons, List.length_nil, Nat.reduceAdd] at ra rb ⊢
  have E2 := (((E.step hb).addRow rb).addRow ra).box false a1 1 k1 e1 (upTo 2).length j1
  clear E ra rb hb
  -- [boxX 0, ra 1, rb 2, boxA 3, r0 4, s0 5]
  obtain ⟨⟨u0, u1, u2⟩, -, -, -⟩ := E2.getBox 0 rfl
  go_wp2_with fail
  refine (outer_num 8 eqF rfl eqF_two a1 e1 a1 e1 2 2 (upTo 2) (upTo 2) k1 j1 k1 j1 _ (E2.getRow 1 rfl) (E2.getRow 2 rfl) (upTo_i64 (by omega)) (E2.getRow 1 rfl) (E2.getRow 2 rfl) (upTo_i64 (by omega)) (upTo_length 2) (upTo_length 2) (by omega) (by omega)).mono ?_
  intro e v2 hp
  obtain ⟨a2, k2, e2, j2, rfl, ra, rb, -, -, -, hb⟩ := hp.is_ok rfl
  clear hp u0 u1 u2
  dsimp only [List.length_cons, List.length_nil, Nat.reduceAdd, Nat.reduceMul] at ra rb ⊢
  rw [show outL eqF (upTo 2) (upTo 2) 4 = [1, 0, 0, 1] from unL_two] at rb ⊢
  have E3 := (((((((E2.step hb).drop1).drop1).drop1).addRow rb).box false a2 2 k2 e2 4 j2).alloc (.cells #[.int .i64 1, .int .i64 0, .int .i64 0, .int .i64 1] 3)).addRow (row_lit _ [1, 0, 0, 1] _ _ rfl)
  clear E2 ra rb hb
  simp only [World.size_alloc] at E3
  dsimp only [List.length_cons, List.length_nil, Nat.reduceAdd] at ⊢
  -- [lit 0, boxF 1, rb 2, boxA 3, r0 4, s0 5]
  obtain ⟨⟨u0, u1, u2⟩, -, -, -⟩ := E3.getBox 1 rfl
  go_wp2_with fail
  refine (ints_any e2 _ [1, 0, 0, 1] [1, 0, 0, 1] _ _ j2 _ _ (E3.getRow 2 rfl) (E3.getRow 0 rfl) (by simp [maxLen]) (by simp [maxLen]) rfl rfl).mono ?_
  rintro e v3 ⟨rfl, n3, hv3⟩
  rw [decide_eq_true (rfl : ([1, 0, 0, 1] : List Int) = [1, 0, 0, 1])]
  have E4 := (((E3.drop1).drop1).drop1).drew n3
  rw [← hv3] at E4
  replace hv3 := Lib.hid hv3
  clear E3 u0 u1 u2
  -- [boxA 0, r0 1, s0 2]
  obtain ⟨⟨t0, t1, t2⟩, -, -, -⟩ := E4.getBox 0 rfl
  go_wp2_with fail
  refine (hga.out _ (E4.getRow 1 rfl)).mono ?_
  rintro e v4 ⟨rfl, hb⟩
  replace E4 := E4.step hb
  clear hb t0 t1 t2
  cases hqa : M.grid ⟨b0, x0, y0⟩ 16 with
  | false =>
    replace hqa := Lib.hid hqa
    go_wp2
    go_ret
    exact ⟨rfl, E4.bel⟩
  | true =>
  obtain ⟨m, p, hm, hp, hx, la⟩ := grid_parts hqa (by decide)
  rw [Arr.mk.injEq] at hx
  obtain ⟨rfl, rfl, -⟩ := hx
  dsimp only at la
  have m6 : m ≤ 64 := by omega
  have p6 : p ≤ 64 := by omega
  have hI1 := inner_unit_l m6 p6 o0.out la
  have hI2 := inner_unit_r m6 p6 o0.out la
  have um := Nat.mul_le_mul m6 m6
  have up := Nat.mul_le_mul p6 p6
  have lum : (unL m).length ≤ maxLen := by rw [unL_length]; unfold maxLen; omega
  have lup : (unL p).length ≤ maxLen := by rw [unL_length]; unfold maxLen; omega
  have hio1 := iota_upTo m6
  have hio2 := iota_upTo p6
  clear hio hga
  replace hio1 := Lib.hid hio1
  replace hio2 := Lib.hid hio2
  replace hI1 := Lib.hid hI1
  replace hI2 := Lib.hid hI2
  replace lum := Lib.hid lum
  replace lup := Lib.hid lup
  replace la := Lib.hid la
  replace hqa := Lib.hid hqa
  clear um up
  have rr := E4.getRow 1 rfl
  obtain ⟨ba, oa, rfl, -⟩ := rr 0 (by simp)
  have ca : v4.cell? ⟨ba, oa, none⟩ = some (.int .i64 (m : Int)) := by
    obtain ⟨_, _, e, h⟩ := rr 0 (by simp)
    cases e
    exact h
  dsimp only [List.length_cons, List.length_nil, Nat.reduceAdd] at E4 z0 ⊢
  obtain ⟨⟨t0, t1, t2⟩, -, -, -⟩ := E4.getBox 0 rfl
  go_wp2_with fail
  refine (iota_any (m : Int) _ (by unfold I64; omega)).mono ?_
  intro e v5 hp
  obtain ⟨a1, k1, e1, j1, rfl, ra, rb, hb⟩ := hp.is_ok hio1.out
  clear hp rr ca t0 t1 t2
  dsimp only [List.length_cons, List.length_nil, Nat.reduceAdd] at ra rb ⊢
  have ex : w.heap.size < v5.heap.size := ((E4.step hb).getBox 0 rfl).lt
  have E := (((E4.step hb).addRow rb).addRow ra).box false a1 1 k1 e1 (upTo m).length j1
  clear E4 ra rb hb
  -- [boxM 0, ra 1, rb 2, boxA 3, r0 4, s0 5]
  obtain ⟨⟨u0, u1, u2⟩, -, -, -⟩ := E.getBox 0 rfl
  go_wp2_with fail
  refine (outer_num 8 eqF rfl eqF_two a1 e1 a1 e1 m m (upTo m) (upTo m) k1 j1 k1 j1 _ (E.getRow 1 rfl) (E.getRow 2 rfl) (upTo_i64 m6) (E.getRow 1 rfl) (E.getRow 2 rfl) (upTo_i64 m6) (upTo_length m) (upTo_length m) m6 m6).mono ?_
  intro e v6 hp
  obtain ⟨a2, k2, e2, j2, rfl, ra, rb, -, -, hk2, hb⟩ := hp.is_ok rfl
  clear hp u0 u1 u2
  rw [show outL eqF (upTo m) (upTo m) (m * m) = unL m from rfl] at rb ⊢
  dsimp only [List.length_cons, List.length_nil, Nat.reduceAdd] at ra rb hk2 ⊢
  replace E := E.step hb
  obtain ⟨⟨u0, u1, u2⟩, g0, g1, g2⟩ := E.getBox 0 rfl
  have E6 := Env.store (w0 := w) (w := v6) (N := v5.heap.size) (ch := false) (a := a1) (m := 1) (c := k1) (b := e1) (n := (upTo m).length) (z := j1)
    ((((((((Env.base E.bel).addRow (E.getRow 5 rfl)).addRow (E.getRow 4 rfl)).add (f := .box _ _ _ _ _ _ _ _) (E.getBox 3 rfl)).addRow rb).addRow ra).add (f := .box _ _ _ _ _ _ _ _) (E.getBox 0 rfl))) (by omega) (by
      intro i N' ch' a' m' c' b' n' z' h
      match i with
      | 0 => cases h
      | 1 => cases h
      | 2 => cases h; omega
      | 3 => cases h
      | 4 => cases h
      | i + 5 => cases h) false a2 2 k2 e2 (unL m).length j2
  have E := E6
  clear E6 ra rb hb
  -- [boxM 0, ra 1, rb 2, boxA 3, r0 4, s0 5]
  have rr := E.getRow 4 rfl
  have ca := row_at9 rr (i := 1) (by simp)
  simp only [List.getD_cons_zero, List.getD_cons_succ] at ca
  obtain ⟨⟨t0, t1, t2⟩, -, -, -⟩ := E.getBox 3 rfl
  go_wp2_with fail
  refine (iota_any (p : Int) _ (by unfold I64; omega)).mono ?_
  intro e v7 hp
  obtain ⟨a3, k3, e3, j3, rfl, ra, rb, hb⟩ := hp.is_ok hio2.out
  clear hp rr ca t0 t1 t2 u0 u1 u2 g0 g1 g2
  dsimp only [List.length_cons, List.length_nil, Nat.reduceAdd] at ra rb ⊢
  have ex7 : w.heap.size < v7.heap.size := ((E.step hb).getBox 3 rfl).lt
  have ey7 : v5.heap.size < v7.heap.size := ((E.step hb).getBox 0 rfl).lt
  replace E := (((E.step hb).addRow rb).addRow ra).box false a3 1 k3 e3 (upTo p).length j3
  clear ra rb hb
  -- [boxN 0, ra 1, rb 2, boxM 3, raM 4, rbM 5, boxA 6, r0 7, s0 8]
  obtain ⟨⟨u0, u1, u2⟩, -, -, -⟩ := E.getBox 0 rfl
  go_wp2_with fail
  refine (outer_num 8 eqF rfl eqF_two a3 e3 a3 e3 p p (upTo p) (upTo p) k3 j3 k3 j3 _ (E.getRow 1 rfl) (E.getRow 2 rfl) (upTo_i64 p6) (E.getRow 1 rfl) (E.getRow 2 rfl) (upTo_i64 p6) (upTo_length p) (upTo_length p) p6 p6).mono ?_
  intro e v8 hp
  obtain ⟨a4, k4, e4, j4, rfl, ra, rb, -, -, hk4, hb⟩ := hp.is_ok rfl
  clear hp u0 u1 u2
  rw [show outL eqF (upTo p) (upTo p) (p * p) = unL p from rfl] at rb ⊢
  dsimp only [List.length_cons, List.length_nil, Nat.reduceAdd] at ra rb hk4 ⊢
  replace E := E.step hb
  obtain ⟨⟨u0, u1, u2⟩, g0, g1, g2⟩ := E.getBox 0 rfl
  have E6 := Env.store (w0 := w) (w := v8) (N := v7.heap.size) (ch := false) (a := a3) (m := 1) (c := k3) (b := e3) (n := (upTo p).length) (z := j3)
    (((((((((((Env.base E.bel).addRow (E.getRow 8 rfl)).addRow (E.getRow 7 rfl)).add (f := .box _ _ _ _ _ _ _ _) (E.getBox 6 rfl)).addRow (E.getRow 5 rfl)).addRow (E.getRow 4 rfl)).add (f := .box _ _ _ _ _ _ _ _) (E.getBox 3 rfl)).addRow rb).addRow ra).add (f := .box _ _ _ _ _ _ _ _) (E.getBox 0 rfl))) (by omega) (by
      intro i N' ch' a' m' c' b' n' z' h
      match i with
      | 0 => cases h
      | 1 => cases h
      | 2 => cases h; omega
      | 3 => cases h
      | 4 => cases h
      | 5 => cases h; omega
      | 6 => cases h
      | 7 => cases h
      | i + 8 => cases h) false a4 2 k4 e4 (unL p).length j4
  have E := E6
  clear E6 ra rb hb
  -- [boxN 0, ra 1, rb 2, boxM 3, raM 4, rbM 5, boxA 6, r0 7, s0 8]
  obtain ⟨⟨t0, t1, t2⟩, -, -, -⟩ := E.getBox 3 rfl
  obtain ⟨⟨s0, s1, s2⟩, -, -, -⟩ := E.getBox 6 rfl
  go_wp2_with fail
  refine (inner_num 1 3 ⟨_, rfl⟩ false false rfl rfl a2 e2 (some ⟨ba, oa, none⟩) q0 [(m : Int), (m : Int)] (unL m) [(m : Int), (p : Int)] y0 2 k2 _ j2 2 c0 _ d0 _ (E.getRow 4 rfl) (E.getRow 5 rfl) (by simp [maxLen]) lum.out (unL_i64 m) hk2 rfl rfl (E.getRow 7 rfl) (E.getRow 8 rfl) (by simp [maxLen]) m0.out o0.out z0.out rfl rfl).mono ?_
  intro e v9 hp
  obtain ⟨a5, k5, e5, j5, rfl, ra, rb, -, -, -, hb⟩ := hp.is_ok hI1.out
  clear hp u0 u1 u2 t0 t1 t2 s0 s1 s2 g0 g1 g2
  dsimp only [List.length_cons, List.length_nil, Nat.reduceAdd] at ra rb ⊢
  replace E := (((E.step hb).addRow rb).addRow ra).box false a5 2 k5 e5 y0.length j5
  clear ra rb hb
  -- [boxY 0, raY 1, rbY 2, boxN 3, raN 4, rbN 5, boxM 6, raM 7, rbM 8, boxA 9, r0 10, s0 11]
  obtain ⟨⟨t0, t1, t2⟩, -, -, -⟩ := E.getBox 3 rfl
  obtain ⟨⟨s0, s1, s2⟩, -, -, -⟩ := E.getBox 9 rfl
  go_wp2_with fail
  refine (inner_num 1 3 ⟨_, rfl⟩ false false rfl rfl (some ⟨ba, oa, none⟩) q0 a4 e4 [(m : Int), (p : Int)] y0 [(p : Int), (p : Int)] (unL p) 2 c0 _ d0 2 k4 _ j4 _ (E.getRow 10 rfl) (E.getRow 11 rfl) (by simp [maxLen]) m0.out o0.out z0.out rfl rfl (E.getRow 4 rfl) (E.getRow 5 rfl) (by simp [maxLen]) lup.out (unL_i64 p) hk4 rfl rfl).mono ?_
  intro e v10 hp
  obtain ⟨a6, k6, e6, j6, rfl, ra, rb, -, -, -, hb⟩ := hp.is_ok hI2.out
  clear hp t0 t1 t2 s0 s1 s2
  dsimp only [List.length_cons, List.length_nil, Nat.reduceAdd] at ra rb ⊢
  replace E := (((E.step hb).addRow rb).addRow ra).box false a6 2 k6 e6 y0.length j6
  clear ra rb hb
  -- [boxZ 0, raZ 1, rbZ 2, boxY 3, raY 4, rbY 5, boxN 6, .. boxM 9, .. boxA 12, r0 13, s0 14]
  obtain ⟨⟨t0, t1, t2⟩, -, -, -⟩ := E.getBox 3 rfl
  obtain ⟨⟨s0, s1, s2⟩, -, -, -⟩ := E.getBox 12 rfl
  go_wp2_with fail
  refine (alike_any false false a5 e5 (some ⟨ba, oa, none⟩) q0 [(m : Int), (p : Int)] y0 [(m : Int), (p : Int)] y0 2 k5 _ j5 2 c0 _ d0 _ (E.getRow 4 rfl) (E.getRow 5 rfl) (by simp [maxLen]) m0.out rfl rfl (E.getRow 13 rfl) (E.getRow 14 rfl) (by simp [maxLen]) m0.out rfl rfl).mono ?_
  rintro e v11 ⟨rfl, hb⟩
  rw [decide_eq_true (rfl : (⟨false, [(m : Int), (p : Int)], y0⟩ : Arr) = ⟨false, [(m : Int), (p : Int)], y0⟩)]
  replace E := E.step hb
  clear hb t0 t1 t2 s0 s1 s2
  obtain ⟨⟨t0, t1, t2⟩, -, -, -⟩ := E.getBox 0 rfl
  obtain ⟨⟨s0, s1, s2⟩, -, -, -⟩ := E.getBox 12 rfl
  go_wp2_with fail
  refine (alike_any false false a6 e6 (some ⟨ba, oa, none⟩) q0 [(m : Int), (p : Int)] y0 [(m : Int), (p : Int)] y0 2 k6 _ j6 2 c0 _ d0 _ (E.getRow 1 rfl) (E.getRow 2 rfl) (by simp [maxLen]) m0.out rfl rfl (E.getRow 13 rfl) (E.getRow 14 rfl) (by simp [maxLen]) m0.out rfl rfl).mono ?_
  rintro e v12 ⟨rfl, hb⟩
  rw [decide_eq_true (rfl : (⟨false, [(m : Int), (p : Int)], y0⟩ : Arr) = ⟨false, [(m : Int), (p : Int)], y0⟩)]
  replace E := E.step hb
  clear hb t0 t1 t2 s0 s1 s2
  go_wp2
  go_ret
  exact ⟨rfl, E.bel⟩

end Go.Proofs.Ytohnimfjekemjaa
