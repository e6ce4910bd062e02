/- The walk of the law EachRavels: it returns true at all arrays and functions. No condition. -/
import Derived.Test.YtiebknfmmanbiaaEachPlain
import Derived.Test.YtiebknfmmanbiaaWkMatches
import Derived.Test.YtiebknfmmanbiaaInts
namespace Go.Proofs.Ytiebknfmmanbiaa
open Go.RowKit

theorem ravels_fact : M.each2 2 ⟨false, [2], [5, 7]⟩ ⟨false, [], [1]⟩ = .ok ⟨false, [2], [4, 6]⟩ := by kernel_rfl

set_option maxRecDepth 20000 in
set_option maxHeartbeats 16000000 in
theorem eachRavels_walk (f : Int) (b0 : Bool) (p0 q0 : Option Addr) (x0 y0 : List Int) (c0 d0 : Nat) (b1 : Bool) (p1 q1 : Option Addr) (x1 y1 : List Int) (c1 d1 : Nat) (w : World) (_ : I64 f)
    (r0 : Row w p0 x0) (s0 : Row w q0 y0) (l0 : x0.length ≤ maxLen) (m0 : y0.length ≤ maxLen) (_ : All64 x0) (o0 : All64 y0)
    (r1 : Row w p1 x1) (s1 : Row w q1 y1) (l1 : x1.length ≤ maxLen) (m1 : y1.length ≤ maxLen) (_ : All64 x1) (o1 : All64 y1) :
    Calls Try.prog 5 #[.int .i64 f, arrV b0 p0 x0.length c0 q0 y0.length d0, arrV b1 p1 x1.length c1 q1 y1.length d1] w fun e w' => e = .returned (.bool true) ∧ Below w.heap.size w w' := by
  have E := ((((((Env.start w).addRow s1).addRow r1).addRow s0).addRow r0).box b0 p0 x0.length c0 q0 y0.length d0).box b1 p1 x1.length c1 q1 y1.length d1
  have E1 := (E.alloc (.cells #[.int .i64 2] 3)).addRow (row_lit _ [2] _ _ rfl)
  have E1 := (E1.alloc (.cells #[.int .i64 5, .int .i64 7] 3)).addRow (row_lit _ [5, 7] _ _ rfl)
  have E1 := (E1.alloc (.cells #[.int .i64 1] 3)).addRow (row_lit _ [1] _ _ rfl)
  simp only [World.size_alloc] at E1
  have hv0 := fun w h1 h2 => ravel_any b0 p0 q0 x0 y0 _ c0 _ d0 w h1 h2 l0 m0 rfl rfl
  have hv1 := fun w h1 h2 => ravel_any b1 p1 q1 x1 y1 _ c1 _ d1 w h1 h2 l1 m1 rfl rfl
  have hi := fun w h1 h2 => ints_any p0 p1 x0 x1 _ _ c0 c1 w h1 h2 l0 l1 rfl rfl
  have ha := fun w h1 h2 h3 h4 => each2_any f b0 b1 p0 q0 p1 q1 x0 y0 x1 y1 _ c0 _ d0 _ c1 _ d1 w h1 h2 l0 m0 o0 rfl rfl h3 h4 l1 m1 o1 rfl rfl
  replace hv0 := Lib.hid hv0
  replace hv1 := Lib.hid hv1
  replace hi := Lib.hid hi
  replace ha := Lib.hid ha
  replace l0 := Lib.hid l0
  replace l1 := Lib.hid l1
  replace m0 := Lib.hid m0
  replace m1 := Lib.hid m1
  replace o0 := Lib.hid o0
  replace o1 := Lib.hid o1
  clear E
  go_enter Try.func5, Try.ntmps5
  go_wp2_with fail
  -- [L1 0, L57 1, L2 2, boxB 3, boxA 4, r0 5, s0 6, r1 7, s1 8]
  refine (each2_any 2 false false _ _ none _ [2] [5, 7] [] [1] 1 1 2 2 0 0 1 1 _ (E1.getRow 2 rfl) (E1.getRow 1 rfl) (by simp [maxLen]) (by simp [maxLen]) (by intro x hx; simp at hx; unfold I64; omega) rfl rfl (row_none _ _) (E1.getRow 0 rfl) (by simp [maxLen]) (by simp [maxLen]) (by intro x hx; simp at hx; unfold I64; omega) rfl rfl).mono ?_
  intro e v1 hp
  obtain ⟨a1, k1, e1, j1, rfl, ra, rb, -, -, -, hb⟩ := hp.is_ok ravels_fact
  clear hp
  dsimp only [List.length_cons, List.length_nil, Nat.reduceAdd] at ra rb ⊢
  have E2 := ((((((((E1.step hb).drop1).drop1).drop1).addRow rb).box false a1 1 k1 e1 2 j1).alloc (.cells #[.int .i64 4, .int .i64 6] 3)).addRow (row_lit _ [4, 6] _ _ rfl))
  clear E1 ra rb hb
  simp only [World.size_alloc] at E2
  -- [lit 0, boxF 1, rb 2, boxB 3, boxA 4, r0 5, s0 6, r1 7, s1 8]
  obtain ⟨⟨u0, u1, u2⟩, -, -, -⟩ := E2.getBox 1 rfl
  go_wp2_with fail
  refine (ints_any e1 _ [4, 6] [4, 6] _ _ j1 _ _ (E2.getRow 2 rfl) (E2.getRow 0 rfl) (by simp [maxLen]) (by simp [maxLen]) rfl rfl).mono ?_
  rintro e v2 ⟨rfl, n2, hv2⟩
  rw [decide_eq_true (rfl : ([4, 6] : List Int) = [4, 6])]
  have E3 := (((E2.drop1).drop1).drop1).drew n2
  rw [← hv2] at E3
  replace hv2 := Lib.hid hv2
  clear E2 u0 u1 u2
  -- [boxB 0, boxA 1, r0 2, s0 3, r1 4, s1 5]
  obtain ⟨⟨u0, u1, u2⟩, -, -, -⟩ := E3.getBox 1 rfl
  go_wp2_with fail
  refine (hv0.out _ (E3.getRow 2 rfl) (E3.getRow 3 rfl)).mono ?_
  intro e v3 hp
  obtain ⟨ch3, a3, s3, k3, e3, d3, j3, o3, rfl, ⟨ra, rb, hans3⟩, hb⟩ := hp.ans
  have E4 := (((E3.step hb).addRow rb).addRow ra).box ch3 a3 s3.length k3 e3 d3.length j3
  clear hp u0 u1 u2 ra rb hb E3
  replace hans3 := Lib.hid hans3
  -- [boxX 0, raX 1, rbX 2, boxB 3, boxA 4, r0 5, s0 6, r1 7, s1 8]
  obtain ⟨⟨u0, u1, u2⟩, -, -, -⟩ := E4.getBox 3 rfl
  go_wp2_with fail
  refine (hv1.out _ (E4.getRow 7 rfl) (E4.getRow 8 rfl)).mono ?_
  intro e v4 hp
  obtain ⟨ch4, a4, s4, k4, e4, d4, j4, o4, rfl, ⟨ra, rb, hans4⟩, hb⟩ := hp.ans
  have E5 := (((E4.step hb).addRow rb).addRow ra).box ch4 a4 s4.length k4 e4 d4.length j4
  clear hp u0 u1 u2 ra rb hb E4
  replace hans4 := Lib.hid hans4
  -- [boxY 0, raY 1, rbY 2, boxX 3, raX 4, rbX 5, boxB 6, boxA 7, r0 8, s0 9, r1 10, s1 11]
  obtain ⟨⟨u0, u1, u2⟩, -, -, -⟩ := E5.getBox 6 rfl
  obtain ⟨⟨t0, t1, t2⟩, -, -, -⟩ := E5.getBox 7 rfl
  go_wp2_with fail
  refine (hi.out _ (E5.getRow 8 rfl) (E5.getRow 10 rfl)).mono ?_
  rintro e v5 ⟨rfl, n5, hv5⟩
  replace E5 := E5.drew n5
  rw [← hv5] at E5
  replace hv5 := Lib.hid hv5
  clear u0 u1 u2 t0 t1 t2
  have hbel := E5.bel
  cases o3 with
  | some x3 =>
    clear E5
    rw [eV_some]
    go_wp2
    go_ret
    exact ⟨rfl, hbel⟩
  | none =>
  cases o4 with
  | some x4 =>
    clear E5
    rw [eV_some, eV_none]
    go_wp2
    go_ret
    exact ⟨rfl, hbel⟩
  | none =>
  cases hsh : decide (x0 = x1) with
  | false =>
    clear E5
    replace hsh := Lib.hid hsh
    dsimp only [eV]
    go_wp2
    go_ret
    exact ⟨rfl, hbel⟩
  | true =>
  have hx := of_decide_eq_true hsh
  subst hx
  have q3 : M.ravel ⟨b0, x0, y0⟩ = .ok ⟨ch3, s3, d3⟩ := by
    rcases hans3.out with ⟨-, h⟩ | ⟨_, h, -⟩
    · exact h
    · cases h
  have q4 : M.ravel ⟨b1, x0, y1⟩ = .ok ⟨ch4, s4, d4⟩ := by
    rcases hans4.out with ⟨-, h⟩ | ⟨_, h, -⟩
    · exact h
    · cases h
  have hf0 : M.flaw b0 x0 y0 = 0 := by
    unfold M.ravel at q3
    split at q3
    · assumption
    · cases q3
  have hf1 : M.flaw b1 x0 y1 = 0 := by
    unfold M.ravel at q4
    split at q4
    · assumption
    · cases q4
  have q3' : M.ravel ⟨b0, x0, y0⟩ = .ok ⟨b0, [(y0.length : Int)], y0⟩ := if_pos hf0
  have q4' : M.ravel ⟨b1, x0, y1⟩ = .ok ⟨b1, [(y1.length : Int)], y1⟩ := if_pos hf1
  rw [q3'] at q3
  rw [q4'] at q4
  cases q3
  cases q4
  clear q3' q4' hans3 hans4 hv0 hv1 hsh
  dsimp only [eV, List.length_cons, List.length_nil, Nat.reduceAdd] at E5 ⊢
  have hrv := each2_ravel (f := f) (x := ⟨b0, x0, y0⟩) (y := ⟨b1, x0, y1⟩) hf0 hf1 rfl
  dsimp only at hrv
  replace hf0 := Lib.hid hf0
  replace hf1 := Lib.hid hf1
  replace hrv := Lib.hid hrv
  obtain ⟨⟨u0, u1, u2⟩, -, -, -⟩ := E5.getBox 6 rfl
  obtain ⟨⟨t0, t1, t2⟩, -, -, -⟩ := E5.getBox 7 rfl
  clear hbel
  go_wp2_with fail
  refine (ha.out _ (E5.getRow 8 rfl) (E5.getRow 9 rfl) (E5.getRow 10 rfl) (E5.getRow 11 rfl)).mono ?_
  intro e v6 hp
  obtain ⟨ch6, a6, s6, k6, e6, d6, j6, o6, rfl, ⟨ra, rb, hans6⟩, hb⟩ := hp.ans
  replace E5 := (((E5.step hb).addRow rb).addRow ra).box ch6 a6 s6.length k6 e6 d6.length j6
  clear hp u0 u1 u2 t0 t1 t2 ra rb hb
  replace hans6 := Lib.hid hans6
  -- [boxZ 0, raZ 1, rbZ 2, boxY 3, raY 4, rbY 5, boxX 6, raX 7, rbX 8, boxB 9, boxA 10, r0 11, ..]
  obtain ⟨⟨u0, u1, u2⟩, -, -, -⟩ := E5.getBox 3 rfl
  obtain ⟨⟨t0, t1, t2⟩, -, -, -⟩ := E5.getBox 6 rfl
  go_wp2_with fail
  refine (each2_any f b0 b1 a3 e3 a4 e4 [(y0.length : Int)] y0 [(y1.length : Int)] y1 1 k3 _ j3 1 k4 _ j4 _ (E5.getRow 7 rfl) (E5.getRow 8 rfl) (by simp [maxLen]) m0.out o0.out rfl rfl (E5.getRow 4 rfl) (E5.getRow 5 rfl) (by simp [maxLen]) m1.out o1.out rfl rfl).mono ?_
  intro e v7 hp
  obtain ⟨ch7, a7, s7, k7, e7, d7, j7, o7, rfl, ⟨ra, rb, hans7⟩, hb⟩ := hp.ans
  replace E5 := (((E5.step hb).addRow rb).addRow ra).box ch7 a7 s7.length k7 e7 d7.length j7
  clear hp u0 u1 u2 t0 t1 t2 ra rb hb
  replace hans7 := Lib.hid hans7
  -- [boxU 0, raU 1, rbU 2, boxZ 3, raZ 4, rbZ 5, boxY 6, raY 7, rbY 8, boxX 9, raX 10, rbX 11, boxB 12, boxA 13, r0 14, ..]
  rcases hrv.out with ⟨x6, x7, h6, h7⟩ | ⟨l, h6, hl, h7⟩
  · obtain rfl : o6 = some x6 := by
      rcases hans6.out with ⟨-, h⟩ | ⟨n, h, h'⟩
      · rw [h6] at h; cases h
      · rw [h6] at h'; cases h'; exact h
    obtain rfl : o7 = some x7 := by
      rcases hans7.out with ⟨-, h⟩ | ⟨n, h, h'⟩
      · rw [h7] at h; cases h
      · rw [h7] at h'; cases h'; exact h
    have hbel := E5.bel
    replace h6 := Lib.hid h6
    replace h7 := Lib.hid h7
    clear E5
    dsimp only [eV]
    go_wp2
    go_ret
    exact ⟨rfl, hbel⟩
  · obtain ⟨rfl, g6a, g6b, g6c⟩ : o6 = none ∧ false = ch6 ∧ x0 = s6 ∧ l = d6 := by
      rcases hans6.out with ⟨h, h'⟩ | ⟨n, h, h'⟩
      · rw [h6] at h'; cases h'; exact ⟨h, rfl, rfl, rfl⟩
      · rw [h6] at h'; cases h'
    obtain ⟨rfl, g7a, g7b, g7c⟩ : o7 = none ∧ false = ch7 ∧ [(y0.length : Int)] = s7 ∧ l = d7 := by
      rcases hans7.out with ⟨h, h'⟩ | ⟨n, h, h'⟩
      · rw [h7] at h'; cases h'; exact ⟨h, rfl, rfl, rfl⟩
      · rw [h7] at h'; cases h'
    subst g6a
    subst g6b
    subst g6c
    subst g7a
    subst g7b
    subst g7c
    have hfz : M.flaw false x0 l = 0 := flaw_mk (by rw [hl]; exact (flaw_ok hf0.out).1) (fun h => by cases h)
    have hvz : M.ravel ⟨false, x0, l⟩ = .ok ⟨false, [(y0.length : Int)], l⟩ := by rw [← hl]; exact if_pos hfz
    have hfu : M.flaw false [(y0.length : Int)] l = 0 := by rw [← hl]; exact ravel_sound hfz
    have ll : l.length ≤ maxLen := by rw [hl]; exact m0.out
    have hag : Agree false [(y0.length : Int)] l none false [(y0.length : Int)] l none := .inl ⟨rfl, rfl, hfu, rfl, rfl, rfl⟩
    replace h6 := Lib.hid h6
    replace h7 := Lib.hid h7
    replace hl := Lib.hid hl
    replace hvz := Lib.hid hvz
    replace hag := Lib.hid hag
    replace ll := Lib.hid ll
    clear hfz hfu hans6 hans7 hrv hf0 hf1
    dsimp only [eV, List.length_cons, List.length_nil, Nat.reduceAdd] at E5 ⊢
    obtain ⟨⟨u0, u1, u2⟩, -, -, -⟩ := E5.getBox 3 rfl
    go_wp2_with fail
    refine (ravel_any false a6 e6 x0 l _ k6 _ j6 _ (E5.getRow 4 rfl) (E5.getRow 5 rfl) l0.out ll.out rfl rfl).mono ?_
    intro e v8 hp
    obtain ⟨a8, k8, e8, j8, rfl, ra, rb, hb⟩ := hp.is_ok hvz.out
    clear hp u0 u1 u2
    dsimp only [List.length_cons, List.length_nil, Nat.reduceAdd] at ra rb ⊢
    replace E5 := (((E5.step hb).addRow rb).addRow ra).box false a8 1 k8 e8 l.length j8
    clear ra rb hb
    -- [boxV 0, raV 1, rbV 2, boxU 3, raU 4, rbU 5, boxZ 6, raZ 7, rbZ 8, boxY 9, .. boxX 12, .. boxB 15, boxA 16, r0 17, ..]
    obtain ⟨⟨u0, u1, u2⟩, -, -, -⟩ := E5.getBox 0 rfl
    obtain ⟨⟨t0, t1, t2⟩, -, -, -⟩ := E5.getBox 3 rfl
    go_wp2_with fail
    refine (matches_any false false a8 e8 a7 e7 [(y0.length : Int)] l [(y0.length : Int)] l 1 k8 _ j8 1 k7 _ j7 none none _ (E5.getRow 1 rfl) (E5.getRow 2 rfl) rfl rfl (E5.getRow 4 rfl) (E5.getRow 5 rfl) rfl rfl hag.out).mono ?_
    rintro e v9 ⟨rfl, hb⟩
    replace E5 := E5.step hb
    clear u0 u1 u2 t0 t1 t2 hb
    obtain ⟨⟨u0, u1, u2⟩, -, -, -⟩ := E5.getBox 6 rfl
    obtain ⟨⟨t0, t1, t2⟩, -, -, -⟩ := E5.getBox 16 rfl
    go_wp2_with fail
    refine (ints_any a6 p0 x0 x0 _ _ k6 c0 _ (E5.getRow 7 rfl) (E5.getRow 17 rfl) l0.out l0.out rfl rfl).mono ?_
    rintro e v10 ⟨rfl, n10, hv10⟩
    rw [decide_eq_true rfl]
    replace E5 := E5.drew n10
    rw [← hv10] at E5
    replace hv10 := Lib.hid hv10
    clear u0 u1 u2 t0 t1 t2
    go_wp2
    go_ret
    exact ⟨rfl, E5.bel⟩

end Go.Proofs.Ytiebknfmmanbiaa
