/- The walk of the law MatrixTurned: it returns true at all arrays. No condition. -/
import Derived.Test.YtohnimfjekemjaaWkMDet
import Derived.Test.YtohnimfjekemjaaWkMAdj
import Derived.Test.YtohnimfjekemjaaWkMChar
import Derived.Test.YtohnimfjekemjaaWkFlip
import Derived.Test.YtohnimfjekemjaaWkAlike
import Derived.Test.YtohnimfjekemjaaGrid
import Derived.Test.YtohnimfjekemjaaPowPlain
import Derived.Test.YtohnimfjekemjaaInts
import Derived.Test.YtohnimfjekemjaaBdQ
import Derived.Deep.RegionHeld3
import Derived.Deep.Cut
namespace Go.Proofs.Ytohnimfjekemjaa
open Go.RowKit

theorem turned_get {n : Nat} (d : List Int) {i j : Nat} (hi : i < n) (hj : j < n) : (M.turned n n d).getD (i * n + j) 0 = d.getD (j * n + i) 0 := by
  have h := sq_index_lt hi hj
  have e := (sq_at_index (p := i * n + j) (i := i) hj).1 rfl
  rw [List.getD_eq_getElem?_getD]
  simp only [M.turned, List.getElem?_map, List.getElem?_range h, Option.map_some, Option.getD_some]
  rw [← e.1, ← e.2]
theorem turned_sqA {n : Nat} (d : List Int) {i j : Nat} (hi : i < n) (hj : j < n) : M.sqA n (M.turned n n d) i j = M.sqA n d j i := by
  unfold M.sqA
  rw [if_pos ⟨hi, hj⟩, if_pos ⟨hj, hi⟩, turned_get d hi hj]
theorem turned_i64 {m n : Nat} {d : List Int} (h : All64 d) : All64 (M.turned m n d) := fun x hx => by
  obtain ⟨p, _, rfl⟩ := List.mem_map.1 hx
  rw [List.getD_eq_getElem?_getD]
  cases e : d[(p % m) * n + p / m]? with
  | none => show I64 0; unfold I64; omega
  | some v => exact h _ (List.mem_of_getElem? e)
theorem turned_char (n : Nat) (d : List Int) : charL n (M.sqA n (M.turned n n d)) = charL n (M.sqA n d) := by
  unfold charL
  rw [Mx.chi_congr (A := M.sqA n (M.turned n n d)) (B := fun i j => M.sqA n d j i) (fun i j hi hj => turned_sqA d hi hj), Mx.chi_turn]
theorem turned_det (n : Nat) (d : List Int) : sdet n (M.turned n n d) = sdet n d := by
  unfold sdet
  rw [Mx.det_congr (A := M.sqA n (M.turned n n d)) (B := fun i j => M.sqA n d j i) (fun i j hi hj => turned_sqA d hi hj), Mx.det_turn]
theorem turned_adj (n : Nat) (d : List Int) : sqList n (Mx.adj n (M.sqA n (M.turned n n d))) = M.turned n n (sqList n (Mx.adj n (M.sqA n d))) := by
  apply List.ext_getElem
  · rw [sqList_length, turned_length]
  · intro p h1 h2
    have hp : p < n * n := by rw [sqList_length] at h1; exact h1
    have hn : 0 < n := Nat.pos_of_ne_zero fun h => by subst h; simp at hp
    have q1 : p / n < n := Nat.div_lt_of_lt_mul hp
    have q2 : p % n < n := Nat.mod_lt _ hn
    have e1 : (sqList n (Mx.adj n (M.sqA n (M.turned n n d))))[p] = wrap64 (Mx.adj n (M.sqA n (M.turned n n d)) (p / n) (p % n)) := by simp [sqList]
    have e2 : (M.turned n n (sqList n (Mx.adj n (M.sqA n d))))[p] = (sqList n (Mx.adj n (M.sqA n d))).getD ((p % n) * n + p / n) 0 := by simp only [M.turned, List.getElem_map, List.getElem_range]
    rw [e1, e2, sqList_get _ q2 q1, adj_wrap (B := fun i j => M.sqA n d j i) (fun i j hi hj => by rw [turned_sqA d hi hj]) q1 q2, Mx.adj_turn]
theorem heldAB {w w' : World} {A B C A' B' C' : Addr} {a b c a' b' c' : Value} (hb : Below w.heap.size w w')
    (h : (w.cell? A = some a ∧ w.cell? B = some b ∧ w.cell? C = some c) ∧ (w.cell? A' = some a' ∧ w.cell? B' = some b' ∧ w.cell? C' = some c')) :
    (w'.cell? A = some a ∧ w'.cell? B = some b ∧ w'.cell? C = some c) ∧ (w'.cell? A' = some a' ∧ w'.cell? B' = some b' ∧ w'.cell? C' = some c') :=
  have k : ∀ {x : Addr} {v : Value}, w.cell? x = some v → w'.cell? x = some v := fun h => (hb.cell (World.block_lt_of_cell? w _ h)).trans h
  ⟨⟨k h.1.1, k h.1.2.1, k h.1.2.2⟩, ⟨k h.2.1, k h.2.2.1, k h.2.2.2⟩⟩
theorem flaw_sq {n : Nat} (hn : n ≤ 6) {d : List Int} (hd : d.length = n * n) : M.flaw false [(n : Int), (n : Int)] d = 0 := flaw_num (count_sq hn) (by rw [hd])

set_option maxRecDepth 20000 in
set_option maxHeartbeats 8000000 in
theorem matrixTurned_walk (b0 : Bool) (p0 q0 : Option Addr) (x0 y0 : List Int) (c0 d0 : Nat) (w : World)
    (r0 : Row w p0 x0) (s0 : Row w q0 y0) (l0 : x0.length ≤ maxLen) (m0 : y0.length ≤ maxLen) (_ : All64 x0) (o0 : All64 y0) :
    Calls Try.prog 6 #[arrV b0 p0 x0.length c0 q0 y0.length d0] w fun e w' => e = .returned (.bool true) ∧ Below w.heap.size w w' := by
  have E := (((Env.start w).addRow s0).addRow r0).box b0 p0 x0.length c0 q0 y0.length d0
  have hsa := fun w h => isSq_any b0 p0 q0 x0 y0 _ c0 _ d0 w h l0 m0 rfl rfl
  replace hsa := Lib.hid hsa
  cases hqa : M.isSq ⟨b0, x0, y0⟩ with
  | false =>
    replace hqa := Lib.hid hqa
    go_enter Try.func6, Try.ntmps6
    go_wp2_with fail
    refine (fact_any _).mono ?_
    rintro e v1 ⟨rfl, hb⟩
    replace E := E.step hb
    clear hb
    obtain ⟨⟨u0, u1, u2⟩, -, -, -⟩ := E.getBox 0 rfl
    go_wp2_with fail
    refine (hsa.out _ (E.getRow 1 rfl)).mono ?_
    rintro e v2 ⟨rfl, hb⟩
    rw [hqa.out]
    replace E := E.step hb
    clear hb u0 u1 u2
    go_wp2
    go_ret
    exact ⟨rfl, E.bel⟩
  | true =>
    obtain ⟨n, hn, hx, hd⟩ := isSq_parts hqa
    rw [Arr.mk.injEq] at hx
    obtain ⟨rfl, rfl, -⟩ := hx
    dsimp only at hd
    have hnn := Nat.mul_le_mul hn hn
    have hlB := turned_length n n y0
    have ma1 : M.madj ⟨false, [(n : Int), (n : Int)], y0⟩ = .ok ⟨false, [(n : Int), (n : Int)], sqList n (Mx.adj n (M.sqA n y0))⟩ := if_pos (sq_mk hn hd)
    have ma2 : M.madj ⟨false, [(n : Int), (n : Int)], M.turned n n y0⟩ = .ok ⟨false, [(n : Int), (n : Int)], M.turned n n (sqList n (Mx.adj n (M.sqA n y0)))⟩ := (if_pos (sq_mk hn hlB)).trans (by rw [← turned_adj]; rfl)
    have mc1 : M.mchar ⟨false, [(n : Int), (n : Int)], y0⟩ = .ok (charL n (M.sqA n y0)) := if_pos (sq_mk hn hd)
    have mc2 : M.mchar ⟨false, [(n : Int), (n : Int)], M.turned n n y0⟩ = .ok (charL n (M.sqA n y0)) := (if_pos (sq_mk hn hlB)).trans (congrArg Except.ok (turned_char n y0))
    have hcl := charL_length n (M.sqA n y0)
    have hlL := sqList_length n (Mx.adj n (M.sqA n y0))
    have f1 := flaw_sq hn hd
    have f2 := flaw_sq hn hlL
    have hlT := turned_length n n (sqList n (Mx.adj n (M.sqA n y0)))
    have hfl1 := fun pa k w h1 h2 h3 => flip_any false p0 q0 pa n n y0 c0 d0 k w h1 h2 h3 m0 f1
    have hfl2 := fun a b c z pa k w h1 h2 h3 h4 => flip_any false a b pa n n (sqList n (Mx.adj n (M.sqA n y0))) c z k w h1 h2 h3 h4 f2
    have v64 := turned_i64 (m := n) (n := n) o0
    have hdet1 := fun w h1 h2 => lawDet_any n p0 q0 y0 2 c0 y0.length d0 w h1 h2 m0 o0 hn hd rfl rfl
    have eB : (M.turned n n y0).length ≤ maxLen := by rw [hlB]; unfold maxLen; omega
    have hdet2 := fun a b m c k z w h1 h2 em en => lawDet_any n a b (M.turned n n y0) m c k z w h1 h2 eB v64 hn hlB em en
    rw [turned_det] at hdet2
    have hCm : (charL n (M.sqA n y0)).length ≤ maxLen := by rw [hcl]; unfold maxLen; omega
    have eL : (sqList n (Mx.adj n (M.sqA n y0))).length ≤ maxLen := by rw [hlL]; unfold maxLen; omega
    have eT : (M.turned n n (sqList n (Mx.adj n (M.sqA n y0)))).length ≤ maxLen := by rw [hlT]; unfold maxLen; omega
    generalize M.turned n n (sqList n (Mx.adj n (M.sqA n y0))) = TL at *
    generalize sqList n (Mx.adj n (M.sqA n y0)) = L at *
    generalize M.turned n n y0 = BL at *
    generalize charL n (M.sqA n y0) = C at *
    generalize sdet n y0 = D at *
    have hcl0 : 0 < C.length := by omega
    clear hnn f1 f2 hlT
    replace ma1 := Lib.hid ma1
    replace ma2 := Lib.hid ma2
    replace mc1 := Lib.hid mc1
    replace mc2 := Lib.hid mc2
    replace hfl1 := Lib.hid hfl1
    replace hfl2 := Lib.hid hfl2
    replace hdet1 := Lib.hid hdet1
    replace hdet2 := Lib.hid hdet2
    replace hd := Lib.hid hd
    replace hlB := Lib.hid hlB
    replace hlL := Lib.hid hlL
    replace hcl := Lib.hid hcl
    replace eB := Lib.hid eB
    replace eL := Lib.hid eL
    replace eT := Lib.hid eT
    replace hCm := Lib.hid hCm
    replace hcl0 := Lib.hid hcl0
    replace m0 := Lib.hid m0
    replace l0 := Lib.hid l0
    replace hqa := Lib.hid hqa
    go_enter Try.func6, Try.ntmps6
    go_wp2_with fail
    refine (fact_any _).mono ?_
    rintro e v1 ⟨rfl, hb⟩
    replace E := E.step hb
    clear hb
    obtain ⟨⟨u0, u1, u2⟩, -, -, -⟩ := E.getBox 0 rfl
    go_wp2_with fail
    refine (hsa.out _ (E.getRow 1 rfl)).mono ?_
    rintro e v2 ⟨rfl, hb⟩
    rw [hqa.out]
    replace E := E.step hb
    clear hb u0 u1 u2
    replace E := (E.alloc (.cells #[.int .i64 1, .int .i64 0] 3)).addRow (row_lit _ [1, 0] _ _ rfl)
    -- [rowP 0, boxA 1, r0 2, s0 3]
    obtain ⟨⟨u0, u1, u2⟩, -, -, -⟩ := E.getBox 1 rfl
    go_wp2_with fail
    refine (hfl1.out _ _ _ (E.getRow 0 rfl) (E.getRow 2 rfl) (E.getRow 3 rfl)).mono ?_
    intro e v3 hp
    obtain ⟨a3, c3, b3, k3, rfl, ra, rb, -, -, hc3, hb⟩ := hp.is_ok rfl
    clear hp u0 u1 u2
    dsimp only [List.length_cons, List.length_nil, Nat.reduceAdd] at ra rb hc3 ⊢
    replace E := ((((E.drop1).step hb).addRow rb).addRow ra).box false a3 2 c3 b3 BL.length k3
    clear ra rb hb
    -- [boxB 0, raB 1, rbB 2, boxA 3, r0 4, s0 5]
    obtain ⟨⟨u0, u1, u2⟩, -, -, -⟩ := E.getBox 3 rfl
    go_wp2_with fail
    refine (mchar_any false p0 q0 [(n : Int), (n : Int)] y0 _ c0 _ d0 _ (E.getRow 4 rfl) (E.getRow 5 rfl) l0.out m0.out o0 rfl rfl).mono ?_
    intro e v4 hp
    obtain ⟨vc, rfl, hoc⟩ := hp.2.1 _ mc1.out
    have hb := hp.2.2
    clear hp u0 u1 u2
    obtain ⟨gc, cc, rfl, -, -⟩ := own_slice hoc hcl0.out
    replace E := (E.step hb).addRow hoc.row
    clear hoc hb
    obtain ⟨⟨u0, u1, u2⟩, -, -, -⟩ := E.getBox 1 rfl
    go_wp2_with fail
    refine (mchar_any false a3 b3 [(n : Int), (n : Int)] BL _ c3 _ k3 _ (E.getRow 2 rfl) (E.getRow 3 rfl) (by simp [maxLen]) eB.out v64 rfl rfl).mono ?_
    intro e v5 hp
    obtain ⟨vd, rfl, hod⟩ := hp.2.1 _ mc2.out
    have hb := hp.2.2
    clear hp u0 u1 u2
    obtain ⟨gd, cd, rfl, -, -⟩ := own_slice hod hcl0.out
    replace E := (E.step hb).addRow hod.row
    clear hod hb
    -- [rowD 0, rowC 1, boxB 2, raB 3, rbB 4, boxA 5, r0 6, s0 7]
    obtain ⟨⟨u0, u1, u2⟩, -, -, -⟩ := E.getBox 5 rfl
    go_wp2_with fail
    refine (madj_any false p0 q0 [(n : Int), (n : Int)] y0 _ c0 _ d0 _ (E.getRow 6 rfl) (E.getRow 7 rfl) l0.out m0.out o0 rfl rfl).mono ?_
    intro e v6 hp
    obtain ⟨a6, c6, b6, k6, rfl, ra, rb, -, -, hc6, hb⟩ := hp.is_ok ma1.out
    clear hp u0 u1 u2
    dsimp only [List.length_cons, List.length_nil, Nat.reduceAdd] at ra rb hc6 ⊢
    have lB : v3.heap.size < v6.heap.size := ((E.step hb).getBox 2 rfl).lt
    have lA : w.heap.size < v6.heap.size := ((E.step hb).getBox 5 rfl).lt
    replace E := (((E.step hb).addRow rb).addRow ra).box false a6 2 c6 b6 L.length k6
    clear ra rb hb
    -- [boxX 0, raX 1, rbX 2, rowD 3, rowC 4, boxB 5, raB 6, rbB 7, boxA 8, r0 9, s0 10]
    replace E := (E.alloc (.cells #[.int .i64 1, .int .i64 0] 3)).addRow (row_lit _ [1, 0] _ _ rfl)
    rw [World.size_alloc] at E
    obtain ⟨⟨u0, u1, u2⟩, -, -, -⟩ := E.getBox 1 rfl
    go_wp2_with fail
    refine (hfl2.out a6 b6 c6 k6 _ _ _ (E.getRow 0 rfl) (E.getRow 2 rfl) (E.getRow 3 rfl) eL.out).mono ?_
    intro e v7 hp
    obtain ⟨a7, c7, b7, k7, rfl, ra, rb, -, -, hc7, hb⟩ := hp.is_ok rfl
    clear hp u0 u1 u2
    dsimp only [List.length_cons, List.length_nil, Nat.reduceAdd] at ra rb hc7 ⊢
    replace E := E.step hb
    obtain ⟨⟨u0, u1, u2⟩, g0, g1, g2⟩ := E.getBox 1 rfl
    have E6 := Env.store (w0 := w) (w := v7) (N := v6.heap.size) (ch := false) (a := a6) (m := 2) (c := c6) (b := b6) (n := L.length) (z := k6)
      (((((((((((((Env.base E.bel).addRow (E.getRow 11 rfl)).addRow (E.getRow 10 rfl)).add (f := .box _ _ _ _ _ _ _ _) (E.getBox 9 rfl)).addRow (E.getRow 8 rfl)).addRow (E.getRow 7 rfl)).add (f := .box _ _ _ _ _ _ _ _) (E.getBox 6 rfl)).addRow (E.getRow 5 rfl)).addRow (E.getRow 4 rfl)).addRow rb).addRow ra).add (f := .box _ _ _ _ _ _ _ _) (E.getBox 1 rfl))) (by omega) (by
        intro i N' ch' a' m' c' b' n' z' h
        match i with
        | 0 => cases h
        | 1 => cases h
        | 2 => cases h
        | 3 => cases h
        | 4 => cases h; omega
        | 5 => cases h
        | 6 => cases h
        | 7 => cases h; omega
        | 8 => cases h
        | 9 => cases h
        | i + 10 => cases h) false a7 2 c7 b7 TL.length k7
    -- [boxX 0, raX 1, rbX 2, rowD 3, rowC 4, boxB 5, raB 6, rbB 7, boxA 8, r0 9, s0 10]
    have E := E6
    clear E6 ra rb hb
    obtain ⟨⟨t0, t1, t2⟩, -, -, -⟩ := E.getBox 5 rfl
    go_wp2_with fail
    refine (madj_any false a3 b3 [(n : Int), (n : Int)] BL _ c3 _ k3 _ (E.getRow 6 rfl) (E.getRow 7 rfl) (by simp [maxLen]) eB.out v64 rfl rfl).mono ?_
    intro e v8 hp
    obtain ⟨a8, c8, b8, k8, rfl, ra, rb, -, -, hc8, hb⟩ := hp.is_ok ma2.out
    clear hp u0 u1 u2 t0 t1 t2 g0 g1 g2
    dsimp only [List.length_cons, List.length_nil, Nat.reduceAdd] at ra rb hc8 ⊢
    replace E := (((E.step hb).addRow rb).addRow ra).box false a8 2 c8 b8 TL.length k8
    clear ra rb hb
    -- [boxY 0, raY 1, rbY 2, boxX 3, raX 4, rbX 5, rowD 6, rowC 7, boxB 8, raB 9, rbB 10, boxA 11, r0 12, s0 13]
    go_wp2_with fail
    refine (ints_any (some ⟨gc, 0, none⟩) (some ⟨gd, 0, none⟩) C C _ _ cc cd _ (E.getRow 7 rfl) (E.getRow 6 rfl) hCm.out hCm.out rfl rfl).mono ?_
    rintro e v9 ⟨rfl, nd, hv9⟩
    rw [decide_eq_true (rfl : C = C)]
    replace E := E.drew nd
    rw [← hv9] at E
    replace hv9 := Lib.hid hv9
    obtain ⟨⟨u0, u1, u2⟩, -, -, -⟩ := E.getBox 3 rfl
    obtain ⟨⟨t0, t1, t2⟩, -, -, -⟩ := E.getBox 0 rfl
    go_wp2_with fail
    refine (alike_any false false a7 b7 a8 b8 [(n : Int), (n : Int)] TL [(n : Int), (n : Int)] TL 2 c7 _ k7 2 c8 _ k8 _ (E.getRow 4 rfl) (E.getRow 5 rfl) (by simp [maxLen]) eT.out rfl rfl (E.getRow 1 rfl) (E.getRow 2 rfl) (by simp [maxLen]) eT.out rfl rfl).mono ?_
    rintro e va ⟨rfl, hb⟩
    rw [decide_eq_true (rfl : (⟨false, [(n : Int), (n : Int)], TL⟩ : Arr) = ⟨false, [(n : Int), (n : Int)], TL⟩)]
    replace E := E.step hb
    clear hb u0 u1 u2 t0 t1 t2
    have rA1 : Row va.drew p0 [(n : Int), (n : Int)] := E.getRow 12 rfl
    have rA2 : Row va.drew q0 y0 := E.getRow 13 rfl
    have rB1 : Row va.drew a3 [(n : Int), (n : Int)] := E.getRow 9 rfl
    have rB2 : Row va.drew b3 BL := E.getRow 10 rfl
    have S0 : va.drew.cell? ⟨w.heap.size, 0, none⟩ = some (.bool false) ∧ va.drew.cell? ⟨w.heap.size, 1, none⟩ = some (.slice p0 2 c0) ∧ va.drew.cell? ⟨w.heap.size, 2, none⟩ = some (.slice q0 y0.length d0) := (E.getBox 11 rfl).1
    have S1 : va.drew.cell? ⟨v3.heap.size, 0, none⟩ = some (.bool false) ∧ va.drew.cell? ⟨v3.heap.size, 1, none⟩ = some (.slice a3 2 c3) ∧ va.drew.cell? ⟨v3.heap.size, 2, none⟩ = some (.slice b3 BL.length k3) := (E.getBox 8 rfl).1
    have SS := And.intro S0 S1
    have hbz := below_drewN E.bel 1
    clear S0 S1 E
    go_upto_region 15 with fail
    go_region_held3 (fun w' => (w'.cell? ⟨w.heap.size, 0, none⟩ = some (.bool false) ∧ w'.cell? ⟨w.heap.size, 1, none⟩ = some (.slice p0 2 c0) ∧ w'.cell? ⟨w.heap.size, 2, none⟩ = some (.slice q0 y0.length d0)) ∧ (w'.cell? ⟨v3.heap.size, 0, none⟩ = some (.bool false) ∧ w'.cell? ⟨v3.heap.size, 1, none⟩ = some (.slice a3 2 c3) ∧ w'.cell? ⟨v3.heap.size, 2, none⟩ = some (.slice b3 BL.length k3)))
      (first | assumption | (exact heldAB hb8 (by assumption)) | (exact heldAB hb9 (by assumption)) | go_keep)
      (first
        | (go_at_call_of 20 (y0.length : Nat); refine (hdet1.out _ rA1 rA2).mono ?_; rintro e w8 ⟨rfl, hb8⟩)
        | (go_at_call_of 20 (BL.length : Nat); refine (hdet2.out a3 b3 _ c3 _ k3 _ (rB1.below hb8) (rB2.below hb8) rfl rfl).mono ?_; rintro e w9 ⟨rfl, hb9⟩))
    go_wp2
    go_ret
    exact ⟨rfl, below_trans (below_trans hbz hb8) hb9⟩

end Go.Proofs.Ytohnimfjekemjaa
