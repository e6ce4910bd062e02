/- The walk of the law MatrixAdjoint, and of the statements' helper diagonal: it returns true at all arrays. No condition. -/
import Derived.Test.YtohnimfjekemjaaWkMDet
import Derived.Test.YtohnimfjekemjaaWkMAdj
import Derived.Test.YtohnimfjekemjaaWkInner
import Derived.Test.YtohnimfjekemjaaPowPlain
import Derived.Test.YtohnimfjekemjaaInts
import Derived.Test.YtohnimfjekemjaaBdQ
import Derived.Deep.Cut
namespace Go.Proofs.Ytohnimfjekemjaa
open Go.RowKit

/-- A number in the diagonal, and 0 elsewhere. -/
def diagL (n : Nat) (D : Int) : List Int := (List.range (n * n)).map fun p => if p / n = p % n then D else 0
theorem diagL_length (n : Nat) (D : Int) : (diagL n D).length = n * n := by simp [diagL]
theorem diagL_get {n : Nat} (D : Int) {p : Nat} (hp : p < n * n) : (diagL n D).getD p 0 = if p / n = p % n then D else 0 := by
  rw [List.getD_eq_getElem?_getD]
  simp only [diagL, List.getElem?_map, List.getElem?_range hp, Option.map_some, Option.getD_some]
theorem adj_prod_r {n : Nat} (hn : n ≤ 6) {d : List Int} (h : d.length = n * n) :
    M.inner 1 3 ⟨false, [(n : Int), (n : Int)], d⟩ ⟨false, [(n : Int), (n : Int)], sqList n (Mx.adj n (M.sqA n d))⟩ = .ok ⟨false, [(n : Int), (n : Int)], diagL n (sdet n d)⟩ := by
  rw [inner_sq hn h (sqList_length _ _)]
  congr 2
  unfold sqList diagL
  apply List.map_congr_left
  intro p hp
  have hp := List.mem_range.1 hp
  have hn0 : 0 < n := Nat.pos_of_ne_zero fun h => by subst h; simp at hp
  have hi : p / n < n := Nat.div_lt_of_lt_mul hp
  have hj : p % n < n := Nat.mod_lt _ hn0
  rw [mul_wrap (A' := M.sqA n d) (B' := Mx.adj n (M.sqA n d)) (fun _ _ => rfl) (fun t ht => by
    show wrap64 (M.sqA n (sqList n (Mx.adj n (M.sqA n d))) t (p % n)) = _
    rw [sqA_list _ ht hj, wrap_wrap]), Mx.mul_adj _ _ _ hi hj]
  by_cases e : p / n = p % n
  · rw [if_pos e, if_pos e]; rfl
  · rw [if_neg e, if_neg e]; exact wrap_zero
theorem adj_prod_l {n : Nat} (hn : n ≤ 6) {d : List Int} (h : d.length = n * n) :
    M.inner 1 3 ⟨false, [(n : Int), (n : Int)], sqList n (Mx.adj n (M.sqA n d))⟩ ⟨false, [(n : Int), (n : Int)], d⟩ = .ok ⟨false, [(n : Int), (n : Int)], diagL n (sdet n d)⟩ := by
  rw [inner_sq hn (sqList_length _ _) h]
  congr 2
  unfold sqList diagL
  apply List.map_congr_left
  intro p hp
  have hp := List.mem_range.1 hp
  have hn0 : 0 < n := Nat.pos_of_ne_zero fun h => by subst h; simp at hp
  have hi : p / n < n := Nat.div_lt_of_lt_mul hp
  have hj : p % n < n := Nat.mod_lt _ hn0
  rw [mul_wrap (A' := Mx.adj n (M.sqA n d)) (B' := M.sqA n d) (fun t ht => by
    show wrap64 (M.sqA n (sqList n (Mx.adj n (M.sqA n d))) (p / n) t) = _
    rw [sqA_list _ hi ht, wrap_wrap]) (fun _ _ => rfl), Mx.adj_mul _ _ _ hi hj]
  by_cases e : p / n = p % n
  · rw [if_pos e, if_pos e]; rfl
  · rw [if_neg e, if_neg e]; exact wrap_zero

set_option maxRecDepth 20000 in
set_option maxHeartbeats 4000000 in
theorem diagonal_any (n : Nat) (D : Int) (a b : Option Addr) (m c k z : Nat) (w : World) (hs : Row w a [(n : Int), (n : Int)]) (hd : Row w b (diagL n D)) (hn : n ≤ 6) (em : m = 2) (en : k = n * n) :
    Calls Try.prog 36 #[arrV false a m c b k z, .int .i64 (n : Int), .int .i64 D] w fun e w' => e = .returned (.bool true) ∧ Below w.heap.size w w' := by
  subst em
  have hnn := Nat.mul_le_mul hn hn
  obtain ⟨N, hN⟩ : ∃ N, N = n * n := ⟨_, rfl⟩
  rw [← hN] at en hnn
  subst en
  have wN : wrap64 ((n : Int) * (n : Int)) = (k : Int) := by
    have e : ((n : Int) * (n : Int)) = ((n * n : Nat) : Int) := by simp
    rw [e, ← hN]; exact IntWalk.wrap64_in _ (by omega)
  have E := (((Env.start w).addRow hd).addRow hs).box false a 2 c b k z
  have E1 := (E.alloc (.cells #[.int .i64 (n : Int), .int .i64 (n : Int)] 3)).addRow (row_lit _ [(n : Int), (n : Int)] _ _ rfl)
  rw [World.size_alloc] at E1
  have hin := fun w h1 h2 => ints_any a (some ⟨w.heap.size, 0, none⟩) [(n : Int), (n : Int)] [(n : Int), (n : Int)] 2 2 c 2 w h1 h2 (by simp [maxLen]) (by simp [maxLen]) rfl rfl
  clear hin
  have dl := diagL_length n D
  rw [← hN] at dl
  have dg : ∀ p, p < k → (diagL n D).getD p 0 = if p / n = p % n then D else 0 := fun p hp => diagL_get D (by rw [← hN]; exact hp)
  generalize diagL n D = L at *
  obtain ⟨⟨u0, u1, u2⟩, -, -, -⟩ := E.getBox 0 rfl
  have hkk : ((k : Int) != (k : Int)) = false := by simp
  have n6 : (n : Int) ≤ 6 := by omega
  replace dl := Lib.hid dl
  replace dg := Lib.hid dg
  replace hN := Lib.hid hN
  replace wN := Lib.hid wN
  clear E
  go_enter Try.func36, Try.ntmps36
  go_wp2_with fail
  refine (ints_any a _ [(n : Int), (n : Int)] [(n : Int), (n : Int)] _ _ c _ _ (E1.getRow 2 rfl) (E1.getRow 0 rfl) (by simp [maxLen]) (by simp [maxLen]) rfl rfl).mono ?_
  rintro e w1 ⟨rfl, n1, hw1⟩
  rw [decide_eq_true (rfl : [(n : Int), (n : Int)] = [(n : Int), (n : Int)])]
  have E2 := E1.drew n1
  rw [← hw1] at E2
  replace hw1 := Lib.hid hw1
  clear E1 u0 u1 u2
  obtain ⟨⟨u0, u1, u2⟩, -, -, -⟩ := E2.getBox 1 rfl
  have rd := E2.getRow 3 rfl
  have hbel := E2.bel
  clear E2
  have wN' : ∀ a b : Int, a = (n : Int) → b = (n : Int) → wrap64 (a * b) = (k : Int) := fun a b ha hb => by rw [ha, hb]; exact wN.out
  go_wp2
  go_loopw [8] (fun v wr => ∃ p nd : Nat, p ≤ k ∧ v = .int .i64 p ∧ wr = w1.drewN nd) (fun v _ => k - (intOf v).toNat)
  case atStart => exact ⟨0, 0, Nat.zero_le _, rfl, rfl⟩
  case round =>
    obtain ⟨p, nd, hp, rfl, rfl⟩ := hrel
    by_cases hlt : p < k
    · have hn0 : 0 < n := Nat.pos_of_ne_zero fun h => by subst h; rw [hN.out] at hlt; simp at hlt
      obtain ⟨g, o, rfl, cp⟩ := rd p (by rw [dl.out]; exact hlt)
      rw [dg.out p hlt] at cp
      have hq : (p : Int).tdiv (n : Int) = ((p / n : Nat) : Int) := rfl
      have hq2 : (p : Int) / (n : Int) = ((p / n : Nat) : Int) := rfl
      have hr1 : (p : Int).tmod (n : Int) = ((p % n : Nat) : Int) := rfl
      have hr2 : (p : Int) % (n : Int) = ((p % n : Nat) : Int) := rfl
      have hnz : (n : Int) ≠ 0 := by omega
      have hpl : (p : Int) < ((k : Nat) : Int) := by omega
      have wq0 : ∀ q : Nat, q ≤ p → wrap64 (q : Int) = (q : Int) := fun q h => IntWalk.wrap64_in _ (by omega)
      have wq := wq0 _ (Nat.div_le_self p n)
      clear wq0
      generalize p / n = q at *
      generalize p % n = r at *
      by_cases e : q = r
      · rw [if_pos e] at cp
        have e1 : ((q : Int) == (r : Int)) = true := by rw [beq_iff_eq]; omega
        replace e := Lib.hid e
        have ed : (D != D) = false := by simp
        go_wp2
        go_region
        go_wp2
        go_roundw
        case rel => exact ⟨p + 1, _, by omega, by go_num, rfl⟩
        case measure => simp [intOf]; omega
      · rw [if_neg e] at cp
        have e1 : ((q : Int) == (r : Int)) = false := by rw [beq_eq_false_iff_ne]; omega
        replace e := Lib.hid e
        go_wp2
        go_region
        go_wp2
        go_roundw
        case rel => exact ⟨p + 1, _, by omega, by go_num, rfl⟩
        case measure => simp [intOf]; omega
    · obtain rfl : p = k := by omega
      go_wp2
      go_ret
      exact ⟨rfl, below_drewN hbel _⟩

theorem held7 {w w' : World} {A B C A' B' C' D : Addr} {a b c a' b' c' d : Value} (hb : Below w.heap.size w w')
    (h : (w.cell? A = some a ∧ w.cell? B = some b ∧ w.cell? C = some c) ∧ (w.cell? A' = some a' ∧ w.cell? B' = some b' ∧ w.cell? C' = some c') ∧ w.cell? D = some d) :
    (w'.cell? A = some a ∧ w'.cell? B = some b ∧ w'.cell? C = some c) ∧ (w'.cell? A' = some a' ∧ w'.cell? B' = some b' ∧ w'.cell? C' = some c') ∧ w'.cell? D = some d :=
  have k : ∀ {x : Addr} {v : Value}, w.cell? x = some v → w'.cell? x = some v := fun h => (hb.cell (World.block_lt_of_cell? w _ h)).trans h
  ⟨⟨k h.1.1, k h.1.2.1, k h.1.2.2⟩, ⟨k h.2.1.1, k h.2.1.2.1, k h.2.1.2.2⟩, k h.2.2⟩

set_option maxRecDepth 20000 in
set_option maxHeartbeats 8000000 in
theorem matrixAdjoint_walk (b0 : Bool) (p0 q0 : Option Addr) (x0 y0 : List Int) (c0 d0 : Nat) (w : World)
    (r0 : Row w p0 x0) (s0 : Row w q0 y0) (l0 : x0.length ≤ maxLen) (m0 : y0.length ≤ maxLen) (_ : All64 x0) (o0 : All64 y0) (z0 : x0.length ≤ c0) (_ : y0.length ≤ d0) :
    Calls Try.prog 14 #[arrV b0 p0 x0.length c0 q0 y0.length d0] w fun e w' => e = .returned (.bool true) ∧ Below w.heap.size w w' := by
  have E := (((Env.start w).addRow s0).addRow r0).box b0 p0 x0.length c0 q0 y0.length d0
  have hsa := fun w h => isSq_any b0 p0 q0 x0 y0 _ c0 _ d0 w h l0 m0 rfl rfl
  replace hsa := Lib.hid hsa
  cases hqa : M.isSq ⟨b0, x0, y0⟩ with
  | false =>
    replace hqa := Lib.hid hqa
    go_enter Try.func14, Try.ntmps14
    go_wp2_with fail
    refine (fact_any _).mono ?_
    rintro e v1 ⟨rfl, hb⟩
    replace E := E.step hb
    clear hb
    obtain ⟨⟨u0, u1, u2⟩, -, -, -⟩ := E.getBox 0 rfl
    go_wp2_with fail
    refine (hsa.out _ (E.getRow 1 rfl)).mono ?_
    rintro e v2 ⟨rfl, hb⟩
    rw [hqa.out]
    replace E := E.step hb
    clear hb u0 u1 u2
    go_wp2
    go_ret
    exact ⟨rfl, E.bel⟩
  | true =>
    obtain ⟨n, hn, hx, hd⟩ := isSq_parts hqa
    rw [Arr.mk.injEq] at hx
    obtain ⟨rfl, rfl, -⟩ := hx
    dsimp only at hd
    have hm1 : M.madj ⟨false, [(n : Int), (n : Int)], y0⟩ = .ok ⟨false, [(n : Int), (n : Int)], sqList n (Mx.adj n (M.sqA n y0))⟩ := if_pos (sq_mk hn hd)
    have hI1 := adj_prod_r hn hd
    have hI2 := adj_prod_l hn hd
    have hl1 := sqList_length n (Mx.adj n (M.sqA n y0))
    have hv1 := sqList_i64 n (Mx.adj n (M.sqA n y0))
    have hdl := diagL_length n (sdet n y0)
    generalize sqList n (Mx.adj n (M.sqA n y0)) = L at *
    have hnn := Nat.mul_le_mul hn hn
    have e1 : L.length ≤ maxLen := by rw [hl1]; unfold maxLen; omega
    have hdia := fun a b m c k z w h1 h2 em en => diagonal_any n (sdet n y0) a b m c k z w h1 h2 hn em en
    have hdet := fun w h1 h2 => lawDet_any n p0 q0 y0 2 c0 y0.length d0 w h1 h2 m0 o0 hn hd rfl rfl
    generalize sdet n y0 = D at *
    generalize diagL n D = DL at *
    clear hnn
    replace hm1 := Lib.hid hm1
    replace hI1 := Lib.hid hI1
    replace hI2 := Lib.hid hI2
    replace hl1 := Lib.hid hl1
    replace hdl := Lib.hid hdl
    replace hd := Lib.hid hd
    replace hdia := Lib.hid hdia
    replace hdet := Lib.hid hdet
    replace hqa := Lib.hid hqa
    go_enter Try.func14, Try.ntmps14
    go_wp2_with fail
    refine (fact_any _).mono ?_
    rintro e v1 ⟨rfl, hb⟩
    replace E := E.step hb
    clear hb
    obtain ⟨⟨u0, u1, u2⟩, -, -, -⟩ := E.getBox 0 rfl
    go_wp2_with fail
    refine (hsa.out _ (E.getRow 1 rfl)).mono ?_
    rintro e v2 ⟨rfl, hb⟩
    rw [hqa.out]
    replace E := E.step hb
    clear hb u0 u1 u2
    obtain ⟨⟨u0, u1, u2⟩, -, -, -⟩ := E.getBox 0 rfl
    go_wp2_with fail
    refine (madj_any false p0 q0 [(n : Int), (n : Int)] y0 _ c0 _ d0 _ (E.getRow 1 rfl) (E.getRow 2 rfl) l0 m0 o0 rfl rfl).mono ?_
    intro e v4 hp
    obtain ⟨a4, c4, b4, k4, rfl, ra, rb, -, -, hc4, hb⟩ := hp.is_ok hm1.out
    clear hp u0 u1 u2
    dsimp only [List.length_cons, List.length_nil, Nat.reduceAdd] at ra rb hc4 ⊢
    replace E := (((E.step hb).addRow rb).addRow ra).box false a4 2 c4 b4 L.length k4
    clear ra rb hb
    -- [boxB 0, raB 1, rbB 2, boxA 3, r0 4, s0 5]
    obtain ⟨⟨u0, u1, u2⟩, -, -, -⟩ := E.getBox 3 rfl
    obtain ⟨⟨t0, t1, t2⟩, -, -, -⟩ := E.getBox 0 rfl
    go_wp2_with fail
    refine (inner_num 1 3 ⟨0, rfl⟩ false false rfl rfl p0 q0 a4 b4 [(n : Int), (n : Int)] y0 [(n : Int), (n : Int)] L 2 c0 _ d0 2 c4 _ k4 _ (E.getRow 4 rfl) (E.getRow 5 rfl) (by simp [maxLen]) m0 o0 z0 rfl rfl (E.getRow 1 rfl) (E.getRow 2 rfl) (by simp [maxLen]) e1 hv1 hc4 rfl rfl).mono ?_
    intro e v5 hp
    obtain ⟨a5, c5, b5, k5, rfl, ra, rb, -, -, hc5, hb⟩ := hp.is_ok hI1.out
    clear hp u0 u1 u2 t0 t1 t2
    dsimp only [List.length_cons, List.length_nil, Nat.reduceAdd] at ra rb hc5 ⊢
    replace E := (((E.step hb).addRow rb).addRow ra).box false a5 2 c5 b5 DL.length k5
    clear ra rb hb
    -- [boxX 0, raX 1, rbX 2, boxB 3, raB 4, rbB 5, boxA 6, r0 7, s0 8]
    obtain ⟨⟨u0, u1, u2⟩, -, -, -⟩ := E.getBox 6 rfl
    obtain ⟨⟨t0, t1, t2⟩, -, -, -⟩ := E.getBox 3 rfl
    go_wp2_with fail
    refine (inner_num 1 3 ⟨0, rfl⟩ false false rfl rfl a4 b4 p0 q0 [(n : Int), (n : Int)] L [(n : Int), (n : Int)] y0 2 c4 _ k4 2 c0 _ d0 _ (E.getRow 4 rfl) (E.getRow 5 rfl) (by simp [maxLen]) e1 hv1 hc4 rfl rfl (E.getRow 7 rfl) (E.getRow 8 rfl) (by simp [maxLen]) m0 o0 z0 rfl rfl).mono ?_
    intro e v6 hp
    obtain ⟨a6, c6, b6, k6, rfl, ra, rb, -, -, hc6, hb⟩ := hp.is_ok hI2.out
    clear hp u0 u1 u2 t0 t1 t2
    dsimp only [List.length_cons, List.length_nil, Nat.reduceAdd] at ra rb hc6 ⊢
    replace E := (((E.step hb).addRow rb).addRow ra).box false a6 2 c6 b6 DL.length k6
    clear ra rb hb
    -- [boxY 0, raY 1, rbY 2, boxX 3, raX 4, rbX 5, boxB 6, .. , boxA 9, r0 10, s0 11]
    obtain ⟨⟨u0, u1, u2⟩, -, -, -⟩ := E.getBox 9 rfl
    go_wp2_with fail
    refine (hdet.out _ (E.getRow 10 rfl) (E.getRow 11 rfl)).mono ?_
    rintro e v7 ⟨rfl, hb⟩
    replace E := E.step hb
    clear hb u0 u1 u2
    obtain ⟨bs, os, rfl, hc0⟩ := (E.getRow 10 rfl) 0 (by simp)
    simp only [List.getD_cons_zero, Nat.add_zero, List.length_cons, List.length_nil, Nat.zero_add, Nat.reduceAdd] at hc0 E
    have hbel := E.bel
    have S0 : v7.drew.cell? ⟨v5.heap.size, 0, none⟩ = some (.bool false) ∧ v7.drew.cell? ⟨v5.heap.size, 1, none⟩ = some (.slice a5 2 c5) ∧ v7.drew.cell? ⟨v5.heap.size, 2, none⟩ = some (.slice b5 DL.length k5) := (E.getBox 3 rfl).1
    have S1 : v7.drew.cell? ⟨w.heap.size, 0, none⟩ = some (.bool false) ∧ v7.drew.cell? ⟨w.heap.size, 1, none⟩ = some (.slice (some ⟨bs, os, none⟩) 2 c0) ∧ v7.drew.cell? ⟨w.heap.size, 2, none⟩ = some (.slice q0 y0.length d0) := (E.getBox 9 rfl).1
    have hc0' : v7.drew.cell? ⟨bs, os, none⟩ = some (.int .i64 (n : Int)) := hc0
    have SS := And.intro S0 (And.intro S1 hc0')
    have rx5 : Row v7.drew a5 [(n : Int), (n : Int)] := E.getRow 4 rfl
    have ry5 : Row v7.drew b5 DL := E.getRow 5 rfl
    clear S0 S1 hc0 hc0'
    go_upto_region 13 with fail
    go_region_held3 (fun w' => (w'.cell? ⟨v5.heap.size, 0, none⟩ = some (.bool false) ∧ w'.cell? ⟨v5.heap.size, 1, none⟩ = some (.slice a5 2 c5) ∧ w'.cell? ⟨v5.heap.size, 2, none⟩ = some (.slice b5 DL.length k5)) ∧ (w'.cell? ⟨w.heap.size, 0, none⟩ = some (.bool false) ∧ w'.cell? ⟨w.heap.size, 1, none⟩ = some (.slice (some ⟨bs, os, none⟩) 2 c0) ∧ w'.cell? ⟨w.heap.size, 2, none⟩ = some (.slice q0 y0.length d0)) ∧ (w'.cell? ⟨bs, os, none⟩ = some (.int .i64 (n : Int))))
      (first | assumption | (exact held7 hb8 (by assumption)) | go_keep)
      (first
        | (go_at_call 36; refine (hdia.out a5 b5 2 c5 _ k5 _ rx5 ry5 rfl hdl.out).mono ?_; rintro e v8 ⟨rfl, hb8⟩))
    clear SS rx5 ry5
    have E8 := (E.drew 1).step hb8
    have hb8' : Below w.heap.size w v8.drew := below_drewN E8.bel 1
    have S0 : v8.drew.cell? ⟨v6.heap.size, 0, none⟩ = some (.bool false) ∧ v8.drew.cell? ⟨v6.heap.size, 1, none⟩ = some (.slice a6 2 c6) ∧ v8.drew.cell? ⟨v6.heap.size, 2, none⟩ = some (.slice b6 DL.length k6) := (E8.getBox 0 rfl).1
    have S1 : v8.drew.cell? ⟨w.heap.size, 0, none⟩ = some (.bool false) ∧ v8.drew.cell? ⟨w.heap.size, 1, none⟩ = some (.slice (some ⟨bs, os, none⟩) 2 c0) ∧ v8.drew.cell? ⟨w.heap.size, 2, none⟩ = some (.slice q0 y0.length d0) := (E8.getBox 9 rfl).1
    have hc8 := (E8.getRow 10 rfl) 0 (by simp)
    obtain ⟨_, _, e, hc8⟩ := hc8
    cases e
    have hc8' : v8.drew.cell? ⟨bs, os, none⟩ = some (.int .i64 (n : Int)) := hc8
    have SS := And.intro S0 (And.intro S1 hc8')
    have rx6 : Row v8.drew a6 [(n : Int), (n : Int)] := E8.getRow 1 rfl
    have ry6 : Row v8.drew b6 DL := E8.getRow 2 rfl
    clear S0 S1 hc8 hc8' E E8
    go_upto_region 14 with fail
    go_region_held3 (fun w' => (w'.cell? ⟨v6.heap.size, 0, none⟩ = some (.bool false) ∧ w'.cell? ⟨v6.heap.size, 1, none⟩ = some (.slice a6 2 c6) ∧ w'.cell? ⟨v6.heap.size, 2, none⟩ = some (.slice b6 DL.length k6)) ∧ (w'.cell? ⟨w.heap.size, 0, none⟩ = some (.bool false) ∧ w'.cell? ⟨w.heap.size, 1, none⟩ = some (.slice (some ⟨bs, os, none⟩) 2 c0) ∧ w'.cell? ⟨w.heap.size, 2, none⟩ = some (.slice q0 y0.length d0)) ∧ (w'.cell? ⟨bs, os, none⟩ = some (.int .i64 (n : Int))))
      (first | assumption | (exact held7 hb9 (by assumption)) | go_keep)
      (first
        | (go_at_call 36; refine (hdia.out a6 b6 2 c6 _ k6 _ rx6 ry6 rfl hdl.out).mono ?_; rintro e v9 ⟨rfl, hb9⟩))
    clear SS rx6 ry6
    have hbz := below_trans hb8' hb9
    go_wp2
    go_ret
    exact ⟨rfl, hbz⟩

end Go.Proofs.Ytohnimfjekemjaa
