/- The walk of the law MatrixSylvester: it returns true at all arrays. No condition. -/
import Derived.Test.YtohnimfjekemjaaWkMDet
import Derived.Test.YtohnimfjekemjaaWkInner
import Derived.Test.YtohnimfjekemjaaPowPlain
import Derived.Test.YtohnimfjekemjaaInts
import Derived.Test.YtohnimfjekemjaaBdQ
import Derived.Deep.Cut
namespace Go.Proofs.Ytohnimfjekemjaa
open Go.RowKit

theorem row_at9 {w : World} {b o : Nat} {xs : List Int} (h : Row w (some ⟨b, o, none⟩) xs) {i : Nat} (hi : i < xs.length) : w.cell? ⟨b, o + i, none⟩ = some (.int .i64 (xs.getD i 0)) := by
  obtain ⟨b', o', e, hc⟩ := h i hi
  cases e
  exact hc

set_option maxRecDepth 20000 in
set_option maxHeartbeats 8000000 in
theorem matrixSylvester_walk (b0 : Bool) (p0 q0 : Option Addr) (x0 y0 : List Int) (c0 d0 : Nat) (b1 : Bool) (p1 q1 : Option Addr) (x1 y1 : List Int) (c1 d1 : Nat) (w : World)
    (r0 : Row w p0 x0) (s0 : Row w q0 y0) (l0 : x0.length ≤ maxLen) (m0 : y0.length ≤ maxLen) (_ : All64 x0) (o0 : All64 y0) (z0 : x0.length ≤ c0) (_ : y0.length ≤ d0)
    (r1 : Row w p1 x1) (s1 : Row w q1 y1) (l1 : x1.length ≤ maxLen) (m1 : y1.length ≤ maxLen) (_ : All64 x1) (o1 : All64 y1) (z1 : x1.length ≤ c1) (_ : y1.length ≤ d1) :
    Calls Try.prog 12 #[arrV b0 p0 x0.length c0 q0 y0.length d0, arrV b1 p1 x1.length c1 q1 y1.length d1] w fun e w' => e = .returned (.bool true) ∧ Below w.heap.size w w' := by
  have E := ((((((Env.start w).addRow s1).addRow r1).addRow s0).addRow r0).box b0 p0 x0.length c0 q0 y0.length d0).box b1 p1 x1.length c1 q1 y1.length d1
  simp only [World.size_alloc] at E
  have hsa := fun w h => isSq_any b0 p0 q0 x0 y0 _ c0 _ d0 w h l0 m0 rfl rfl
  have hsb := fun w h => isSq_any b1 p1 q1 x1 y1 _ c1 _ d1 w h l1 m1 rfl rfl
  replace hsa := Lib.hid hsa
  replace hsb := Lib.hid hsb
  cases hqa : M.isSq ⟨b0, x0, y0⟩ with
  | false =>
    replace hqa := Lib.hid hqa
    go_enter Try.func12, Try.ntmps12
    go_wp2_with fail
    refine (fact_any _).mono ?_
    rintro e v1 ⟨rfl, hb⟩
    replace E := E.step hb
    clear hb
    obtain ⟨⟨u0, u1, u2⟩, -, -, -⟩ := E.getBox 1 rfl
    obtain ⟨⟨t0, t1, t2⟩, -, -, -⟩ := E.getBox 0 rfl
    go_wp2_with fail
    refine (hsa.out _ (E.getRow 2 rfl)).mono ?_
    rintro e v2 ⟨rfl, hb⟩
    rw [hqa.out]
    replace E := E.step hb
    clear hb u0 u1 u2 t0 t1 t2
    obtain ⟨⟨u0, u1, u2⟩, -, -, -⟩ := E.getBox 1 rfl
    obtain ⟨⟨t0, t1, t2⟩, -, -, -⟩ := E.getBox 0 rfl
    go_wp2_with fail
    refine (hsb.out _ (E.getRow 4 rfl)).mono ?_
    rintro e v3 ⟨rfl, hb⟩
    replace E := E.step hb
    clear hb u0 u1 u2 t0 t1 t2
    generalize M.isSq ⟨b1, x1, y1⟩ = bb at *
    go_wp2
    go_quiet (fail)
    go_wp2
    go_ret
    exact ⟨rfl, below_drewN E.bel _⟩
  | true =>
  cases hqb : M.isSq ⟨b1, x1, y1⟩ with
  | false =>
    replace hqa := Lib.hid hqa
    replace hqb := Lib.hid hqb
    go_enter Try.func12, Try.ntmps12
    go_wp2_with fail
    refine (fact_any _).mono ?_
    rintro e v1 ⟨rfl, hb⟩
    replace E := E.step hb
    clear hb
    obtain ⟨⟨u0, u1, u2⟩, -, -, -⟩ := E.getBox 1 rfl
    obtain ⟨⟨t0, t1, t2⟩, -, -, -⟩ := E.getBox 0 rfl
    go_wp2_with fail
    refine (hsa.out _ (E.getRow 2 rfl)).mono ?_
    rintro e v2 ⟨rfl, hb⟩
    rw [hqa.out]
    replace E := E.step hb
    clear hb u0 u1 u2 t0 t1 t2
    obtain ⟨⟨u0, u1, u2⟩, -, -, -⟩ := E.getBox 1 rfl
    obtain ⟨⟨t0, t1, t2⟩, -, -, -⟩ := E.getBox 0 rfl
    go_wp2_with fail
    refine (hsb.out _ (E.getRow 4 rfl)).mono ?_
    rintro e v3 ⟨rfl, hb⟩
    rw [hqb.out]
    replace E := E.step hb
    clear hb u0 u1 u2 t0 t1 t2
    go_wp2
    go_quiet (fail)
    go_wp2
    go_ret
    exact ⟨rfl, below_drewN E.bel _⟩
  | true =>
    obtain ⟨n, hn, hx, hd⟩ := isSq_parts hqa
    rw [Arr.mk.injEq] at hx
    obtain ⟨rfl, rfl, -⟩ := hx
    obtain ⟨n', hn', hx, hd'⟩ := isSq_parts hqb
    rw [Arr.mk.injEq] at hx
    obtain ⟨rfl, rfl, -⟩ := hx
    dsimp only at hd hd'
    replace hqa := Lib.hid hqa
    replace hqb := Lib.hid hqb
    replace hd := Lib.hid hd
    replace hd' := Lib.hid hd'
    go_enter Try.func12, Try.ntmps12
    go_wp2_with fail
    refine (fact_any _).mono ?_
    rintro e v1 ⟨rfl, hb⟩
    replace E := E.step hb
    clear hb
    obtain ⟨⟨u0, u1, u2⟩, -, -, -⟩ := E.getBox 1 rfl
    obtain ⟨⟨t0, t1, t2⟩, -, -, -⟩ := E.getBox 0 rfl
    go_wp2_with fail
    refine (hsa.out _ (E.getRow 2 rfl)).mono ?_
    rintro e v2 ⟨rfl, hb⟩
    rw [hqa.out]
    replace E := E.step hb
    clear hb u0 u1 u2 t0 t1 t2
    obtain ⟨⟨u0, u1, u2⟩, -, -, -⟩ := E.getBox 1 rfl
    obtain ⟨⟨t0, t1, t2⟩, -, -, -⟩ := E.getBox 0 rfl
    go_wp2_with fail
    refine (hsb.out _ (E.getRow 4 rfl)).mono ?_
    rintro e v3 ⟨rfl, hb⟩
    rw [hqb.out]
    replace E := E.step hb
    clear hb u0 u1 u2 t0 t1 t2
    obtain ⟨⟨u0, u1, u2⟩, -, -, -⟩ := E.getBox 1 rfl
    obtain ⟨⟨t0, t1, t2⟩, -, -, -⟩ := E.getBox 0 rfl
    obtain ⟨bs, os, rfl, hc0⟩ := (E.getRow 2 rfl) 0 (by simp)
    obtain ⟨bt, ot, rfl, hc1⟩ := (E.getRow 4 rfl) 0 (by simp)
    simp only [List.getD_cons_zero, Nat.add_zero, List.length_cons, List.length_nil, Nat.zero_add, Nat.reduceAdd] at hc0 hc1 u1 t1
    by_cases hnn : n = n'
    case neg =>
      have e1 : (((n : Int)) != (n' : Int)) = true := by rw [bne_iff_ne]; omega
      have e2 : (((n : Int)) == (n' : Int)) = false := by rw [beq_eq_false_iff_ne]; omega
      go_wp2
      go_quiet (fail)
      go_wp2
      go_ret
      exact ⟨rfl, below_drewN E.bel _⟩
    subst hnn
    have hI1 := inner_sq hn hd.out hd'.out
    have hI2 := inner_sq hn hd'.out hd.out
    have hch := charL_sylvester n (M.sqA n y0) (M.sqA n y1)
    have hl1 := sqList_length n (Mx.mul n (M.sqA n y0) (M.sqA n y1))
    have hl2 := sqList_length n (Mx.mul n (M.sqA n y1) (M.sqA n y0))
    have hv1 := sqList_i64 n (Mx.mul n (M.sqA n y0) (M.sqA n y1))
    have hv2 := sqList_i64 n (Mx.mul n (M.sqA n y1) (M.sqA n y0))
    generalize sqList n (Mx.mul n (M.sqA n y0) (M.sqA n y1)) = L at *
    generalize sqList n (Mx.mul n (M.sqA n y1) (M.sqA n y0)) = L' at *
    have hnn := Nat.mul_le_mul hn hn
    have e1 : L.length ≤ maxLen := by rw [hl1]; unfold maxLen; omega
    have e2 : L'.length ≤ maxLen := by rw [hl2]; unfold maxLen; omega
    have hm1 : M.mchar ⟨false, [(n : Int), (n : Int)], L⟩ = .ok (charL n (M.sqA n L)) := if_pos (sq_mk hn hl1)
    have hm2 : M.mchar ⟨false, [(n : Int), (n : Int)], L'⟩ = .ok (charL n (M.sqA n L)) := (if_pos (sq_mk hn hl2)).trans (congrArg Except.ok hch.symm)
    have hct := fun h => char_trace (n := n) L h
    have hcf : (charL n (M.sqA n L)).getD 0 0 = if n % 2 = 1 then wrap64 (-sdet n L) else sdet n L := char_first n (M.sqA n L)
    have hcl := charL_length n (M.sqA n L)
    generalize charL n (M.sqA n L) = C at *
    obtain ⟨N, hN⟩ : ∃ N, N = n * n := ⟨_, rfl⟩
    have N36 : N ≤ 36 := by rw [hN]; exact hnn
    have wN : wrap64 ((n : Int) * (n : Int)) = (N : Int) := by
      have e : ((n : Int) * (n : Int)) = ((n * n : Nat) : Int) := by simp
      rw [e, ← hN]; exact IntWalk.wrap64_in _ (by omega)
    have n6 : (n : Int) ≤ 6 := by omega
    have hC1 : (((C.length : Nat) : Int) != (n : Int) + 1) = false := by rw [bne_eq_false_iff_eq, hcl]; rfl
    have hLN : (((L.length : Nat) : Int) != (N : Int)) = false := by rw [bne_eq_false_iff_eq, hl1, ← hN]
    have hCm : C.length ≤ maxLen := by rw [hcl]; unfold maxLen; omega
    have e9 : ((n : Int) != (n : Int)) = false := by simp
    clear hnn hch
    replace hI1 := Lib.hid hI1
    replace hI2 := Lib.hid hI2
    replace hl1 := Lib.hid hl1
    replace hl2 := Lib.hid hl2
    replace hm1 := Lib.hid hm1
    replace hm2 := Lib.hid hm2
    replace hct := Lib.hid hct
    replace hcf := Lib.hid hcf
    replace hcl := Lib.hid hcl
    replace hN := Lib.hid hN
    replace wN := Lib.hid wN
    replace hC1 := Lib.hid hC1
    replace hLN := Lib.hid hLN
    go_wp2_with fail
    go_quiet (fail)
    replace E := E.drew ‹Nat›
    clear u0 u1 u2 t0 t1 t2 hc0 hc1
    obtain ⟨⟨u0, u1, u2⟩, -, -, -⟩ := E.getBox 1 rfl
    obtain ⟨⟨t0, t1, t2⟩, -, -, -⟩ := E.getBox 0 rfl
    go_wp2_with fail
    refine (inner_num 1 3 ⟨0, rfl⟩ false false rfl rfl (some ⟨bs, os, none⟩) q0 (some ⟨bt, ot, none⟩) q1 [(n : Int), (n : Int)] y0 [(n : Int), (n : Int)] y1 2 c0 _ d0 2 c1 _ d1 _ (E.getRow 2 rfl) (E.getRow 3 rfl) (by simp [maxLen]) m0 o0 z0 rfl rfl (E.getRow 4 rfl) (E.getRow 5 rfl) (by simp [maxLen]) m1 o1 z1 rfl rfl).mono ?_
    intro e v4 hp
    obtain ⟨a4, c4, b4, k4, rfl, ra, rb, -, -, hc4, hb⟩ := hp.is_ok hI1.out
    clear hp u0 u1 u2 t0 t1 t2
    dsimp only [List.length_cons, List.length_nil, Nat.reduceAdd] at ra rb hc4 ⊢
    replace E := (((E.step hb).addRow rb).addRow ra).box false a4 2 c4 b4 L.length k4
    clear ra rb hb
    obtain ⟨⟨u0, u1, u2⟩, -, -, -⟩ := E.getBox 4 rfl
    obtain ⟨⟨t0, t1, t2⟩, -, -, -⟩ := E.getBox 3 rfl
    go_wp2_with fail
    refine (inner_num 1 3 ⟨0, rfl⟩ false false rfl rfl (some ⟨bt, ot, none⟩) q1 (some ⟨bs, os, none⟩) q0 [(n : Int), (n : Int)] y1 [(n : Int), (n : Int)] y0 2 c1 _ d1 2 c0 _ d0 _ (E.getRow 7 rfl) (E.getRow 8 rfl) (by simp [maxLen]) m1 o1 z1 rfl rfl (E.getRow 5 rfl) (E.getRow 6 rfl) (by simp [maxLen]) m0 o0 z0 rfl rfl).mono ?_
    intro e v5 hp
    obtain ⟨a5, c5, b5, k5, rfl, ra, rb, -, -, hc5, hb⟩ := hp.is_ok hI2.out
    clear hp u0 u1 u2 t0 t1 t2
    dsimp only [List.length_cons, List.length_nil, Nat.reduceAdd] at ra rb hc5 ⊢
    replace E := (((E.step hb).addRow rb).addRow ra).box false a5 2 c5 b5 L'.length k5
    clear ra rb hb
    obtain ⟨⟨u0, u1, u2⟩, -, -, -⟩ := E.getBox 3 rfl
    go_wp2_with fail
    refine (mchar_any false a4 b4 [(n : Int), (n : Int)] L _ c4 _ k4 _ (E.getRow 4 rfl) (E.getRow 5 rfl) (by simp [maxLen]) e1 hv1 rfl rfl).mono ?_
    intro e v6 hp
    obtain ⟨vc, rfl, hoc⟩ := hp.2.1 _ hm1.out
    have hb := hp.2.2
    clear hp u0 u1 u2
    obtain ⟨gc, cc, rfl, -, -⟩ := own_slice hoc (by rw [hcl.out]; omega)
    replace E := (E.step hb).addRow hoc.row
    clear hoc hb
    obtain ⟨⟨u0, u1, u2⟩, -, -, -⟩ := E.getBox 1 rfl
    go_wp2_with fail
    refine (mchar_any false a5 b5 [(n : Int), (n : Int)] L' _ c5 _ k5 _ (E.getRow 2 rfl) (E.getRow 3 rfl) (by simp [maxLen]) e2 hv2 rfl rfl).mono ?_
    intro e v7 hp
    obtain ⟨vd, rfl, hod⟩ := hp.2.1 _ hm2.out
    have hb := hp.2.2
    clear hp u0 u1 u2
    obtain ⟨gd, cd, rfl, -, -⟩ := own_slice hod (by rw [hcl.out]; omega)
    replace E := (E.step hb).addRow hod.row
    clear hod hb
    go_wp2_with fail
    refine (ints_any (some ⟨gc, 0, none⟩) (some ⟨gd, 0, none⟩) C C _ _ cc cd _ (E.getRow 1 rfl) (E.getRow 0 rfl) hCm hCm rfl rfl).mono ?_
    rintro e v8 ⟨rfl, nd, rfl⟩
    rw [decide_eq_true (rfl : C = C)]
    replace E := E.drew nd
    obtain ⟨⟨u0, u1, u2⟩, -, -, -⟩ := E.getBox 9 rfl
    obtain ⟨⟨t0, t1, t2⟩, -, -, -⟩ := E.getBox 5 rfl
    have hc0 := row_at9 (E.getRow 10 rfl) (i := 0) (by simp)
    simp only [List.getD_cons_zero, Nat.add_zero, List.length_cons, List.length_nil, Nat.zero_add, Nat.reduceAdd] at hc0 u1
    have hC1' := hC1.out
    have hLN' := hLN.out
    have wN' := wN.out
    rcases Nat.eq_zero_or_pos n with hn0 | hn0
    · have e0 : ((n : Int) == 0) = true := by rw [beq_iff_eq]; omega
      have hbel := E.bel
      clear E
      replace hn0 := Lib.hid hn0
      go_wp2
      go_ret
      exact ⟨rfl, hbel⟩
    have e0 : ((n : Int) == 0) = false := by rw [beq_eq_false_iff_ne]; omega
    have hrL := E.getRow 7 rfl
    obtain ⟨bl, ol, rfl, -⟩ := hrL 0 (by rw [hl1.out]; exact Nat.mul_pos hn0 hn0)
    have hcC0 := row_at9 (E.getRow 1 rfl) (i := 0) (by rw [hcl.out]; omega)
    have hcC1 := row_at9 (E.getRow 1 rfl) (i := n - 1) (by rw [hcl.out]; omega)
    rw [hct.out hn0] at hcC1
    rw [hcf.out] at hcC0
    rw [Nat.zero_add] at hcC1
    obtain ⟨m, hm⟩ : ∃ m, m = n - 1 := ⟨_, rfl⟩
    rw [← hm] at hcC1
    have e7 : (n : Int) - 1 = (m : Int) := by omega
    have iC : (m : Int) < ((C.length : Nat) : Int) := by rw [hcl.out]; omega
    have iC2 : m < C.length := by rw [hcl.out]; omega
    have iC0 : (0 : Int) < ((C.length : Nat) : Int) := by omega
    have rx := E.getRow 6 rfl
    have hbel := E.bel
    have tr0 := trL_zero n L
    replace tr0 := Lib.hid tr0
    replace hm := Lib.hid hm
    replace E := Lib.hid E
    replace e7 := Lib.hid e7
    go_upto_region 18 with fail
    go_cut [18] from 21 (fun s18 wx => s18 = .int .i64 0 ∧ wx = v7.drewN nd)
    case first =>
      go_wp2
      go_meet
      case rel => exact ⟨rfl, rfl⟩
    case rest =>
    obtain ⟨rfl, rfl⟩ := hcut
    go_wp2
    go_loop [18, 19] (fun t v => ∃ i : Nat, i ≤ n ∧ v = .int .i64 i ∧ t = .int .i64 (trL n L i)) (fun _ v => n - (intOf v).toNat)
    case atStart => exact ⟨0, Nat.zero_le _, rfl, by rw [tr0.out]⟩
    case round =>
      obtain ⟨i, hi, rfl, rfl⟩ := hrel
      by_cases hlt : i < n
      · have hx := trL_succ (n := n) L hlt
        have hbI := sq_index_lt hlt hlt
        rw [← hN.out] at hbI
        obtain ⟨P, hP⟩ : ∃ P, P = i * n := ⟨_, rfl⟩
        rw [← hP] at hx hbI
        have wP : wrap64 ((i : Int) * (n : Int)) = (P : Int) := by
          have e : ((i : Int) * (n : Int)) = ((i * n : Nat) : Int) := by simp
          rw [e, ← hP]; exact IntWalk.wrap64_in _ (by clear wN'; omega)
        have cP := row_at9 hrL (i := P + i) (by rw [hl1.out, ← hN.out]; exact hbI)
        have iP : (P : Int) + (i : Int) < (L.length : Int) := by rw [hl1.out, ← hN.out]; clear wN' wP; omega
        have iP2 : P + i < L.length := by rw [hl1.out, ← hN.out]; exact hbI
        have P36 : P ≤ 36 := by clear wN' wP; omega
        have i6 : i ≤ 6 := by clear wN' wP; omega
        have wPi : wrap64 ((P : Int) + (i : Int)) = (P : Int) + (i : Int) := IntWalk.wrap64_in _ (by clear wN' wP; omega)
        generalize L.getD (P + i) 0 = x1 at *
        generalize trL n L i = x3 at *
        have wP' : ∀ a b : Int, a = (i : Int) → b = (n : Int) → wrap64 (a * b) = (P : Int) := fun a b ha hb => by rw [ha, hb]; exact wP
        clear wP
        replace hP := Lib.hid hP
        replace hx := Lib.hid hx
        clear wN' hC1' hLN'
        clear hcC0 hcC1 hc0 hrL u0 u1 u2 t0 t1 rx hbel hcf hct hcl E e7 hm tr0 hI1 hI2 hm1 hm2 hN hC1 hLN hd hd' hsa hsb hqa hqb
        clear iC iC2 iC0 hn0 e0 e9 e1 e2 l0 l1 z0 z1 hv1 hv2 o0 o1 m0 m1 hc4 hc5 hCm
        go_wp2
        clear wP' wPi iP iP2 cP P36 hbI N36
        go_round
        case rel => exact ⟨i + 1, by omega, by go_num, by rw [← hx.out]⟩
        case measure => (simp [intOf]; omega)
      · obtain rfl : i = n := by omega
        clear wN' hC1' hLN' hct
        have e7' := e7.out
        generalize trL i L i = TR at *
        go_wp2_with fail
        refine (lawDet_any i a4 (some ⟨bl, ol, none⟩) L 2 c4 L.length k4 _ rx hrL e1 hv1 hn hl1.out rfl rfl).mono ?_
        rintro e v9 ⟨rfl, hb⟩
        have hbz := below_trans hbel hb
        have k0 := (hb.cell (World.block_lt_of_cell? _ _ hcC0)).trans hcC0
        have k1 := (hb.cell (World.block_lt_of_cell? _ _ hcC1)).trans hcC1
        generalize sdet i L = D at *
        clear hcC0 hcC1 hb
        rcases Nat.mod_two_eq_zero_or_one i with h | h
        · rw [if_neg (by omega)] at k0
          have e1 : ((i : Int) % 2 == 1) = false := by rw [beq_eq_false_iff_ne]; omega
          have e2 : ((i : Int).tmod 2 == 1) = false := by rw [beq_eq_false_iff_ne, Int.tmod_eq_emod_of_nonneg (by omega)]; omega
          replace h := Lib.hid h
          go_wp2
          go_ret
          exact ⟨rfl, hbz⟩
        · rw [if_pos h] at k0
          have e1 : ((i : Int) % 2 == 1) = true := by rw [beq_iff_eq]; omega
          have e2 : ((i : Int).tmod 2 == 1) = true := by rw [beq_iff_eq, Int.tmod_eq_emod_of_nonneg (by omega)]; omega
          replace h := Lib.hid h
          go_wp2
          go_ret
          exact ⟨rfl, hbz⟩

end Go.Proofs.Ytohnimfjekemjaa
