/- The walk of the law MatrixHamilton: it returns true at all arrays. No condition. -/
import Derived.Test.YtohnimfjekemjaaWkMDet
import Derived.Test.YtohnimfjekemjaaWkMChar
import Derived.Test.YtohnimfjekemjaaWkPower
import Derived.Test.YtohnimfjekemjaaOwnSt
namespace Go.Proofs.Ytohnimfjekemjaa
open Go.RowKit

/-- One number's share in the sum. -/
def haT (n : Nat) (A : Nat → Nat → Int) (p t : Nat) : Int := (Mx.chi n A).co (n - t) * Mx.pw n A t (p / n) (p % n)
/-- The sums after k powers, the first i of them after one power more. -/
def haF (n : Nat) (A : Nat → Nat → Int) (k i p : Nat) : Int := if p < i then Mx.S (k + 1) (haT n A p) else Mx.S k (haT n A p)
theorem haF_zero (n : Nat) (A : Nat → Nat → Int) : haF n A 0 0 = fun _ => 0 := by funext p; exact if_neg (by omega)
theorem haF_at (n : Nat) (A : Nat → Nat → Int) (k i : Nat) : haF n A k i i = Mx.S k (haT n A i) := if_neg (by omega)
theorem haF_step (n : Nat) (A : Nat → Nat → Int) (k i : Nat) : putR (haF n A k i) i (haF n A k i i + haT n A i k) = haF n A k (i + 1) := by
  funext p
  unfold putR
  by_cases h : p = i
  · subst h; rw [if_pos rfl, haF_at]; unfold haF; rw [if_pos (by omega)]; rfl
  · rw [if_neg h]
    unfold haF
    by_cases h2 : p < i
    · rw [if_pos h2, if_pos (by omega)]
    · rw [if_neg h2, if_neg (by omega)]
theorem haF_next (n : Nat) (A : Nat → Nat → Int) (k : Nat) : rowCells (n * n) (haF n A k (n * n)) = rowCells (n * n) (haF n A (k + 1) 0) := row_congr fun p hp => by
  unfold haF; rw [if_pos hp, if_neg (by omega)]
theorem haF_end {n : Nat} (A : Nat → Nat → Int) {p : Nat} (hp : p < n * n) : haF n A (n + 1) 0 p = 0 := by
  have hn : 0 < n := Nat.pos_of_ne_zero fun h => by subst h; simp at hp
  have := Mx.hamilton A (p / n) (p % n) (Nat.div_lt_of_lt_mul hp) (Nat.mod_lt _ hn)
  unfold haF
  rw [if_neg (by omega), Mx.S_rev, ← this]
  refine Mx.S_congr fun t ht => ?_
  unfold haT
  rw [show n - (n - t) = t by omega]

theorem But.row {g : Nat} {w w' : World} {a : Option Addr} {xs : List Int} (h : Row w a xs) (hb : But g w w') (hne : ∀ p, a = some p → p.block ≠ g) : Row w' a xs := by
  intro i hi
  obtain ⟨b, o, rfl, hc⟩ := h i hi
  have hl := World.block_lt_of_cell? w _ hc
  exact ⟨b, o, rfl, (cell_of_eq (hb b hl (hne _ rfl)) (o + i)).trans hc⟩
theorem But.box {g : Nat} {w w' : World} {N : Nat} {ch : Bool} {a : Option Addr} {m c : Nat} {b : Option Addr} {n z : Nat} (h : BoxF w N ch a m c b n z) (hb : But g w w') (hne : N ≠ g) : BoxF w' N ch a m c b n z :=
  h.same (hb N h.lt hne)
theorem row_at' {w : World} {b o : Nat} {xs : List Int} (h : Row w (some ⟨b, o, none⟩) xs) {i : Nat} (hi : i < xs.length) : w.cell? ⟨b, o + i, none⟩ = some (.int .i64 (xs.getD i 0)) := by
  obtain ⟨b', o', e, hc⟩ := h i hi
  cases e
  exact hc

set_option maxHeartbeats 8000000 in
theorem matrixHamilton_walk (b0 : Bool) (p0 q0 : Option Addr) (x0 y0 : List Int) (c0 d0 : Nat) (w : World)
    (r0 : Row w p0 x0) (t0 : Row w q0 y0) (l0 : x0.length ≤ maxLen) (m0 : y0.length ≤ maxLen) (_ : All64 x0) (o0 : All64 y0) :
    Calls Try.prog 5 #[arrV b0 p0 x0.length c0 q0 y0.length d0] w fun e w' => e = .returned (.bool true) ∧ Below w.heap.size w w' := by
  have E := (((Env.start w).addRow t0).addRow r0).box b0 p0 x0.length c0 q0 y0.length d0
  have hsq := fun w h => isSq_any b0 p0 q0 x0 y0 _ c0 _ d0 w h l0 m0 rfl rfl
  replace hsq := Lib.hid hsq
  cases hq : M.isSq ⟨b0, x0, y0⟩ with
  | false =>
    replace hq := Lib.hid hq
    go_enter Try.func5, Try.ntmps5
    go_wp2_with fail
    refine (fact_any _).mono ?_
    rintro e v1 ⟨rfl, hb⟩
    replace E := E.step hb
    clear hb
    obtain ⟨⟨u0, u1, u2⟩, -, -, -⟩ := E.getBox 0 rfl
    go_wp2_with fail
    refine (hsq.out _ (E.getRow 1 rfl)).mono ?_
    rintro e v2 ⟨rfl, hb⟩
    rw [hq.out]
    replace E := E.step hb
    clear hb u0 u1 u2
    go_wp2
    go_ret
    exact ⟨rfl, E.bel⟩
  | true =>
    obtain ⟨n, hn, hx, hd⟩ := isSq_parts hq
    rw [Arr.mk.injEq] at hx
    obtain ⟨rfl, rfl, -⟩ := hx
    replace hq := Lib.hid hq
    dsimp only at hd
    have hf := sq_mk hn hd
    have hmc : M.mchar ⟨false, [(n : Int), (n : Int)], y0⟩ = .ok (charL n (M.sqA n y0)) := if_pos hf
    have hmp : ∀ k : Nat, M.mpower ⟨false, [(n : Int), (n : Int)], y0⟩ k = .ok ⟨false, [(n : Int), (n : Int)], sqList n (Mx.pw n (M.sqA n y0) k)⟩ := fun k =>
      (if_pos hf).trans (if_neg (by omega))
    obtain ⟨A, hA⟩ : ∃ A, A = M.sqA n y0 := ⟨_, rfl⟩
    rw [← hA] at hmc
    simp only [← hA] at hmp
    have hchar := fun w h1 h2 => mchar_any false p0 q0 [(n : Int), (n : Int)] y0 _ c0 _ d0 w h1 h2 l0 m0 o0 rfl rfl
    have hpow := fun (k : Nat) (hk : k ≤ 6) w h1 h2 => mpower_any (k : Int) false p0 q0 [(n : Int), (n : Int)] y0 _ c0 _ d0 w h1 h2 l0 m0 o0 (by unfold I64; omega) rfl rfl
    have hcl := charL_length n A
    have hcg := fun j (h : j < n + 1) => charL_get A h
    have hsl := fun k => sqList_length n (Mx.pw n A k)
    have hcn : (charL n A).getD n 0 = 1 := by rw [charL_get A (Nat.lt_succ_self n), Nat.sub_self, Mx.chi_zero]; exact wrap_id (by unfold I64; omega)
    generalize charL n A = C at *
    have hnn := Nat.mul_le_mul hn hn
    obtain ⟨N, hN⟩ : ∃ N, N = n * n := ⟨_, rfl⟩
    have N36 : N ≤ 36 := by rw [hN]; exact hnn
    have wN : wrap64 ((n : Int) * (n : Int)) = (N : Int) := by
      have e : ((n : Int) * (n : Int)) = ((n * n : Nat) : Int) := by simp
      rw [e, ← hN]; exact IntWalk.wrap64_in _ (by omega)
    have n6 : (n : Int) ≤ 6 := by omega
    clear hnn hf
    replace hchar := Lib.hid hchar
    replace hpow := Lib.hid hpow
    replace hmc := Lib.hid hmc
    replace hmp := Lib.hid hmp
    replace hcl := Lib.hid hcl
    replace hcg := Lib.hid hcg
    replace hsl := Lib.hid hsl
    replace hcn := Lib.hid hcn
    replace hN := Lib.hid hN
    replace hd := Lib.hid hd
    replace hA := Lib.hid hA
    go_enter Try.func5, Try.ntmps5
    go_wp2_with fail
    refine (fact_any _).mono ?_
    rintro e v1 ⟨rfl, hb⟩
    replace E := E.step hb
    clear hb
    obtain ⟨⟨u0, u1, u2⟩, -, -, -⟩ := E.getBox 0 rfl
    go_wp2_with fail
    refine (hsq.out _ (E.getRow 1 rfl)).mono ?_
    rintro e v2 ⟨rfl, hb⟩
    rw [hq.out]
    replace E := E.step hb
    clear hb u0 u1 u2
    obtain ⟨⟨u0, u1, u2⟩, -, -, -⟩ := E.getBox 0 rfl
    obtain ⟨bs, os, rfl, hc0⟩ := (E.getRow 1 rfl) 0 (by simp)
    simp only [List.getD_cons_zero, Nat.add_zero, List.length_cons, List.length_nil, Nat.zero_add, Nat.reduceAdd] at hc0 u1
    go_wp2_with fail
    refine (hchar.out _ (E.getRow 1 rfl) (E.getRow 2 rfl)).mono ?_
    intro e v3 hp
    obtain ⟨vc, rfl, hoc⟩ := hp.2.1 _ hmc.out
    have hb := hp.2.2
    clear hp u0 u1 u2 hc0
    obtain ⟨gc, cc, rfl, ec1, ec2⟩ := own_slice hoc (by rw [hcl.out]; omega)
    have E3 := (E.step hb).addRow hoc.row
    have cn := own_cell hoc (i := n) (by rw [hcl.out]; omega)
    rw [hcn.out] at cn
    have hl1 : ((C.length : Nat) : Int) = (n : Int) + 1 := by rw [hcl.out]; rfl
    have hl2 : (((C.length : Nat) : Int) != (n : Int) + 1) = false := by rw [bne_eq_false_iff_eq]; exact hl1
    have il : (n : Int) < ((C.length : Nat) : Int) := by omega
    clear E hb hoc
    have ebox := (E3.getBox 1 rfl).lt
    have hmk := run_make_room N N (Nat.le_refl _) (by omega)
    have ilN : n < C.length := by omega
    replace hl1 := Lib.hid hl1
    go_wp2
    obtain ⟨ga, hga⟩ : ∃ ga, ga = v3.heap.size := ⟨_, rfl⟩
    have N4 := heap_alloc_new v3 (.cells (roomCells N) 3)
    have B4 := (Below.refl v3.heap.size v3).alloc (Nat.le_refl _) (.cells (roomCells N) 3)
    rw [← hga] at N4
    have hst : roomCells N = rowCells N (haF n A 0 0) := by rw [room_row, haF_zero]
    rw [hst] at N4
    rw [← hst] at N4
    have gc1 : gc < ga := by omega
    have gb1 : w.heap.size < ga := by omega
    replace hst := Lib.hid hst
    replace N4 := Lib.hid N4
    clear hmk cn ec1 ec2
    have gle1 : v3.heap.size ≤ ga := by omega
    have gle2 : ga ≤ v3.heap.size := by omega
    rw [← hga]
    replace hga := Lib.hid hga
    go_loopw [9] (fun v wr => ∃ k : Nat, k ≤ n + 1 ∧ v = .int .i64 k ∧ wr.heap[ga]? = some (.cells (rowCells N (haF n A k 0)) 3 (0, 0)) ∧ Below v3.heap.size v3 wr) (fun v _ => n + 1 - (intOf v).toNat)
    case atStart => exact ⟨0, Nat.zero_le _, rfl, by rw [← hst.out]; exact N4.out, B4⟩
    case round =>
      clear N4 B4
      obtain ⟨k, hk, rfl, hh, hbv⟩ := hrel
      have E5 := E3.step hbv
      have lga := lt_of_some hh
      by_cases hlt : k < n + 1
      · have e7 : decide ((k : Int) ≤ (n : Int)) = true := decide_eq_true (by omega)
        obtain ⟨⟨u0, u1, u2⟩, -, -, -⟩ := E5.getBox 1 rfl
        have hPl := hsl.out k
        have hPg : ∀ p, p < N → (sqList n (Mx.pw n A k)).getD p 0 = wrap64 (Mx.pw n A k (p / n) (p % n)) := fun p hp => by
          rw [hN.out] at hp
          have hn0 : 0 < n := Nat.pos_of_ne_zero fun h => by subst h; simp at hp
          have := sqList_get (Mx.pw n A k) (Nat.div_lt_of_lt_mul hp) (Nat.mod_lt p hn0)
          rw [show p / n * n + p % n = p by rw [Nat.mul_comm]; exact Nat.div_add_mod p n] at this
          exact this
        replace hh := Lib.hid hh
        replace hPg := Lib.hid hPg
        go_wp2_with fail
        refine (hpow.out k (by omega) _ (E5.getRow 2 rfl) (E5.getRow 3 rfl)).mono ?_
        intro e v5 hp
        obtain ⟨a5, k5, e5, f5, rfl, ra, rb, fa, fb, hb⟩ := hp.is_ok (hmp.out k)
        clear hp u0 u1 u2
        dsimp only [List.length_cons, List.length_nil, Nat.reduceAdd] at ra rb ⊢
        generalize sqList n (Mx.pw n A k) = P at *
        have hh5 := (hb.block ga lga).trans hh.out
        have hbv5 := hbv.trans (hb.mono hbv.size)
        have s5 := hb.size
        have E6 := (((E5.step hb).addRow rb).addRow ra).box false a5 2 k5 e5 P.length f5
        obtain ⟨w6, hw6⟩ : ∃ w6, w6 = v5.alloc (.cells #[.bool false, .slice a5 2 k5, .slice e5 P.length f5] 24) := ⟨_, rfl⟩
        have hh6 := (heap_alloc_old v5 (.cells #[.bool false, .slice a5 2 k5, .slice e5 P.length f5] 24) (lt_of_some hh5)).trans hh5
        have hbv6 := hbv5.alloc hbv5.size (.cells #[.bool false, .slice a5 2 k5, .slice e5 P.length f5] 24)
        rw [← hw6] at E6 hh6 hbv6
        have hPN : ((P.length : Nat) : Int) = (N : Int) := by rw [hPl, hN.out]
        have hP2 : (((P.length : Nat) : Int) != (N : Int)) = false := by rw [bne_eq_false_iff_eq]; exact hPN
        have hP3 : P.length = N := by rw [hPl, hN.out]
        have fb2 : ∀ p, e5 = some p → p.block ≠ ga := fun p e => by have := fb p e; omega
        have nb2 : v5.heap.size ≠ ga := by omega
        clear ra rb fa fb hb hh5 hbv5 hPl hh
        replace hPN := Lib.hid hPN
        replace hP3 := Lib.hid hP3
        replace fb2 := Lib.hid fb2
        replace hh6 := Lib.hid hh6
        replace hw6 := Lib.hid hw6
        go_wp2
        go_loopw [12] (fun v wr => ∃ i : Nat, i ≤ N ∧ v = .int .i64 i ∧ But ga w6 wr ∧ wr.heap[ga]? = some (.cells (rowCells N (haF n A k i)) 3 (0, 0)) ∧ Below v3.heap.size v3 wr) (fun v _ => N - (intOf v).toNat)
        case atStart =>
          rw [← hw6.out]
          exact ⟨0, Nat.zero_le _, rfl, But.refl _ _, hh6.out, hbv6⟩
        case round =>
          clear hh6 hbv6
          obtain ⟨i, hi, rfl, hbut, hh, hbel⟩ := hrel
          by_cases hli : i < N
          · obtain ⟨⟨u0, u1, u2⟩, -, -, -⟩ := But.box (E6.getBox 0 rfl) hbut nb2
            obtain ⟨bp, op, rfl, cP⟩ := But.row (E6.getRow 2 rfl) hbut fb2.out i (by rw [hP3.out]; exact hli)
            have cC := row_at' (But.row (E6.getRow 3 rfl) hbut (fun p e => by cases e; show gc ≠ ga; omega)) (i := k) (by rw [hcl.out]; omega)
            rw [hPg.out i hli] at cP
            rw [hcg.out k hlt, Nat.zero_add] at cC
            have cA := row_cell hh hli
            have fA := frozen_of_row wr ga i _ 3 hh
            have hset := row_set hh i (haF n A k i i + haT n A i k)
            rw [haF_step] at hset
            have hv := wrap_mac (haF n A k i i) ((Mx.chi n A).co (n - k)) (Mx.pw n A k (i / n) (i % n))
            unfold haT at hset
            generalize wrap64 (haF n A k i i + (Mx.chi n A).co (n - k) * Mx.pw n A k (i / n) (i % n)) = nv at *
            generalize wrap64 (haF n A k i i) = z0 at *
            generalize wrap64 ((Mx.chi n A).co (n - k)) = z1 at *
            generalize wrap64 (Mx.pw n A k (i / n) (i % n)) = z2 at *
            have iC : (k : Int) < ((C.length : Nat) : Int) := by have := hl1.out; omega
            have iP : (i : Int) < ((P.length : Nat) : Int) := by have := hPN.out; omega
            have iP2 : i < P.length := by rw [hP3.out]; exact hli
            replace hset := Lib.hid hset
            replace hh := Lib.hid hh
            replace hbut := Lib.hid hbut
            replace hv := Lib.hid hv
            go_wp2
            go_region
            go_wp2
            go_roundw
            case rel =>
              have hset := hset.out
              rw [← hv.out] at hset
              exact ⟨i + 1, by clear wN; omega, by go_num, hbut.out.set _ _, hset, (hbel.setCell (p := ⟨ga, i, none⟩) (by show v3.heap.size ≤ ga; omega) _).drew⟩
            case measure => (clear wN; simp [intOf]; omega)
          obtain rfl : i = N := by omega
          have hnx := haF_next n A k
          rw [← hN.out] at hnx
          rw [hnx] at hh
          replace hh := Lib.hid hh
          replace hbut := Lib.hid hbut
          replace hnx := Lib.hid hnx
          go_wp2
          go_roundw
          case rel => exact ⟨k + 1, by clear wN; omega, by go_num, hh.out, hbel⟩
          case measure => (clear wN; simp [intOf]; omega)
      obtain rfl : k = n + 1 := by omega
      have hz : ∀ i, i < N → wr.cell? ⟨ga, i, none⟩ = some (.int .i64 0) := fun i hi => by
        rw [row_cell hh hi, haF_end A (by rw [← hN.out]; exact hi), wrap_zero]
      have hbel := E5.bel
      have e7 : decide (((n + 1 : Nat) : Int) ≤ (n : Int)) = false := decide_eq_false (by omega)
      replace hz := Lib.hid hz
      clear hh E5 E3
      go_wp2
      go_loop [13] (fun v => ∃ i : Nat, i ≤ N ∧ v = .int .i64 i) (fun v => N - (intOf v).toNat)
      case atStart => exact ⟨0, Nat.zero_le _, rfl⟩
      case round =>
        obtain ⟨i, hi, rfl⟩ := hrel
        by_cases hli : i < N
        · have c1 := hz.out i hli
          go_wp2
          go_round
          case rel => exact ⟨i + 1, by clear wN; omega, by go_num⟩
          case measure => (clear wN; simp [intOf]; omega)
        obtain rfl : i = N := by omega
        go_wp2
        go_ret
        exact ⟨rfl, hbel⟩

end Go.Proofs.Ytohnimfjekemjaa
