/- Texts that lie in one file: what is plain, rows, boxes, squares, and what is known of a world. No condition. -/
import Derived.Test.YtaplaoelamnoiaaGreatDoorBdT05
import Derived.Test.YtaplaoelamnoiaaGreatDoorBdT09
import Derived.Test.YtaplaoelamnoiaaGreatDoorBd04
import Derived.Test.YtaplaoelamnoiaaGreatDoorBd20
import Derived.Test.YtaplaoelamnoiaaGreatDoorBd19
import Derived.Test.YtaplaoelamnoiaaGreatDoorBdT14
/- The table of products of the law TopSieve, in plain Lean. Condition: at most 62 numbers. -/
namespace Go.Proofs.YtaplaoelamnoiaaGreatDoor
open Go.RowKit

theorem list_flaw {d : List Int} (h : d.length ≤ 4096) : M.flaw false [(d.length : Int)] d = 0 := by
  unfold M.flaw
  rw [count_one h]
  simp
theorem count_sq {m : Nat} (h : m ≤ 62) : M.count ([(m : Int)] ++ [(m : Int)]) = .ok ((m * m : Nat) : Int) := by
  have h1 : m * m ≤ 62 * 62 := Nat.mul_le_mul h h
  have hb : M.badLen [(m : Int), (m : Int)] = 0 := by
    unfold M.badLen M.badLen M.badLen
    rw [if_neg (by omega), if_neg (by omega), if_neg (by omega), if_neg (by omega)]
  show M.count [(m : Int), (m : Int)] = _
  unfold M.count
  rw [if_neg (by simp), if_neg (by rw [hb]; simp)]
  by_cases h0 : m = 0
  · subst h0; simp
  · rw [if_neg (by simp; omega)]
    unfold M.mulUp M.mulUp M.mulUp
    rw [if_neg (by omega), if_neg (by rw [Int.one_mul, ← Int.natCast_mul]; omega), Int.one_mul, Int.natCast_mul]
/-- The products of the numbers from 2 on, below n. -/
def tabN (n : Nat) : List Int := (List.range ((n - 2) * (n - 2))).map fun q => (((q / (n - 2) + 2) * (q % (n - 2) + 2) : Nat) : Int)
theorem tabN_mem {n : Nat} {v : Int} : v ∈ tabN n ↔ ∃ a b : Nat, (2 ≤ a ∧ a < n) ∧ (2 ≤ b ∧ b < n) ∧ v = ((a * b : Nat) : Int) := by
  unfold tabN
  rw [List.mem_map]
  constructor
  · rintro ⟨q, hq, rfl⟩
    have hq := List.mem_range.1 hq
    have hm : 0 < n - 2 := by
      rcases Nat.eq_zero_or_pos (n - 2) with h | h
      · rw [h] at hq; simp at hq
      · exact h
    have h1 : q / (n - 2) < n - 2 := Nat.div_lt_of_lt_mul hq
    have h2 : q % (n - 2) < n - 2 := Nat.mod_lt _ hm
    exact ⟨_, _, ⟨Nat.le_add_left 2 _, by omega⟩, ⟨Nat.le_add_left 2 _, by omega⟩, rfl⟩
  · rintro ⟨a, b, ⟨h1, h2⟩, ⟨h3, h4⟩, rfl⟩
    have hm : 0 < n - 2 := by omega
    refine ⟨(a - 2) * (n - 2) + (b - 2), List.mem_range.2 ?_, ?_⟩
    · have : (a - 2 + 1) * (n - 2) ≤ (n - 2) * (n - 2) := Nat.mul_le_mul_right _ (by omega)
      rw [Nat.add_mul, Nat.one_mul] at this
      omega
    · rw [Nat.mul_comm (a - 2), Nat.mul_add_div hm, Nat.div_eq_of_lt (show b - 2 < n - 2 by omega), Nat.mul_add_mod, Nat.mod_eq_of_lt (show b - 2 < n - 2 by omega), Nat.add_zero, show a - 2 + 2 = a by omega, show b - 2 + 2 = b by omega]
theorem sv_outer {n : Nat} (h : n ≤ 64) : M.outer 3 ⟨false, [((fromTwo n).length : Int)], fromTwo n⟩ ⟨false, [((fromTwo n).length : Int)], fromTwo n⟩ = .ok ⟨false, [((fromTwo n).length : Int), ((fromTwo n).length : Int)], tabN n⟩ := by
  have hl := fromTwo_length n
  have hf : M.flaw false [((fromTwo n).length : Int)] (fromTwo n) = 0 := list_flaw (by omega)
  have hs : M.seqE ((fromTwo n).length * (fromTwo n).length) (M.outC 3 false false (fromTwo n) (fromTwo n)) = .ok (tabN n) := by
    rw [hl]
    refine seqE_ok fun q hq => ?_
    have hm : 0 < n - 2 := by
      rcases Nat.eq_zero_or_pos (n - 2) with h | h
      · rw [h] at hq; simp at hq
      · exact h
    have h1 : q / (n - 2) < n - 2 := Nat.div_lt_of_lt_mul hq
    have h2 : q % (n - 2) < n - 2 := Nat.mod_lt _ hm
    unfold M.outC
    rw [hl, fromTwo_at h1, fromTwo_at h2]
    generalize q / (n - 2) = x at *
    generalize q % (n - 2) = y at *
    have hxy : (x + 2) * (y + 2) ≤ 64 * 64 := Nat.mul_le_mul (by omega) (by omega)
    show Except.ok (wrap64 (((x + 2 : Nat) : Int) * ((y + 2 : Nat) : Int))) = _
    rw [← Int.natCast_mul, wrap_id (by unfold I64; omega)]
  unfold M.outer
  rw [if_neg (by decide)]
  dsimp only
  rw [if_neg (by unfold M.flaws; simp [hf]), hl, count_sq (by omega)]
  dsimp only
  rw [if_neg (by decide)]
  rw [hl] at hs
  rw [hs]
  rfl
end Go.Proofs.YtaplaoelamnoiaaGreatDoor

/- The primes of the law TopSieve, in plain Lean: what the mask keeps. Condition: at most 62 numbers. -/
namespace Go.Proofs.YtaplaoelamnoiaaGreatDoor
open Go.RowKit

/-- Is there a divisor from 2 on, below i, as the law's inner loop looks for it? -/
def divB (i : Nat) : Nat → Bool
  | 0 => false
  | k + 1 => divB i k || (decide (2 ≤ k) && (i % k == 0))
theorem divB_iff (i : Nat) : ∀ k : Nat, divB i k = true ↔ ∃ d, 2 ≤ d ∧ d < k ∧ i % d = 0
  | 0 => by simp [divB]
  | k + 1 => by
    unfold divB
    rw [Bool.or_eq_true, divB_iff i k, Bool.and_eq_true, decide_eq_true_eq, beq_iff_eq]
    constructor
    · rintro (⟨d, h1, h2, h3⟩ | ⟨h1, h2⟩)
      · exact ⟨d, h1, by omega, h3⟩
      · exact ⟨k, h1, by omega, h2⟩
    · rintro ⟨d, h1, h2, h3⟩
      rcases Nat.lt_or_ge d k with h | h
      · exact .inl ⟨d, h1, h, h3⟩
      · obtain rfl : d = k := by omega
        exact .inr ⟨h1, h3⟩
/-- The primes among the first k numbers from 2 on. -/
def primesL (k : Nat) : List Int := (List.range k).filterMap fun j => if divB (j + 2) (j + 2) = true then none else some ((j + 2 : Nat) : Int)
/-- Which numbers the table has not. -/
def svMask (n : Nat) : List Int := zipL M.notF (inL (fromTwo n) (tabN n)) (inL (fromTwo n) (tabN n))
theorem inL_length (d e : List Int) : (inL d e).length = d.length := by simp [inL]
theorem inL_mask (d e : List Int) : IsMask (inL d e) := by
  intro v hv
  obtain ⟨u, -, rfl⟩ := List.mem_map.1 hv
  split <;> simp
theorem inL_at {d e : List Int} {i : Nat} (h : i < d.length) : (inL d e).getD i 0 = if d.getD i 0 ∈ e then 1 else 0 := by
  simp [inL, List.getD_eq_getElem?_getD, h]
theorem svMask_length (n : Nat) : (svMask n).length = n - 2 := by unfold svMask; rw [zipL_length, inL_length, fromTwo_length]
theorem svMask_at {n j : Nat} (h : j < n - 2) : (svMask n).getD j 0 = 1 ↔ ¬ divB (j + 2) (j + 2) = true := by
  unfold svMask
  rw [zipL_get _ (by rw [inL_length, fromTwo_length]; exact h)]
  show 1 - (inL (fromTwo n) (tabN n)).getD j 0 = 1 ↔ _
  rw [inL_at (by rw [fromTwo_length]; exact h), fromTwo_at h]
  have hk : ((j + 2 : Nat) : Int) ∈ tabN n ↔ divB (j + 2) (j + 2) = true := by
    rw [tabN_mem, divB_iff]
    have h2 := hasDiv_iff (j + 2) n (by omega)
    unfold hasDiv at h2
    rw [h2]
    constructor
    · rintro ⟨a, b, h1, h2, h3⟩
      exact ⟨a, b, h1, h2, by omega⟩
    · rintro ⟨a, b, h1, h2, h3⟩
      exact ⟨a, b, h1, h2, by rw [h3]⟩
  rw [← hk]
  by_cases hm : ((j + 2 : Nat) : Int) ∈ tabN n
  · rw [if_pos hm]; exact ⟨fun e => absurd e (by decide), fun e => absurd hm e⟩
  · rw [if_neg hm]; exact ⟨fun _ => hm, fun _ => rfl⟩
theorem keep_primes (n : Nat) : ∀ k : Nat, k ≤ n - 2 → keepN (svMask n) (fromTwo n) k = primesL k
  | 0, _ => rfl
  | k + 1, h => by
    rw [keepN_succ, keep_primes n k (by omega)]
    unfold primesL
    rw [List.range_succ, List.filterMap_append, fromTwo_at (by omega)]
    congr 1
    have hs := svMask_at (n := n) (j := k) (by omega)
    by_cases hd : divB (k + 2) (k + 2) = true
    · rw [if_neg (fun e => hs.1 e hd)]
      simp only [List.filterMap_cons, List.filterMap_nil, if_pos hd]
    · rw [if_pos (hs.2 hd)]
      simp only [List.filterMap_cons, List.filterMap_nil, if_neg hd]
end Go.Proofs.YtaplaoelamnoiaaGreatDoor

/- The primes that the law TopSieve gathers, round by round, in plain Lean. No condition. -/
namespace Go.Proofs.YtaplaoelamnoiaaGreatDoor
open Go.RowKit

theorem primesL_succ (k : Nat) : primesL (k + 1) = primesL k ++ (if divB (k + 2) (k + 2) = true then [] else [((k + 2 : Nat) : Int)]) := by
  unfold primesL
  rw [List.range_succ, List.filterMap_append]
  congr 1
  by_cases hd : divB (k + 2) (k + 2) = true
  · simp only [List.filterMap_cons, List.filterMap_nil, if_pos hd]
  · simp only [List.filterMap_cons, List.filterMap_nil, if_neg hd]
theorem primesL_length (k : Nat) : (primesL k).length ≤ k := by
  unfold primesL
  exact Nat.le_trans (List.length_filterMap_le _ _) (by simp)
theorem primesL_three : primesL 3 = [2, 3] := by decide
theorem fromTwo_five : fromTwo 5 = [2, 3, 4] := by decide
end Go.Proofs.YtaplaoelamnoiaaGreatDoor

/- The call prim.Two of the outer product of a function. Condition: sound arrays of ints of 64 bits. -/
namespace Go.Proofs.YtaplaoelamnoiaaGreatDoor
open Go.RowKit

set_option maxRecDepth 20000 in
set_option maxHeartbeats 8000000 in
theorem two_outer (f : Int) (x y z : Arr) (hx : M.flaw x.ch x.s x.d = 0) (hy : M.flaw y.ch y.s y.d = 0) 
    (kn : ∀ W, Calls Tryz.prog 106 #[.agg #[.int .i64 3, .int .i64 f, .int .i64 0]] W fun en w' => en = .returned (.bool true) ∧ Below W.heap.size W w')
    (kb : ∀ (W : World) (a : Option Addr) (c : Nat) (b : Option Addr) (k : Nat) (a' : Option Addr) (c' : Nat) (b' : Option Addr) (k' : Nat), Row W a x.s → Row W b x.d → Row W a' y.s → Row W b' y.d →
      Calls Tryz.prog 107 #[.int .i64 f, arrV x.ch a x.s.length c b x.d.length k, arrV y.ch a' y.s.length c' b' y.d.length k'] W fun e w' => ArrPostF (.ok z) W e w') : Two1 3 f 0 x y z := by
  intro w a c b k a' c' b' k' hs hd hs' hd'
  obtain ⟨ch, s, d⟩ := x
  obtain ⟨ch', s', d'⟩ := y
  dsimp only at hx hy kb hs hd hs' hd' ⊢
  have l1 := (flaw_len hx).2
  have l2 := (flaw_len hx).1
  have l3 := (flaw_len hy).2
  have l4 := (flaw_len hy).1
  have kc1 := fun W h1 h2 => check_any ch a b s d s.length c d.length k W h1 h2 (by simp only [maxLen]; omega) (by simp only [maxLen]; omega) rfl rfl
  have kc2 := fun W h1 h2 => check_any ch' a' b' s' d' s'.length c' d'.length k' W h1 h2 (by simp only [maxLen]; omega) (by simp only [maxLen]; omega) rfl rfl
  rw [hx, errV_zero] at kc1
  rw [hy, errV_zero] at kc2
  replace kb := fun W => kb W a c b k a' c' b' k'
  obtain ⟨n1, hn1⟩ : ∃ n, n = s.length := ⟨_, rfl⟩
  obtain ⟨n2, hn2⟩ : ∃ n, n = d.length := ⟨_, rfl⟩
  obtain ⟨n3, hn3⟩ : ∃ n, n = s'.length := ⟨_, rfl⟩
  obtain ⟨n4, hn4⟩ : ∃ n, n = d'.length := ⟨_, rfl⟩
  rw [← hn1, ← hn2] at kc1 kb
  rw [← hn3, ← hn4] at kc2 kb
  rw [← hn1, ← hn2, ← hn3, ← hn4]
  obtain ⟨W, hWe⟩ : ∃ W : World, W = (((w.alloc (.cells #[.int .i64 3, .int .i64 f, .int .i64 0] 74)).alloc (.cells #[.bool ch, .slice a n1 c, .slice b n2 k] 24)).alloc (.cells #[.bool ch', .slice a' n3 c', .slice b' n4 k'] 24)).alloc (.cells #[.bool false, .slice none 0 0, .slice none 0 0] 24) := ⟨_, rfl⟩
  obtain ⟨bA, bX, bY, bR, sW⟩ := four_boxes _ _ _ _ _ _ _ _ _ W hWe
  have hb0 : Below w.heap.size w W := by rw [hWe]; exact push (push (push (push (start w) _) _) _) _
  have hWe' := Lib.hid hWe.symm
  replace hWe := Lib.hid hWe
  replace hn1 := Lib.hid hn1
  replace hn2 := Lib.hid hn2
  replace hn3 := Lib.hid hn3
  replace hn4 := Lib.hid hn4
  replace kc1 := Lib.hid kc1
  replace kc2 := Lib.hid kc2
  replace kb := Lib.hid kb
  replace kn := Lib.hid kn
  replace hs := Lib.hid hs
  replace hd := Lib.hid hd
  replace hs' := Lib.hid hs'
  replace hd' := Lib.hid hd'
  replace bA := Lib.hid bA
  replace bX := Lib.hid bX
  replace bY := Lib.hid bY
  replace bR := Lib.hid bR
  replace hb0 := Lib.hid hb0
  replace sW := Lib.hid sW
  clear hx hy l1 l2 l3 l4
  have ix0 := idx_two0 (.bool ch) (.slice a n1 c) (.slice b n2 k) (.bool ch') (.slice a' n3 c') (.slice b' n4 k')
  have ix1 := idx_two1 (.bool ch) (.slice a n1 c) (.slice b n2 k) (.bool ch') (.slice a' n3 c') (.slice b' n4 k')
  go_enter Tryz.func91, Tryz.ntmps91
  go_wp2_with fail
  rw [hWe'.out]
  refine (kn.out _).mono ?_
  rintro en w1 ⟨rfl, hb1⟩
  have A1 := Lib.hid (bA.out.same (hb1.block _ (by have := sW.out; omega)))
  have X1 := Lib.hid (bX.out.same (hb1.block _ (by have := sW.out; omega)))
  have Y1 := Lib.hid (bY.out.same (hb1.block _ (by have := sW.out; omega)))
  have R1 := Lib.hid (bR.out.same (hb1.block _ (by have := sW.out; omega)))
  have hb01 := Lib.hid (hb0.out.trans (hb1.mono (by have := sW.out; omega)))
  have sw1 : Hid (w.heap.size + 1 + 1 + 1 < w1.heap.size) := Lib.hid (by have := sW.out; have := hb1.size; omega)
  obtain ⟨y0, -⟩ := A1.out 0 _ rfl
  obtain ⟨y1, -⟩ := X1.out 0 _ rfl
  obtain ⟨y2, -⟩ := X1.out 1 _ rfl
  obtain ⟨y3, -⟩ := X1.out 2 _ rfl
  obtain ⟨y4, -⟩ := Y1.out 0 _ rfl
  obtain ⟨y5, -⟩ := Y1.out 1 _ rfl
  obtain ⟨y6, -⟩ := Y1.out 2 _ rfl
  clear hb1 hb0 bA bX bY bR kn
  go_wp2
  go_loopw [38] (fun v wr => (v = .int .i64 0 ∨ v = .int .i64 1 ∨ v = .int .i64 2) ∧ Below w1.heap.size w1 wr) (fun v _ => 2 - (intOf v).toNat)
  case atStart => exact ⟨.inl rfl, Below.refl _ _⟩
  case round =>
    clear y0 y1 y2 y3 y4 y5 y6
    obtain ⟨hcase, hbw⟩ := hrel
    rcases hcase with rfl | rfl | rfl
    · have hba := push (start wr) (.cells #[.bool ch, .slice a n1 c, .slice b n2 k] 24)
      have q1 := hs.out.below ((hb01.out.trans (hbw.mono (by have := sw1.out; omega))).trans (hba.mono (by have := sw1.out; have := hbw.size; omega)))
      have q2 := hd.out.below ((hb01.out.trans (hbw.mono (by have := sw1.out; omega))).trans (hba.mono (by have := sw1.out; have := hbw.size; omega)))
      have kk := Lib.hid (kc1.out _ q1 q2)
      clear q1 q2
      replace hbw := Lib.hid hbw
      replace hba := Lib.hid hba
      go_wp2_with fail
      refine kk.out.mono ?_
      rintro en w5 ⟨rfl, hb5⟩
      have hbn := Lib.hid ((hbw.out.trans (hba.out.mono hbw.out.size)).trans (hb5.mono (by have := hbw.out.size; have := hba.out.size; omega)))
      clear hb5
      go_wp2
      go_roundw
      case rel => exact ⟨.inr (.inl (by go_num)), hbn.out⟩
      case measure => simp [intOf]
    · have hba := push (start wr) (.cells #[.bool ch', .slice a' n3 c', .slice b' n4 k'] 24)
      have q1 := hs'.out.below ((hb01.out.trans (hbw.mono (by have := sw1.out; omega))).trans (hba.mono (by have := sw1.out; have := hbw.size; omega)))
      have q2 := hd'.out.below ((hb01.out.trans (hbw.mono (by have := sw1.out; omega))).trans (hba.mono (by have := sw1.out; have := hbw.size; omega)))
      have kk := Lib.hid (kc2.out _ q1 q2)
      clear q1 q2
      replace hbw := Lib.hid hbw
      replace hba := Lib.hid hba
      go_wp2_with fail
      refine kk.out.mono ?_
      rintro en w5 ⟨rfl, hb5⟩
      have hbn := Lib.hid ((hbw.out.trans (hba.out.mono hbw.out.size)).trans (hb5.mono (by have := hbw.out.size; have := hba.out.size; omega)))
      clear hb5
      go_wp2
      go_roundw
      case rel => exact ⟨.inr (.inr (by go_num)), hbn.out⟩
      case measure => simp [intOf]
    · have A2 := A1.out.same (hbw.block _ (by have := sw1.out; omega))
      have X2 := X1.out.same (hbw.block _ (by have := sw1.out; omega))
      have Y2 := Y1.out.same (hbw.block _ (by have := sw1.out; omega))
      have R2 := Lib.hid (R1.out.same (hbw.block _ (by have := sw1.out; omega)))
      have hb2 := Lib.hid (hb01.out.trans (hbw.mono (by have := sw1.out; omega)))
      have s2 : Hid (w.heap.size + 1 + 1 + 1 < wr.heap.size) := Lib.hid (by have := sw1.out; have := hbw.size; omega)
      obtain ⟨y0, -⟩ := A2 0 _ rfl
      obtain ⟨y7, -⟩ := A2 1 _ rfl
      obtain ⟨y1, -⟩ := X2 0 _ rfl
      obtain ⟨y2, -⟩ := X2 1 _ rfl
      obtain ⟨y3, -⟩ := X2 2 _ rfl
      obtain ⟨y4, -⟩ := Y2 0 _ rfl
      obtain ⟨y5, -⟩ := Y2 1 _ rfl
      obtain ⟨y6, -⟩ := Y2 2 _ rfl
      clear A2 X2 Y2 hbw
      go_wp2_with fail
      refine (kb.out _ (hs.out.below hb2.out) (hd.out.below hb2.out) (hs'.out.below hb2.out) (hd'.out.below hb2.out)).mono ?_
      intro en w6 hp
      obtain ⟨a5, c5, b5, k5, rfl, r1, r2, f1, f2, hc, hb6⟩ := hp.is_ok rfl
      clear hp y0 y1 y2 y3 y4 y5 y6 y7
      have R6 := R2.out.same (hb6.block _ (by have := s2.out; omega))
      have hb06 := Lib.hid (hb2.out.trans (hb6.mono (by have := s2.out; omega)))
      have g1 : ∀ p, a5 = some p → w.heap.size + 1 + 1 + 1 < p.block := fun p e => by have := f1 p e; have := s2.out; omega
      have g2 : ∀ p, b5 = some p → w.heap.size + 1 + 1 + 1 < p.block := fun p e => by have := f2 p e; have := s2.out; omega
      replace r1 := Lib.hid r1
      replace r2 := Lib.hid r2
      replace g1 := Lib.hid g1
      replace g2 := Lib.hid g2
      replace hc := Lib.hid hc
      obtain ⟨t0, u0⟩ := R6 0 _ rfl
      obtain ⟨t1, u1⟩ := R6 1 _ rfl
      obtain ⟨t2, u2⟩ := R6 2 _ rfl
      clear R6 hb6 f1 f2
      go_wp2
      refine bodyPost_ret (v := .tuple #[arrV z.ch a5 z.s.length c5 b5 z.d.length k5, .nilIface]) (by simp [results, Tryz.results91, go_sem, cell?_set_same, arrV, t0, t1, t2]) rfl ?_
      refine ArrPostF.ok rfl rfl (r1.out.but (But.set3 _ _ _ _ _ _) (fun _ p e => ?_)) (r2.out.but (But.set3 _ _ _ _ _ _) (fun _ p e => ?_)) (fun p e => ?_) (fun p e => ?_) hc.out (set3 hb06.out (by omega) _ _ _)
      · have := g1.out p e; omega
      · have := g2.out p e; omega
      · have := g1.out p e; omega
      · have := g2.out p e; omega
set_option maxRecDepth 20000 in
set_option maxHeartbeats 4000000 in
theorem known2_outer (w : World) : Calls Tryz.prog 106 #[.agg #[.int .i64 3, .int .i64 3, .int .i64 0]] w fun en w' => en = .returned (.bool true) ∧ Below w.heap.size w w' := by
  go_enter Tryz.func106, Tryz.ntmps106
  go_wp2
  go_ret
  exact ⟨rfl, push (start w) _⟩
theorem prim_outer (x y z : Arr) (hx : M.flaw x.ch x.s x.d = 0) (hy : M.flaw y.ch y.s y.d = 0) (x64 : All64 x.d) (y64 : All64 y.d) (hz : M.outer 3 x y = .ok z) : Two1 3 3 0 x y z :=
  two_outer 3 x y z hx hy known2_outer fun W a c b k a' c' b' k' h1 h2 h3 h4 => by
    have l1 := (flaw_len hx).2
    have l2 := (flaw_len hx).1
    have l3 := (flaw_len hy).2
    have l4 := (flaw_len hy).1
    have h := outer_any 3 x.ch y.ch a b a' b' x.s x.d y.s y.d x.s.length c x.d.length k y.s.length c' y.d.length k' W h1 h2 (by simp only [maxLen]; omega) (by simp only [maxLen]; omega) x64 rfl rfl h3 h4 (by simp only [maxLen]; omega) (by simp only [maxLen]; omega) y64 rfl rfl
    rw [show M.outer 3 ⟨x.ch, x.s, x.d⟩ ⟨y.ch, y.s, y.d⟩ = .ok z from hz] at h
    exact h
end Go.Proofs.YtaplaoelamnoiaaGreatDoor

/- The worth of the sieve's line of the law TopSieve. Condition: at most 62 numbers. -/
namespace Go.Proofs.YtaplaoelamnoiaaGreatDoor
open Go.RowKit

theorem fromTwo_64 {n : Nat} (h : n ≤ 64) : All64 (fromTwo n) := fun v hv => by
  obtain ⟨a, ⟨h1, h2⟩, rfl⟩ := fromTwo_mem.1 hv
  unfold I64; omega
theorem tabN_64 {n : Nat} (h : n ≤ 64) : All64 (tabN n) := fun v hv => by
  obtain ⟨a, b, ⟨h1, h2⟩, ⟨h3, h4⟩, rfl⟩ := tabN_mem.1 hv
  have : a * b ≤ 64 * 64 := Nat.mul_le_mul (by omega) (by omega)
  unfold I64; omega
theorem tabN_flaw {n : Nat} (h : n ≤ 64) : M.flaw false [((fromTwo n).length : Int), ((fromTwo n).length : Int)] (tabN n) = 0 := by
  have hl := fromTwo_length n
  have ht : (tabN n).length = (n - 2) * (n - 2) := by simp [tabN]
  have hc := count_sq (m := n - 2) (by omega)
  unfold M.flaw
  rw [hl, show M.count [((n - 2 : Nat) : Int), ((n - 2 : Nat) : Int)] = _ from hc]
  simp [ht]
/-- The numbers from 2 on, as an array. -/
abbrev svX (n : Nat) : Arr := ⟨false, [((fromTwo n).length : Int)], fromTwo n⟩
abbrev svWs (n : Nat) : List Bd := [⟨⟨#[112]⟩, svX n⟩]
theorem v1_val {n : Nat} (h : n ≤ 64) : ValOk (envOf (svWs n)) M.v1E ⟨false, [((primesL (n - 2)).length : Int)], primesL (n - 2)⟩ := by
  have hl := fromTwo_length n
  have hf : M.flaw false [((fromTwo n).length : Int)] (fromTwo n) = 0 := list_flaw (by omega)
  have ep : Ev (envOf (svWs n)) (.name ⟨#[112]⟩) (svX n) := .name _ _ (by simp [envOf, svWs])
  have k1 := prim_outer (svX n) (svX n) _ hf hf (fromTwo_64 h) (fromTwo_64 h) (sv_outer h)
  have k2 := prim_in (svX n) ⟨false, [((fromTwo n).length : Int), ((fromTwo n).length : Int)], tabN n⟩ hf (tabN_flaw h) (fromTwo_64 h) (tabN_64 h) rfl rfl
  have hi : M.flaw false [((fromTwo n).length : Int)] (inL (fromTwo n) (tabN n)) = 0 := by
    have e := list_flaw (d := inL (fromTwo n) (tabN n)) (by rw [inL_length]; omega)
    rw [inL_length] at e
    exact e
  have k3 := prim_not ⟨false, [((fromTwo n).length : Int)], inL (fromTwo n) (tabN n)⟩ _ hi (mask_64 (inL_mask _ _)) (each_not hi (inL_mask _ _))
  have hm : M.flaw false [((fromTwo n).length : Int)] (svMask n) = 0 := by
    have e := list_flaw (d := svMask n) (by rw [svMask_length]; omega)
    rw [svMask_length, ← hl] at e
    exact e
  have hmm : IsMask (svMask n) := mask_zip not_bit (inL_mask _ _) (inL_mask _ _)
  have k4 := prim_keep [((fromTwo n).length : Int)] (svMask n) (fromTwo n) (by simp) hm (by rw [svMask_length, hl]) hf hmm
  have hkp : keepN (svMask n) (fromTwo n) (fromTwo n).length = primesL (n - 2) := by rw [hl]; exact keep_primes n (n - 2) (Nat.le_refl _)
  rw [hkp] at k4
  have v3 := val_small _ _ _ (.one 0 17 0 _ _ _ (.two 0 25 0 _ _ _ _ _ ep (.two 3 3 0 _ _ _ _ _ ep ep (by decide) k1) (by decide) k2) (by decide) k3) (by simp [Ex.small]) (by simp [Ex.plain])
  have hn := value_nameC (envOf (svWs n)) ⟨#[112]⟩ (svX n) (by simp [envOf, svWs])
  exact value_two _ _ 0 33 0 _ _ (acted_twoC (fun k => (fromTwo n).length ≤ k) _ 0 33 0 _ _ _ _ _ v3 hn (by simp [Ex.plain]) (by decide) k4)
end Go.Proofs.YtaplaoelamnoiaaGreatDoor

/- The worth of the two lines of the law TopSieve, and their names. Condition: a number from 2 to 64. -/
namespace Go.Proofs.YtaplaoelamnoiaaGreatDoor
open Go.RowKit

abbrev snWs (n : Int) : List Bd := [⟨⟨#[110]⟩, ⟨false, [], [n]⟩⟩]
theorem wsOk_one (b : Bd) (h : M.nameOk b.name) (hs : b.name.size ≤ 100) (hf : M.flaw b.x.ch b.x.s b.x.d = 0) : WsOk [b] := by
  refine ⟨by simp, fun b' hb => ?_, fun i j b1 b2 hi hj hij => ?_⟩
  · simp only [List.mem_cons, List.not_mem_nil, or_false] at hb
    rw [hb]; exact ⟨h, hs, hf⟩
  · have hj2 := (List.getElem?_eq_some_iff.1 hj).1
    simp at hj2
    omega
theorem svWs_ok {n : Nat} (h : n ≤ 64) : WsOk (svWs n) := wsOk_one _ name_p (by show (1 : Nat) ≤ 100; decide) (list_flaw (by rw [fromTwo_length]; omega))
theorem snWs_ok (n : Int) : WsOk (snWs n) := wsOk_one _ name_n (by show (1 : Nat) ≤ 100; decide) (by simp [M.flaw, M.count, M.badLen, M.mulUp])
theorem wsAt_one {w : World} {nm : ByteArray} {a : Option Addr} {c : Nat} {b : Option Addr} {k : Nat} {x : Arr} (r1 : Row w a x.s) (r2 : Row w b x.d) (hk : x.d.length ≤ k) :
    WsAt (some ⟨w.heap.size, 0, none⟩) [⟨nm, x⟩] (w.alloc (.cells #[.string nm, .bool x.ch, .slice a x.s.length c, .slice b x.d.length k] 33)) := by
  have bW := boxC_alloc w #[.string nm, .bool x.ch, .slice a x.s.length c, .slice b x.d.length k] 33
  intro i bd hi
  match i, hi with
  | 0, hi => cases hi; exact ⟨_, a, c, b, k, rfl, (bW 0 _ rfl).1, (bW 1 _ rfl).1, (bW 2 _ rfl).1, (bW 3 _ rfl).1, r1.alloc _, r2.alloc _, hk⟩
  | i + 1, hi => simp at hi
theorem iota_list (n : Nat) (h : n ≤ 4096) : M.iota (n : Int) = .ok ⟨false, [(n : Int)], upTo n⟩ := by
  unfold M.iota
  rw [if_neg (by omega), if_neg (by omega)]
  rfl
theorem v2_val {n : Nat} (h2 : 2 ≤ n) (h : n ≤ 64) : ValOk (envOf (snWs n)) M.v2E ⟨false, [((fromTwo n).length : Int)], fromTwo n⟩ := by
  have en : Ev (envOf (snWs n)) (.name ⟨#[110]⟩) ⟨false, [], [(n : Int)]⟩ := .name _ _ (by simp [envOf, snWs])
  have hf1 : ∀ v : Int, M.flaw false [] [v] = 0 := fun v => by simp [M.flaw, M.count, M.badLen, M.mulUp]
  have k1 := prim_iota (n : Int) _ (hf1 _) (by unfold I64; omega) (iota_list n (by omega))
  have hl := upTo_length n
  have k2 := prim_drop [] 2 (upTo n) (by simp) (hf1 _) (by omega) (list_flaw (by omega))
  rw [hl, upTo_drop, ← fromTwo_length n] at k2
  exact val_small _ _ _ (.two 0 23 0 _ _ _ _ _ (.nums [2] (by simp) (by simp)) (.one 0 24 0 _ _ _ en (by decide) k1) (by decide) k2) (by simp [M.v2E, Ex.small]) (by simp [M.v2E, Ex.plain])
end Go.Proofs.YtaplaoelamnoiaaGreatDoor
