/- Texts that lie in one file: what is plain, rows, boxes, squares, and what is known of a world. No condition. -/
import Derived.Test.YtaplaoelamnoiaaGreatDoorBg01
import Derived.Test.YtaplaoelamnoiaaGreatDoorWkFits
import Derived.Test.YtaplaoelamnoiaaGreatDoorBg28
import Derived.Test.YtaplaoelamnoiaaGreatDoorBg29
/- Inner products, as plain lists: cell by cell, line by line, the first error told. No program in sight, no condition. -/
namespace Go.Proofs.YtaplaoelamnoiaaGreatDoor
open Go.RowKit

namespace M
/-- The cell at a place of a line of the k-th place. -/
def lineV (g : Int) (c1 c2 : Bool) (d d' : List Int) (P C k j : Nat) : Except Int Int := tw g c1 c2 (d.getD (k / C * P + j) 0) (d'.getD (j * C + k % C) 0)
def innerCell (f g : Int) (c1 c2 : Bool) (d d' : List Int) (P C k : Nat) : Except Int Int :=
  match seqE P (lineV g c1 c2 d d' P C k) with
  | .error e => .error e
  | .ok l => foldL f l
def innerOf (f g : Int) (x y : Arr) (s : List Int) (P C N : Nat) : Except Int Arr :=
  match seqE N (innerCell f g x.ch y.ch x.d y.d P C) with
  | .error e => .error e
  | .ok l => .ok ⟨false, s, l⟩
/-- An empty line wants a neutral number. -/
def lone (f long : Int) : Except Int Int := if long = 0 then neutral f else .ok 0
def inner (f g : Int) (x y : Arr) : Except Int Arr :=
  if unk f g ≠ 0 then .error 1
  else if flaws x y ≠ 0 then .error (flaws x y)
  else match fits x y with
  | .error e => .error e
  | .ok p =>
    if ((x.ch || y.ch) && !cmp g) = true then .error 6
    else match lone f p.2 with
    | .error e => .error e
    | .ok _ => innerOf f g x y p.1 p.2.toNat (prod y.s.tail).toNat (prod p.1).toNat
end M

/-- The sizes behind a good fit. -/
theorem prod_append (u v : List Int) : M.prod (u ++ v) = M.prod u * M.prod v := by
  induction u with
  | nil => simp [M.prod]
  | cons x r ih => simp only [List.cons_append, M.prod, ih, Int.mul_assoc]
theorem prod_nonneg {u : List Int} (h : ∀ x ∈ u, 0 ≤ x) : 0 ≤ M.prod u := by
  induction u with
  | nil => simp [M.prod]
  | cons x r ih => exact Int.mul_nonneg (h x (by simp)) (ih fun y hy => h y (by simp [hy]))

theorem innerFits {x y : Arr} {sv : List Int} {long : Int} (h : M.fits x y = .ok (sv, long)) : ∃ u v N, x.s = u ++ [long] ∧ y.s = long :: v ∧ sv = u ++ v ∧ M.count (u ++ v) = .ok N := by
  unfold M.fits at h
  by_cases h1 : x.s = [] ∨ y.s = []
  · rw [if_pos h1] at h; cases h
  rw [if_neg h1] at h
  by_cases h2 : x.s.getLastD 0 ≠ y.s.headD 0
  · rw [if_pos h2] at h; cases h
  rw [if_neg h2] at h
  have hx : x.s ≠ [] := fun e => h1 (.inl e)
  have hy : y.s ≠ [] := fun e => h1 (.inr e)
  cases hc : M.count (x.s.dropLast ++ y.s.tail) with
  | error e => rw [hc] at h; cases h
  | ok N =>
    rw [hc] at h
    cases h
    have e1 : x.s.getLastD 0 = x.s.getLast hx := by rw [List.getLastD_eq_getLast?, List.getLast?_eq_some_getLast hx]; rfl
    refine ⟨x.s.dropLast, y.s.tail, N, ?_, ?_, rfl, hc⟩
    · rw [e1]; exact (List.dropLast_concat_getLast hx).symm
    · rw [Decidable.of_not_not h2]
      obtain ⟨q, v, hv⟩ : ∃ q v, y.s = q :: v := by
        cases hs : y.s with
        | nil => exact absurd hs hy
        | cons q v => exact ⟨q, v, rfl⟩
      rw [hv]; rfl
theorem prod_bound {l : List Int} (h : ∀ x ∈ l, 0 ≤ x ∧ x ≤ 4096) : 0 ≤ M.prod l ∧ M.prod l ≤ 4096 ^ l.length := by
  induction l with
  | nil => simp [M.prod]
  | cons x r ih =>
    obtain ⟨i1, i2⟩ := ih fun y hy => h y (by simp [hy])
    have hx := h x (by simp)
    refine ⟨Int.mul_nonneg hx.1 i1, ?_⟩
    rw [List.length_cons, Int.pow_succ, Int.mul_comm _ (4096 : Int)]
    exact Int.mul_le_mul hx.2 i2 i1 (by decide)
theorem prod_bound5 {l : List Int} (h : ∀ x ∈ l, 0 ≤ x ∧ x ≤ 4096) (hl : l.length ≤ 5) : 0 ≤ M.prod l ∧ M.prod l ≤ 1152921504606846976 := by
  have h1 := prod_bound h
  have h2 : l.length = 0 ∨ l.length = 1 ∨ l.length = 2 ∨ l.length = 3 ∨ l.length = 4 ∨ l.length = 5 := by omega
  refine ⟨h1.1, Int.le_trans h1.2 ?_⟩
  rcases h2 with e | e | e | e | e | e <;> rw [e] <;> decide
theorem prod_take {l : List Int} {k : Nat} (h : k < l.length) : M.prod (l.take (k + 1)) = M.prod (l.take k) * l[k] := by
  rw [List.take_succ_eq_append_getElem h, prod_append]
  simp [M.prod]

/-- The sizes behind a good fit. -/
theorem inner_sizes {ch ch' : Bool} {u v d d' : List Int} {p N : Int} (ha : M.flaw ch (u ++ [p]) d = 0) (hb : M.flaw ch' (p :: v) d' = 0) (hc : M.count (u ++ v) = .ok N) :
    ∃ U P C : Nat, p = P ∧ P ≤ 4096 ∧ M.prod v = C ∧ d.length = U * P ∧ d'.length = P * C ∧ N = ((U * C : Nat) : Int) ∧ U * C ≤ 4096 ∧ M.prod (u ++ v) = ((U * C : Nat) : Int) ∧ U * P ≤ 4096 ∧ P * C ≤ 4096 ∧ (∀ x ∈ v, 0 ≤ x ∧ x ≤ 4096) ∧ v.length ≤ 5 := by
  obtain ⟨q1, h1, e1⟩ := flaw_parts ha
  obtain ⟨q2, h2, e2⟩ := flaw_parts hb
  obtain ⟨_, a2, a3, a4, a5⟩ := M.count_ok h1
  obtain ⟨b1, b2, b3, b4, b5⟩ := M.count_ok h2
  obtain ⟨_, _, c3, c4, c5⟩ := M.count_ok hc
  have hp := a2 p (by simp)
  have hu : 0 ≤ M.prod u := prod_nonneg fun x hx => (a2 x (by simp [hx])).1
  have hv : 0 ≤ M.prod v := prod_nonneg fun x hx => (b2 x (by simp [hx])).1
  rw [prod_append] at a3 c3
  have a3' : q1 = M.prod u * p := by rw [a3]; simp [M.prod]
  have b3' : q2 = p * M.prod v := b3
  obtain ⟨U, hU⟩ : ∃ U : Nat, M.prod u = U := ⟨(M.prod u).toNat, by omega⟩
  obtain ⟨C, hC⟩ : ∃ C : Nat, M.prod v = C := ⟨(M.prod v).toNat, by omega⟩
  obtain ⟨P, hP⟩ : ∃ P : Nat, p = P := ⟨p.toNat, by omega⟩
  subst hP
  have m1 : ((U * P : Nat) : Int) = (U : Int) * (P : Int) := by simp
  have m2 : ((P * C : Nat) : Int) = (P : Int) * (C : Int) := by simp
  have m3 : ((U * C : Nat) : Int) = (U : Int) * (C : Int) := by simp
  rw [hU, ← m1] at a3'
  rw [hC, ← m2] at b3'
  rw [hU, hC, ← m3] at c3
  refine ⟨U, P, C, rfl, by omega, hC, by omega, by omega, c3, by omega, ?_, by omega, by omega, fun x hx => b2 x (by simp [hx]), by simpa using b1⟩
  rw [prod_append, hU, hC, m3]

end Go.Proofs.YtaplaoelamnoiaaGreatDoor

/- The call fold.along at an array's last axis. Condition: rows that lie; the array is sound, of numbers. -/
namespace Go.Proofs.YtaplaoelamnoiaaGreatDoor
open Go.RowKit

namespace M
/-- How often, how long, how far apart. -/
def anyZero (u : List Int) : Bool := u.any (· == 0)
def alongO (u : List Int) : Int := if anyZero u = true then 0 else prod u
def alongI (u : List Int) : Int := if anyZero u = true then 0 else 1
end M
theorem anyZero_at {u : List Int} {j : Nat} (hj : j < u.length) (h : u.getD j 0 = 0) : M.anyZero u = true := by
  unfold M.anyZero
  rw [List.any_eq_true]
  refine ⟨u[j], List.getElem_mem hj, ?_⟩
  rw [List.getD_eq_getElem?_getD, List.getElem?_eq_getElem hj, Option.getD_some] at h
  rw [h]; rfl
theorem anyZero_not {u : List Int} (h : ∀ j, j < u.length → u.getD j 0 ≠ 0) : M.anyZero u = false := by
  rw [Bool.eq_false_iff]
  intro k
  unfold M.anyZero at k
  rw [List.any_eq_true] at k
  obtain ⟨x, hx, h0⟩ := k
  obtain ⟨j, hj, rfl⟩ := List.mem_iff_getElem.1 hx
  refine h j hj ?_
  rw [List.getD_eq_getElem?_getD, List.getElem?_eq_getElem hj, Option.getD_some]
  exact beq_iff_eq.1 h0

set_option maxRecDepth 20000 in
set_option maxHeartbeats 8000000 in
theorem along_any (f : Int) (hf : M.fn2 f = true) (a b : Option Addr) (u : List Int) (P : Nat) (d : List Int) (c z : Nat) (w : World) (hs : Row w a (u ++ [(P : Int)])) (hd : Row w b d) (ld : d.length ≤ maxLen) (hfl : M.flaw false (u ++ [(P : Int)]) d = 0) :
    Calls Tryz.prog 141 #[.int .i64 f, .int .i64 u.length, arrV false a (u.length + 1) c b d.length z] w fun e w' =>
      e = .returned (.tuple #[.agg #[.int .i64 (M.alongO u), .int .i64 P, .int .i64 (M.alongI u)], .nilIface]) ∧ Below w.heap.size w w' := by
  have l1 : (u ++ [(P : Int)]).length = u.length + 1 := by simp
  obtain ⟨q1, h1, -⟩ := flaw_parts hfl
  obtain ⟨a1, a2, -, -, -⟩ := M.count_ok h1
  rw [l1] at a1
  have hu : ∀ x ∈ u, 0 ≤ x ∧ x ≤ 4096 := fun x hx => a2 x (by simp [hx])
  have k0 := fun W => cellTwo_any f 0 1 W (by unfold I64; omega) (by unfold I64; omega)
  obtain ⟨v0, hv0⟩ := two_known hf
  rw [hv0] at k0
  have kc := fun W h1 h2 => check_any false a b (u ++ [(P : Int)]) d _ c _ z W h1 h2 (by rw [l1]; unfold maxLen; omega) ld l1.symm rfl
  rw [hfl, show errV 0 = Value.nilIface from rfl] at kc
  have E := (((Env.start w).addRow hd).addRow hs).box false a (u.length + 1) c b d.length z
  have E2 := E.step (push (start _) (.cells #[.int .i64 0, .int .i64 0, .int .i64 0] 213))
  replace k0 := Lib.hid k0
  replace kc := Lib.hid kc
  replace hfl := Lib.hid hfl
  replace h1 := Lib.hid h1
  replace hu := Lib.hid hu
  clear hs hd hf hv0 a2 E
  go_enter Tryz.func141, Tryz.ntmps141
  go_wp2_with fail
  refine (k0.out _).mono ?_
  rintro e w3 ⟨rfl, nn, hw3⟩
  dsimp only [resI]
  have hZ : (((w.alloc (.cells #[.bool false, .slice a (u.length + 1) c, .slice b d.length z] 24)).alloc (.cells #[.int .i64 0, .int .i64 0, .int .i64 0] 213)).cell? ⟨w.heap.size + 1, 0, none⟩ = some (.int .i64 0) ∧ ((w.alloc (.cells #[.bool false, .slice a (u.length + 1) c, .slice b d.length z] 24)).alloc (.cells #[.int .i64 0, .int .i64 0, .int .i64 0] 213)).cell? ⟨w.heap.size + 1, 1, none⟩ = some (.int .i64 0) ∧ ((w.alloc (.cells #[.bool false, .slice a (u.length + 1) c, .slice b d.length z] 24)).alloc (.cells #[.int .i64 0, .int .i64 0, .int .i64 0] 213)).cell? ⟨w.heap.size + 1, 2, none⟩ = some (.int .i64 0)) := by simp [go_sem]
  have hF : ((w.alloc (.cells #[.bool false, .slice a (u.length + 1) c, .slice b d.length z] 24)).alloc (.cells #[.int .i64 0, .int .i64 0, .int .i64 0] 213)).frozen? ⟨w.heap.size + 1, 0, none⟩ = false ∧ ((w.alloc (.cells #[.bool false, .slice a (u.length + 1) c, .slice b d.length z] 24)).alloc (.cells #[.int .i64 0, .int .i64 0, .int .i64 0] 213)).frozen? ⟨w.heap.size + 1, 1, none⟩ = false ∧ ((w.alloc (.cells #[.bool false, .slice a (u.length + 1) c, .slice b d.length z] 24)).alloc (.cells #[.int .i64 0, .int .i64 0, .int .i64 0] 213)).frozen? ⟨w.heap.size + 1, 2, none⟩ = false := by simp [go_sem]
  have hZs : w.heap.size + 1 < ((w.alloc (.cells #[.bool false, .slice a (u.length + 1) c, .slice b d.length z] 24)).alloc (.cells #[.int .i64 0, .int .i64 0, .int .i64 0] 213)).heap.size := by simp
  generalize (w.alloc (.cells #[.bool false, .slice a (u.length + 1) c, .slice b d.length z] 24)).alloc (.cells #[.int .i64 0, .int .i64 0, .int .i64 0] 213) = w2 at *
  have E3 := E2.drew nn
  have hZ3 := held3 (below_drewN (Below.refl w2.heap.size w2) nn) hZ
  have hZs3 : w.heap.size + 1 < (World.drewN w2 nn).heap.size := hZs
  have hF3 := frozen3 (below_drewN (Below.refl w2.heap.size w2) nn) hZs hF
  rw [← hw3] at E3 hZ3 hZs3 hF3
  clear E2 hw3 hZ hZs hF
  obtain ⟨⟨u0, u1, u2⟩, -, -, -⟩ := E3.getBox 0 rfl
  go_wp2_with fail
  refine (kc.out _ (E3.getRow 1 rfl) (E3.getRow 2 rfl)).mono ?_
  rintro e w4 ⟨rfl, hb⟩
  have E4 := E3.step hb
  have hZ4 := held3 hb hZ3
  have hF4 := frozen3 hb hZs3 hF3
  have hZs4 : w.heap.size + 1 < w4.heap.size := Nat.lt_of_lt_of_le hZs3 hb.size
  clear E3 hb hZ3 hZs3 hF3 u0 u1 u2
  obtain ⟨⟨u0, u1, u2⟩, -, -, -⟩ := E4.getBox 0 rfl
  have hS := E4.getRow 1 rfl
  obtain ⟨bs, os, rfl, cp⟩ := hS u.length (by rw [l1]; omega)
  rw [show (u ++ [(P : Int)]).getD u.length 0 = (P : Int) by simp] at cp
  have m1 : decide (((u.length : Nat) : Int) < 0) = false := decide_eq_false (by omega)
  have m2 : decide (((u.length : Nat) : Int) + 1 ≤ ((u.length : Nat) : Int)) = false := decide_eq_false (by omega)
  have hbel := E4.bel
  have hsz := hbel.size
  have E5 := E4.step (push (start w4) (.cells #[.int .i64 1, .int .i64 P, .int .i64 1] 213))
  have hZ5 := held3 (push (start w4) (.cells #[.int .i64 1, .int .i64 P, .int .i64 1] 213)) hZ4
  have hF5 := frozen3 (push (start w4) (.cells #[.int .i64 1, .int .i64 P, .int .i64 1] 213)) hZs4 hF4
  have hB5 := (Below.refl w4.heap.size w4).alloc (Nat.le_refl _) (.cells #[.int .i64 1, .int .i64 P, .int .i64 1] 213)
  have hL5 : ((w4.alloc (.cells #[.int .i64 1, .int .i64 P, .int .i64 1] 213)).cell? ⟨w4.heap.size, 0, none⟩ = some (.int .i64 1) ∧ (w4.alloc (.cells #[.int .i64 1, .int .i64 P, .int .i64 1] 213)).cell? ⟨w4.heap.size, 1, none⟩ = some (.int .i64 P) ∧ (w4.alloc (.cells #[.int .i64 1, .int .i64 P, .int .i64 1] 213)).cell? ⟨w4.heap.size, 2, none⟩ = some (.int .i64 1)) ∧ (w4.alloc (.cells #[.int .i64 1, .int .i64 P, .int .i64 1] 213)).frozen? ⟨w4.heap.size, 0, none⟩ = false := by simp [go_sem]
  obtain ⟨⟨x0, x1, x2⟩, -, -, -⟩ := E5.getBox 0 rfl
  go_wp2
  generalize w4.alloc (.cells #[.int .i64 1, .int .i64 P, .int .i64 1] 213) = w5 at *
  go_loop [55] (fun v => ∃ j : Nat, j ≤ u.length + 1 ∧ v = .int .i64 j ∧ ∀ i, i < j → i < u.length → u.getD i 0 ≠ 0) (fun v => u.length + 1 - (intOf v).toNat)
  case atStart => exact ⟨0, Nat.zero_le _, rfl, fun i h => by omega⟩
  case round =>
    obtain ⟨j, hj, rfl, hnz⟩ := hrel
    have hS5 := E5.getRow 1 rfl
    by_cases hlt : j < u.length + 1
    · obtain ⟨_, _, ee, cj⟩ := hS5 j (by rw [l1]; omega)
      cases ee
      by_cases hju : j = u.length
      · subst hju
        have ej : (((u.length : Nat) : Int) != ((u.length : Nat) : Int)) = false := by simp
        rw [show (u ++ [(P : Int)]).getD u.length 0 = (P : Int) by simp] at cj
        replace hnz := Lib.hid hnz
        clear hS hS5 E5 E4
        go_wp2
        go_round
        case rel => exact ⟨u.length + 1, by omega, by go_num, fun i _ h2 => hnz.out i h2 h2⟩
        case measure => simp [intOf]
      · have hj2 : j < u.length := by omega
        have ej : (((j : Nat) : Int) != ((u.length : Nat) : Int)) = true := by rw [bne_iff_ne]; omega
        have eg : (u ++ [(P : Int)]).getD j 0 = u.getD j 0 := by rw [List.getD_eq_getElem?_getD, List.getElem?_append_left hj2, ← List.getD_eq_getElem?_getD]
        rw [eg] at cj
        replace hnz := Lib.hid hnz
        replace eg := Lib.hid eg
        by_cases hz0 : u.getD j 0 = 0
        · have hany := anyZero_at hj2 hz0
          rw [hz0] at cj
          have hbx := E5.bel
          obtain ⟨⟨y0, y1, y2⟩, y3⟩ := hL5
          obtain ⟨z0, z1, z2⟩ := hZ5
          obtain ⟨z3, z4, z5⟩ := hF5
          replace hz0 := Lib.hid hz0
          replace hany := Lib.hid hany
          clear hS hS5 E5 E4 hZ4
          go_wp2
          refine bodyPost_ret (v := .tuple #[.agg #[.int .i64 0, .int .i64 P, .int .i64 0], .nilIface]) (by simp [results, Tryz.results141, go_sem, cell?_set_same, z0, z1, z2]) rfl ?_
          refine ⟨by unfold M.alongO M.alongI; rw [if_pos hany.out, if_pos hany.out], set3 hbx (by omega) _ _ _⟩
        · have hnx : ((u.getD j 0) == 0) = false := by rw [beq_eq_false_iff_ne]; exact hz0
          have hn2 := Lib.hid (show ∀ i, i < j + 1 → i < u.length → u.getD i 0 ≠ 0 from fun i h1 h2 => by
            by_cases e : i = j
            · rw [e]; exact hz0
            · exact hnz.out i (by omega) h2)
          generalize u.getD j 0 = x at *
          replace hz0 := Lib.hid hz0
          clear hS hS5 E5 E4 hZ4
          go_wp2
          go_round
          case rel => exact ⟨j + 1, by omega, by go_num, hn2.out⟩
          case measure => simp [intOf]; omega
    · obtain rfl : j = u.length + 1 := by omega
      have hany := anyZero_not (u := u) fun i h => hnz i (by omega) h
      have hpb := prod_bound5 hu.out (by omega)
      replace hnz := Lib.hid hnz
      replace hany := Lib.hid hany
      have hb45 := hB5
      have hs5 := hbel.size
      have hSh := Lib.hid hS
      replace hZ4 := Lib.hid hZ4
      replace hF4 := Lib.hid hF4
      clear E4 hS
      go_wp2
      go_loopw [74] (fun v wr => ∃ j : Nat, j ≤ u.length + 1 ∧ v = .int .i64 j ∧ (wr.cell? ⟨w4.heap.size, 0, none⟩ = some (.int .i64 (M.prod (u.take j))) ∧ wr.cell? ⟨w4.heap.size, 1, none⟩ = some (.int .i64 P) ∧ wr.cell? ⟨w4.heap.size, 2, none⟩ = some (.int .i64 1)) ∧ wr.frozen? ⟨w4.heap.size, 0, none⟩ = false ∧ Below w4.heap.size w4 wr) (fun v _ => u.length + 1 - (intOf v).toNat)
      case atStart => exact ⟨0, Nat.zero_le _, rfl, hL5.1, hL5.2, hB5⟩
      case round =>
        obtain ⟨j, hj, rfl, ⟨c0, c1, c2⟩, f0, hb⟩ := hrel
        have hL5 := 0
        have hZ := held3 hb hZ4.out
        have hFz := frozen3 hb hZs4 hF4.out
        obtain ⟨z0, z1, z2⟩ := hZ
        obtain ⟨z3, z4, z5⟩ := hFz
        have hbw : Below w.heap.size w wr := hbel.trans (hb.mono hs5)
        have hSw := hSh.out.below hb
        by_cases hlt : j < u.length + 1
        · by_cases hju : j < u.length
          · obtain ⟨_, _, ee, cj⟩ := hSw j (by rw [l1]; omega)
            cases ee
            have eg : (u ++ [(P : Int)]).getD j 0 = u.getD j 0 := by rw [List.getD_eq_getElem?_getD, List.getElem?_append_left hju, ← List.getD_eq_getElem?_getD]
            rw [eg] at cj
            have e1 := prod_take hju
            have e2 : u.getD j 0 = u[j] := by rw [List.getD_eq_getElem?_getD, List.getElem?_eq_getElem hju, Option.getD_some]
            rw [← e2] at e1
            have b1 := prod_bound5 (l := u.take j) (fun x hx => hu.out x (List.mem_of_mem_take hx)) (by rw [List.length_take]; omega)
            have b2 := prod_bound5 (l := u.take (j + 1)) (fun x hx => hu.out x (List.mem_of_mem_take hx)) (by rw [List.length_take]; omega)
            have b3 := hu.out (u.getD j 0) (by rw [e2]; exact List.getElem_mem hju)
            replace eg := Lib.hid eg
            clear e2 hSw x0 x1 x2 hL5
            generalize M.prod (u.take j) = X at *
            obtain ⟨Y, hY⟩ : ∃ Y, Y = M.prod (u.take (j + 1)) := ⟨_, rfl⟩
            rw [← hY] at e1 b2
            generalize u.getD j 0 = y at *
            have hw1 : wrap64 (X * y) = Y := by rw [← e1]; exact IntWalk.wrap64_in _ (by omega)
            replace e1 := Lib.hid e1
            replace hY := Lib.hid hY
            go_wp2
            go_roundw
            case rel =>
              refine ⟨j + 1, by omega, by go_num, ⟨?_, ?_, ?_⟩, ?_, hb.setCell (Nat.le_refl _) _⟩
              · rw [← hY.out]; simp [go_sem, cell?_set_same, c0, hw1]
              · simp [go_sem, c1]
              · simp [go_sem, c2]
              · simp [go_sem, f0]
            case measure => simp [intOf]; omega
          · obtain rfl : j = u.length := by omega
            obtain ⟨_, _, ee, cj⟩ := hSw u.length (by rw [l1]; omega)
            cases ee
            rw [show (u ++ [(P : Int)]).getD u.length 0 = (P : Int) by simp] at cj
            have et : u.take (u.length + 1) = u.take u.length := by rw [List.take_length, List.take_of_length_le (by omega)]
            replace et := Lib.hid et
            clear hSw x0 x1 x2 hL5
            go_wp2
            go_roundw
            case rel => exact ⟨u.length + 1, Nat.le_refl _, by go_num, ⟨by rw [et.out]; exact c0, c1, c2⟩, f0, hb⟩
            case measure => simp [intOf]
        · obtain rfl : j = u.length + 1 := by omega
          rw [List.take_of_length_le (by omega)] at c0
          have ea : M.alongO u = M.prod u := by unfold M.alongO; rw [hany.out]; rfl
          have ei : M.alongI u = 1 := by unfold M.alongI; rw [hany.out]; rfl
          replace ea := Lib.hid ea
          replace ei := Lib.hid ei
          clear hSw x0 x1 x2 hL5
          generalize M.prod u = X at *
          go_wp2
          refine bodyPost_ret (v := .tuple #[.agg #[.int .i64 X, .int .i64 P, .int .i64 1], .nilIface]) (by simp [results, Tryz.results141, go_sem, cell?_set_same, z0, z1, z2]) rfl ?_
          exact ⟨by rw [ea.out, ei.out], set3 hbw (by omega) _ _ _⟩
end Go.Proofs.YtaplaoelamnoiaaGreatDoor
