/- The walk of the law MatrixMany: it returns true at all arrays. No condition. -/
import Derived.Test.YtohnimfjekemjaaWkMDet
import Derived.Test.YtohnimfjekemjaaWkInner
import Derived.Test.YtohnimfjekemjaaInnerSq
import Derived.Deep.Cut
namespace Go.Proofs.Ytohnimfjekemjaa
open Go.RowKit

theorem held9 {w w' : World} {A B C : Nat} {a0 a1 a2 b0 b1 b2 c0 c1 c2 : Value} (hb : Below w.heap.size w w')
    (h : (w.cell? ⟨A, 0, none⟩ = some a0 ∧ w.cell? ⟨A, 1, none⟩ = some a1 ∧ w.cell? ⟨A, 2, none⟩ = some a2) ∧ (w.cell? ⟨B, 0, none⟩ = some b0 ∧ w.cell? ⟨B, 1, none⟩ = some b1 ∧ w.cell? ⟨B, 2, none⟩ = some b2) ∧ (w.cell? ⟨C, 0, none⟩ = some c0 ∧ w.cell? ⟨C, 1, none⟩ = some c1 ∧ w.cell? ⟨C, 2, none⟩ = some c2)) :
    (w'.cell? ⟨A, 0, none⟩ = some a0 ∧ w'.cell? ⟨A, 1, none⟩ = some a1 ∧ w'.cell? ⟨A, 2, none⟩ = some a2) ∧ (w'.cell? ⟨B, 0, none⟩ = some b0 ∧ w'.cell? ⟨B, 1, none⟩ = some b1 ∧ w'.cell? ⟨B, 2, none⟩ = some b2) ∧ (w'.cell? ⟨C, 0, none⟩ = some c0 ∧ w'.cell? ⟨C, 1, none⟩ = some c1 ∧ w'.cell? ⟨C, 2, none⟩ = some c2) := ⟨held3 hb h.1, held3 hb h.2.1, held3 hb h.2.2⟩

set_option maxHeartbeats 8000000 in
theorem matrixMany_walk (b0 : Bool) (p0 q0 : Option Addr) (x0 y0 : List Int) (c0 d0 : Nat) (b1 : Bool) (p1 q1 : Option Addr) (x1 y1 : List Int) (c1 d1 : Nat) (w : World)
    (r0 : Row w p0 x0) (s0 : Row w q0 y0) (l0 : x0.length ≤ maxLen) (m0 : y0.length ≤ maxLen) (_ : All64 x0) (o0 : All64 y0) (z0 : x0.length ≤ c0) (_ : y0.length ≤ d0)
    (r1 : Row w p1 x1) (s1 : Row w q1 y1) (l1 : x1.length ≤ maxLen) (m1 : y1.length ≤ maxLen) (_ : All64 x1) (o1 : All64 y1) (z1 : x1.length ≤ c1) (_ : y1.length ≤ d1) :
    Calls Try.prog 10 #[arrV b0 p0 x0.length c0 q0 y0.length d0, arrV b1 p1 x1.length c1 q1 y1.length d1] w fun e w' => e = .returned (.bool true) ∧ Below w.heap.size w w' := by
  have E := ((((((Env.start w).addRow s1).addRow r1).addRow s0).addRow r0).box b0 p0 x0.length c0 q0 y0.length d0).box b1 p1 x1.length c1 q1 y1.length d1
  simp only [World.size_alloc] at E
  have hsa := fun w h => isSq_any b0 p0 q0 x0 y0 _ c0 _ d0 w h l0 m0 rfl rfl
  have hsb := fun w h => isSq_any b1 p1 q1 x1 y1 _ c1 _ d1 w h l1 m1 rfl rfl
  replace hsa := Lib.hid hsa
  replace hsb := Lib.hid hsb
  cases hqa : M.isSq ⟨b0, x0, y0⟩ with
  | false =>
    replace hqa := Lib.hid hqa
    go_enter Try.func10, Try.ntmps10
    go_wp2_with fail
    refine (fact_any _).mono ?_
    rintro e v1 ⟨rfl, hb⟩
    replace E := E.step hb
    clear hb
    obtain ⟨⟨u0, u1, u2⟩, -, -, -⟩ := E.getBox 1 rfl
    obtain ⟨⟨t0, t1, t2⟩, -, -, -⟩ := E.getBox 0 rfl
    go_wp2_with fail
    refine (hsa.out _ (E.getRow 2 rfl)).mono ?_
    rintro e v2 ⟨rfl, hb⟩
    rw [hqa.out]
    replace E := E.step hb
    clear hb u0 u1 u2 t0 t1 t2
    obtain ⟨⟨u0, u1, u2⟩, -, -, -⟩ := E.getBox 1 rfl
    obtain ⟨⟨t0, t1, t2⟩, -, -, -⟩ := E.getBox 0 rfl
    go_wp2_with fail
    refine (hsb.out _ (E.getRow 4 rfl)).mono ?_
    rintro e v3 ⟨rfl, hb⟩
    replace E := E.step hb
    clear hb u0 u1 u2 t0 t1 t2
    generalize M.isSq ⟨b1, x1, y1⟩ = bb at *
    go_wp2
    go_quiet (fail)
    go_wp2
    go_ret
    exact ⟨rfl, below_drewN E.bel _⟩
  | true =>
  cases hqb : M.isSq ⟨b1, x1, y1⟩ with
  | false =>
    replace hqa := Lib.hid hqa
    replace hqb := Lib.hid hqb
    go_enter Try.func10, Try.ntmps10
    go_wp2_with fail
    refine (fact_any _).mono ?_
    rintro e v1 ⟨rfl, hb⟩
    replace E := E.step hb
    clear hb
    obtain ⟨⟨u0, u1, u2⟩, -, -, -⟩ := E.getBox 1 rfl
    obtain ⟨⟨t0, t1, t2⟩, -, -, -⟩ := E.getBox 0 rfl
    go_wp2_with fail
    refine (hsa.out _ (E.getRow 2 rfl)).mono ?_
    rintro e v2 ⟨rfl, hb⟩
    rw [hqa.out]
    replace E := E.step hb
    clear hb u0 u1 u2 t0 t1 t2
    obtain ⟨⟨u0, u1, u2⟩, -, -, -⟩ := E.getBox 1 rfl
    obtain ⟨⟨t0, t1, t2⟩, -, -, -⟩ := E.getBox 0 rfl
    go_wp2_with fail
    refine (hsb.out _ (E.getRow 4 rfl)).mono ?_
    rintro e v3 ⟨rfl, hb⟩
    rw [hqb.out]
    replace E := E.step hb
    clear hb u0 u1 u2 t0 t1 t2
    go_wp2
    go_quiet (fail)
    go_wp2
    go_ret
    exact ⟨rfl, below_drewN E.bel _⟩
  | true =>
    obtain ⟨n, hn, hx, hd⟩ := isSq_parts hqa
    rw [Arr.mk.injEq] at hx
    obtain ⟨rfl, rfl, -⟩ := hx
    obtain ⟨n', hn', hx, hd'⟩ := isSq_parts hqb
    rw [Arr.mk.injEq] at hx
    obtain ⟨rfl, rfl, -⟩ := hx
    dsimp only at hd hd'
    replace hqa := Lib.hid hqa
    replace hqb := Lib.hid hqb
    replace hd := Lib.hid hd
    replace hd' := Lib.hid hd'
    go_enter Try.func10, Try.ntmps10
    go_wp2_with fail
    refine (fact_any _).mono ?_
    rintro e v1 ⟨rfl, hb⟩
    replace E := E.step hb
    clear hb
    obtain ⟨⟨u0, u1, u2⟩, -, -, -⟩ := E.getBox 1 rfl
    obtain ⟨⟨t0, t1, t2⟩, -, -, -⟩ := E.getBox 0 rfl
    go_wp2_with fail
    refine (hsa.out _ (E.getRow 2 rfl)).mono ?_
    rintro e v2 ⟨rfl, hb⟩
    rw [hqa.out]
    replace E := E.step hb
    clear hb u0 u1 u2 t0 t1 t2
    obtain ⟨⟨u0, u1, u2⟩, -, -, -⟩ := E.getBox 1 rfl
    obtain ⟨⟨t0, t1, t2⟩, -, -, -⟩ := E.getBox 0 rfl
    go_wp2_with fail
    refine (hsb.out _ (E.getRow 4 rfl)).mono ?_
    rintro e v3 ⟨rfl, hb⟩
    rw [hqb.out]
    replace E := E.step hb
    clear hb u0 u1 u2 t0 t1 t2
    obtain ⟨⟨u0, u1, u2⟩, -, -, -⟩ := E.getBox 1 rfl
    obtain ⟨⟨t0, t1, t2⟩, -, -, -⟩ := E.getBox 0 rfl
    obtain ⟨bs, os, rfl, hc0⟩ := (E.getRow 2 rfl) 0 (by simp)
    obtain ⟨bt, ot, rfl, hc1⟩ := (E.getRow 4 rfl) 0 (by simp)
    simp only [List.getD_cons_zero, Nat.add_zero, List.length_cons, List.length_nil, Nat.zero_add, Nat.reduceAdd] at hc0 hc1 u1 t1
    by_cases hnn : n = n'
    case neg =>
      have e1 : (((n : Int)) != (n' : Int)) = true := by rw [bne_iff_ne]; omega
      have e2 : (((n : Int)) == (n' : Int)) = false := by rw [beq_eq_false_iff_ne]; omega
      go_wp2
      go_quiet (fail)
      go_wp2
      go_ret
      exact ⟨rfl, below_drewN E.bel _⟩
    subst hnn
    have hin := fun w h1 h2 h3 h4 => inner_num 1 3 ⟨0, rfl⟩ false false rfl rfl (some ⟨bs, os, none⟩) q0 (some ⟨bt, ot, none⟩) q1 [(n : Int), (n : Int)] y0 [(n : Int), (n : Int)] y1 2 c0 _ d0 2 c1 _ d1 w h1 h2 (by simp [maxLen]) m0 o0 z0 rfl rfl h3 h4 (by simp [maxLen]) m1 o1 z1 rfl rfl
    rw [inner_sq hn hd.out hd'.out] at hin
    have hdt := det_inner (n := n) y0 y1
    have hLl := sqList_length n (Mx.mul n (M.sqA n y0) (M.sqA n y1))
    have hL64 : All64 (sqList n (Mx.mul n (M.sqA n y0) (M.sqA n y1))) := fun x hx => by
      obtain ⟨p, _, rfl⟩ := List.mem_map.1 hx
      exact I64_wrap _
    generalize sqList n (Mx.mul n (M.sqA n y0) (M.sqA n y1)) = L at *
    replace hin := Lib.hid hin
    replace hdt := Lib.hid hdt
    replace hLl := Lib.hid hLl
    go_wp2_with fail
    go_quiet (fail)
    replace E := E.drew ‹Nat›
    go_wp2_with fail
    refine (hin.out _ (E.getRow 2 rfl) (E.getRow 3 rfl) (E.getRow 4 rfl) (E.getRow 5 rfl)).mono ?_
    intro e v4 hp
    obtain ⟨a4, c4, b4, k4, rfl, ra, rb, fa, fb, hcp, hb⟩ := hp.is_ok rfl
    dsimp only [List.length_cons, List.length_nil] at ra rb hcp ⊢
    have E4 := (((E.step hb).addRow rb).addRow ra).box false a4 2 c4 b4 L.length k4
    have hbel : Below w.heap.size w (v4.alloc (.cells #[.bool false, .slice a4 2 c4, .slice b4 L.length k4] 24)).drew := below_drewN E4.bel 1
    have rx : Row (v4.alloc (.cells #[.bool false, .slice a4 2 c4, .slice b4 L.length k4] 24)).drew a4 [(n : Int), (n : Int)] := E4.getRow 1 rfl
    have ry : Row (v4.alloc (.cells #[.bool false, .slice a4 2 c4, .slice b4 L.length k4] 24)).drew b4 L := E4.getRow 2 rfl
    have rp : Row (v4.alloc (.cells #[.bool false, .slice a4 2 c4, .slice b4 L.length k4] 24)).drew (some ⟨bs, os, none⟩) [(n : Int), (n : Int)] := E4.getRow 5 rfl
    have rq : Row (v4.alloc (.cells #[.bool false, .slice a4 2 c4, .slice b4 L.length k4] 24)).drew q0 y0 := E4.getRow 6 rfl
    have ru : Row (v4.alloc (.cells #[.bool false, .slice a4 2 c4, .slice b4 L.length k4] 24)).drew (some ⟨bt, ot, none⟩) [(n : Int), (n : Int)] := E4.getRow 7 rfl
    have rv : Row (v4.alloc (.cells #[.bool false, .slice a4 2 c4, .slice b4 L.length k4] 24)).drew q1 y1 := E4.getRow 8 rfl
    have B0 := (E4.getBox 4 rfl).1
    have B1 := (E4.getBox 3 rfl).1
    have B2 := (E4.getBox 0 rfl).1
    dsimp only [List.length_cons, List.length_nil] at B0 B1 B2
    have F : sdet n L = IntKind.i64.wrap (sdet n y0 * sdet n y1) := by rw [IntWalk.i64_left]; exact hdt.out
    have lL : L.length ≤ maxLen := by
      have h1 := hLl.out
      have h2 := Nat.mul_le_mul hn hn
      unfold maxLen; omega
    have S0 : (v4.alloc (.cells #[.bool false, .slice a4 2 c4, .slice b4 L.length k4] 24)).drew.cell? ⟨w.heap.size, 0, none⟩ = some (.bool false) ∧ (v4.alloc (.cells #[.bool false, .slice a4 2 c4, .slice b4 L.length k4] 24)).drew.cell? ⟨w.heap.size, 1, none⟩ = some (.slice (some ⟨bs, os, none⟩) 2 c0) ∧ (v4.alloc (.cells #[.bool false, .slice a4 2 c4, .slice b4 L.length k4] 24)).drew.cell? ⟨w.heap.size, 2, none⟩ = some (.slice q0 y0.length d0) := B0
    have S1 : (v4.alloc (.cells #[.bool false, .slice a4 2 c4, .slice b4 L.length k4] 24)).drew.cell? ⟨w.heap.size + 1, 0, none⟩ = some (.bool false) ∧ (v4.alloc (.cells #[.bool false, .slice a4 2 c4, .slice b4 L.length k4] 24)).drew.cell? ⟨w.heap.size + 1, 1, none⟩ = some (.slice (some ⟨bt, ot, none⟩) 2 c1) ∧ (v4.alloc (.cells #[.bool false, .slice a4 2 c4, .slice b4 L.length k4] 24)).drew.cell? ⟨w.heap.size + 1, 2, none⟩ = some (.slice q1 y1.length d1) := B1
    have S2 : (v4.alloc (.cells #[.bool false, .slice a4 2 c4, .slice b4 L.length k4] 24)).drew.cell? ⟨v4.heap.size, 0, none⟩ = some (.bool false) ∧ (v4.alloc (.cells #[.bool false, .slice a4 2 c4, .slice b4 L.length k4] 24)).drew.cell? ⟨v4.heap.size, 1, none⟩ = some (.slice a4 2 c4) ∧ (v4.alloc (.cells #[.bool false, .slice a4 2 c4, .slice b4 L.length k4] 24)).drew.cell? ⟨v4.heap.size, 2, none⟩ = some (.slice b4 L.length k4) := B2
    clear hp u0 u1 u2 t0 t1 t2 hc0 hc1 E E4 B0 B1 B2 ra rb fa fb
    replace F := Lib.hid F
    go_upto_region 9 with fail
    have SS := And.intro S0 (And.intro S1 S2)
    go_region_held3 (fun w' => (w'.cell? ⟨w.heap.size, 0, none⟩ = some (.bool false) ∧ w'.cell? ⟨w.heap.size, 1, none⟩ = some (.slice (some ⟨bs, os, none⟩) 2 c0) ∧ w'.cell? ⟨w.heap.size, 2, none⟩ = some (.slice q0 y0.length d0)) ∧ (w'.cell? ⟨w.heap.size + 1, 0, none⟩ = some (.bool false) ∧ w'.cell? ⟨w.heap.size + 1, 1, none⟩ = some (.slice (some ⟨bt, ot, none⟩) 2 c1) ∧ w'.cell? ⟨w.heap.size + 1, 2, none⟩ = some (.slice q1 y1.length d1)) ∧ (w'.cell? ⟨v4.heap.size, 0, none⟩ = some (.bool false) ∧ w'.cell? ⟨v4.heap.size, 1, none⟩ = some (.slice a4 2 c4) ∧ w'.cell? ⟨v4.heap.size, 2, none⟩ = some (.slice b4 L.length k4)))
      (first | (exact held9 hb5 (by assumption)) | (exact held9 hb6 (by assumption)) | (exact held9 hb7 (by assumption)) | assumption | go_keep)
      (first
        | (go_at_call_of 20 (L.length : Nat); refine (lawDet_any n a4 b4 L 2 c4 L.length k4 _ rx ry lL hL64 hn hLl.out rfl rfl).mono ?_; rintro e w5 ⟨he5, hb5⟩; rw [F.out] at he5; subst he5)
        | (go_at_call_of 20 (y0.length : Nat); refine (lawDet_any n (some ⟨bs, os, none⟩) q0 y0 2 c0 y0.length d0 _ (rp.below hb5) (rq.below hb5) m0 o0 hn hd.out rfl rfl).mono ?_; rintro e w6 ⟨rfl, hb6⟩)
        | (go_at_call_of 20 (y1.length : Nat); refine (lawDet_any n (some ⟨bt, ot, none⟩) q1 y1 2 c1 y1.length d1 _ ((ru.below hb5).below hb6) ((rv.below hb5).below hb6) m1 o1 hn hd'.out rfl rfl).mono ?_; rintro e w7 ⟨rfl, hb7⟩))
    go_wp2
    go_ret
    exact ⟨rfl, below_trans (below_trans (below_trans hbel hb5) hb6) hb7⟩

end Go.Proofs.Ytohnimfjekemjaa
