/- Texts that lie in one file: what is plain, rows, boxes, squares, and what is known of a world. No condition. -/
import Derived.Test.YtaplaoelamnoiaaGreatDoorBg09
import Derived.Test.YtaplaoelamnoiaaGreatDoorWkClone
import Derived.Test.YtaplaoelamnoiaaGreatDoorBg02
import Derived.Deep.RegionHeld3
/- The evaluation's steps, values without errors, numbers as arrays. Condition: the evaluation lies. -/
namespace Go.Proofs.YtaplaoelamnoiaaGreatDoor
open Go.RowKit

set_option maxRecDepth 20000 in
set_option maxHeartbeats 4000000 in
theorem step_any (g mb tb : Nat) (T : List Nd) (env : ByteArray → Option Arr) (fuel : Nat) (w : World) (h : EvAt g mb tb T env (fuel + 1) w w) (hf : fuel < 20000) :
    Calls Tryz.prog 42 #[.pointer (some ⟨g, 0, none⟩)] w fun en w' => en = .returned (.tuple #[]) ∧ EvAt g mb tb T env fuel w w' := by
  obtain ⟨⟨c0, c1⟩, f1⟩ := id h.1
  obtain ⟨u, hu⟩ : ∃ u : Int, u = ((fuel + 1 : Nat) : Int) := ⟨_, rfl⟩
  rw [← hu] at c1
  have e1 : decide (u ≤ 0) = false := decide_eq_false (by omega)
  have e2 : u - 1 = ((fuel : Nat) : Int) := by omega
  have b1 : 0 < u := by omega
  have b2 : u ≤ 20000 := by omega
  replace hu := Lib.hid hu
  replace h := Lib.hid h
  replace e2 := Lib.hid e2
  go_enter Tryz.func42, Tryz.ntmps42
  go_wp2
  refine bodyPost_end (results_none rfl _ _ _) rfl ?_
  refine ⟨rfl, ?_⟩
  exact h.out.tick _ (by rw [← e2.out])

set_option maxRecDepth 20000 in
set_option maxHeartbeats 4000000 in
theorem must_any (ch : Bool) (a : Option Addr) (m c : Nat) (b : Option Addr) (n z : Nat) (w : World) :
    Calls Tryz.prog 90 #[arrV ch a m c b n z, .nilIface] w fun en w' => en = .returned (arrV ch a m c b n z) ∧ Below w.heap.size w w' := by
  unfold arrV
  go_enter Tryz.func90, Tryz.ntmps90
  go_wp2
  refine bodyPost_ret (v := .agg #[.bool ch, .slice a m c, .slice b n z]) (by simp [results, Tryz.results90, go_sem, cell?_set_same]) rfl ?_
  exact ⟨rfl, by first | exact push (push (start w) _) _ | exact set3 (push (push (start w) _) _) (by simp) _ _ _⟩

set_option maxRecDepth 20000 in
set_option maxHeartbeats 4000000 in
theorem nums_any (a : Option Addr) (n c : Nat) (l : List Int) (w : World) (h : Row w a l) (hn : n = l.length) (h1 : l.length ≤ 1000) :
    Calls Tryz.prog 70 #[.slice a n c] w fun en w' => VecPostF (numsA l) w en w' := by
  subst hn
  by_cases hl : l.length = 1
  · obtain ⟨x, rfl⟩ := List.length_eq_one_iff.1 hl
    obtain ⟨b, o, rfl, hc⟩ := (h.alloc (.cells #[.bool false, .slice none 0 0, .slice none 0 0] 24)) 0 (by simp)
    have hc : (w.alloc (.cells #[.bool false, .slice none 0 0, .slice none 0 0] 24)).cell? ⟨b, o, none⟩ = some (.int .i64 x) := by simpa using hc
    clear h hl h1
    show Calls Tryz.prog 70 #[.slice (some ⟨b, o, none⟩) 1 c] w fun en w' => VecPostF (numsA [x]) w en w'
    go_enter Tryz.func70, Tryz.ntmps70
    go_wp2
    refine bodyPost_ret (v := arrV false none 0 0 (some ⟨w.heap.size + 1, 0, none⟩) 1 1) (by simp [results, Tryz.results70, go_sem, cell?_set_same, arrV]) rfl ?_
    refine ⟨none, 0, some ⟨w.heap.size + 1, 0, none⟩, 1, rfl, Row.nil _ _, ?_, Fresh.none _, ?_, Nat.le_refl _, ?_⟩
    · exact row_one (by simp [go_sem, cell?_set_same])
    · intro p e; cases e; exact Nat.le_succ _
    · first | exact push (push (start w) _) _ | exact set3 (push (push (start w) _) _) (Nat.le_refl _) _ _ _
  · have e1 : (((l.length : Nat) : Int) == 1) = false := by rw [beq_eq_false_iff_ne]; omega
    have hA : numsA l = ⟨false, [(l.length : Int)], l⟩ := if_neg hl
    have kc := fun W hW => clone_any a l l.length c W hW (by omega) rfl
    have E := (Env.start w).box false none 0 0 none 0 0
    obtain ⟨n, hn⟩ : ∃ n, n = l.length := ⟨_, rfl⟩
    have hA' : numsA l = ⟨false, [(n : Int)], l⟩ := by rw [hA, hn]
    rw [← hn] at e1 kc
    rw [← hn]
    have R := Lib.hid h
    replace hn := Lib.hid hn
    replace kc := Lib.hid kc
    replace hl := Lib.hid hl
    replace hA' := Lib.hid hA'
    clear hA h1 h
    replace E := E.alloc (.cells #[.int .i64 n] 3)
    have E2 := E.addRow (row_one (w := (w.alloc (.cells #[.bool false, .slice none 0 0, .slice none 0 0] 24)).alloc (.cells #[.int .i64 n] 3)) (n := w.heap.size + 1) (x := n) (by simp [go_sem]))
    clear E
    go_enter Tryz.func70, Tryz.ntmps70
    go_wp2_with fail
    refine (kc.out _ (R.out.below E2.bel)).mono ?_
    rintro en w4 ⟨v, rfl, ho, hb⟩
    obtain ⟨a4, c4, rfl, -, -, hr4⟩ := ho.view
    have hf4 : Fresh w a4 := fun p e => by have := own_fresh ho p e; have := E2.bel.size; omega
    have ho4 : Hid (Off w.heap.size a4 l) := Lib.hid fun _ p e => by have := own_fresh ho p e; simp only [World.size_alloc] at this; omega
    replace E2 := E2.step hb
    have hb4 := E2.bel
    have hr := E2.getRow 0 rfl
    obtain ⟨⟨u0, u1, u2⟩, v0, v1, v2⟩ := E2.getBox 1 rfl
    rw [← hn.out]
    replace hr4 := Lib.hid hr4
    replace hf4 := Lib.hid hf4
    replace hb4 := Lib.hid hb4
    replace hr := Lib.hid hr
    clear E2 ho hb
    go_wp2
    refine bodyPost_ret (v := arrV false (some ⟨w.heap.size + 1, 0, none⟩) 1 1 a4 n c4) (by simp [results, Tryz.results70, go_sem, cell?_set_same, arrV, u0, u1, u2]) rfl ?_
    rw [hA'.out]
    refine ⟨some ⟨w.heap.size + 1, 0, none⟩, 1, a4, c4, by rw [hn.out]; rfl, ?_, ?_, ?_, hf4.out, Nat.le_refl _, ?_⟩
    · exact (((hr.out.setFar _ _ (by simp)).setFar _ _ (by simp)).setFar _ _ (by simp))
    · exact hr4.out.but ((((But.refl _ _).set 0 _).set 1 _).set 2 _) ho4.out
    · intro p e; cases e; exact Nat.le_succ _
    · exact set3 hb4.out (Nat.le_refl _) _ _ _
end Go.Proofs.YtaplaoelamnoiaaGreatDoor

/- The call acted of a function at one argument. Condition: the evaluation and the tree lie; the argument's value is known. -/
namespace Go.Proofs.YtaplaoelamnoiaaGreatDoor
open Go.RowKit

theorem BoxC.lt {N : Nat} {vs : List Value} {w : World} (h : BoxC N vs w) (i : Nat) (v : Value) (hv : vs[i]? = some v) : N < w.heap.size := World.block_lt_of_cell? _ _ (h i v hv).1
/-- Four variables just made. -/
theorem four_boxes (w : World) (a b c d : Array Value) (ta tb tc td : TypeId) (W : World) (hW : W = (((w.alloc (.cells a ta)).alloc (.cells b tb)).alloc (.cells c tc)).alloc (.cells d td)) :
    BoxC w.heap.size a.toList W ∧ BoxC (w.heap.size + 1) b.toList W ∧ BoxC (w.heap.size + 1 + 1) c.toList W ∧ BoxC (w.heap.size + 1 + 1 + 1) d.toList W ∧ W.heap.size = w.heap.size + 1 + 1 + 1 + 1 := by
  subst hW
  have h1 := boxC_alloc w a ta
  have h2 := boxC_alloc (w.alloc (.cells a ta)) b tb
  have h3 := boxC_alloc ((w.alloc (.cells a ta)).alloc (.cells b tb)) c tc
  have h4 := boxC_alloc (((w.alloc (.cells a ta)).alloc (.cells b tb)).alloc (.cells c tc)) d td
  simp only [World.size_alloc] at h2 h3 h4
  refine ⟨h1.same ?_, h2.same ?_, h3.same ?_, h4, by simp⟩
  · exact (heap_alloc_old _ _ (by simp only [World.size_alloc]; omega)).trans ((heap_alloc_old _ _ (by simp only [World.size_alloc]; omega)).trans (heap_alloc_old _ _ (by simp only [World.size_alloc]; omega)))
  · exact (heap_alloc_old _ _ (by simp only [World.size_alloc]; omega)).trans (heap_alloc_old _ _ (by simp only [World.size_alloc]; omega))
  · exact heap_alloc_old _ _ (by simp)

set_option maxRecDepth 20000 in
set_option maxHeartbeats 4000000 in
theorem acted_one (env : ByteArray → Option Arr) (o f q : Int) (r : Ex) (x y : Arr) (hr : ValOk env r x) (ho : 0 ≤ o ∧ o < 6) (h1 : One1 o f q x y) : ActOk env (.one o f q r) y := by
  intro g mb tb tc fuel T pre post w hE hsp hl hst hf
  have hnode : T[pre.length]? = some (⟨6, o, f, q, 0, [], ⟨#[]⟩⟩ : Nd) := by rw [hsp, List.getElem?_append_right (Nat.le_refl _), Nat.sub_self]; rfl
  obtain ⟨a0, cc, c0, c1, c2, c3, c4, c5, c6, -, -⟩ := ((hE.alloc (.cells #[.slice none 0 0, .int .i64 0, .int .i64 0, .pointer none, .bool false, .slice none 0 0, .slice none 0 0, .int .i64 0, .pointer (some ⟨g, 0, none⟩)] 101)).alloc (.cells #[.bool false, .slice none 0 0, .slice none 0 0] 24)).nodes.2 _ _ hnode
  dsimp only [List.length_nil] at c0 c1 c2 c3 c4 c5 c6
  have hlt : pre.length < T.length := (List.getElem?_eq_some_iff.1 hnode).1
  obtain ⟨k, hk⟩ : ∃ k, k = pre.length := ⟨_, rfl⟩
  have kr : ∀ W, EvAt g mb tb T env fuel W W → Calls Tryz.prog 41 #[callV g, .slice (some ⟨tb, 0, none⟩) T.length tc, .int .i64 ((k : Int) + 1)] W fun en w' => ValPost x g mb tb T env (fuel - M.steps r) W en w' := fun W hW => by
    have h := hr g mb tb tc fuel T (pre ++ [(⟨6, o, f, q, 0, [], ⟨#[]⟩⟩ : Nd)]) post W hW (by rw [hsp]; simp [M.flat]) hl (by simp only [M.steps] at hst; omega) hf
    have e : (((pre ++ [(⟨6, o, f, q, 0, [], ⟨#[]⟩⟩ : Nd)]).length : Nat) : Int) = (k : Int) + 1 := by simp [hk]
    rw [e] at h
    exact h
  rw [← hk] at c0 c1 c2 c3 c4 c5 c6 hlt
  rw [← hk]
  have hk4 : k ≤ 1000 := by omega
  obtain ⟨nl, hnl⟩ : ∃ nl, nl = T.length := ⟨_, rfl⟩
  rw [← hnl] at kr hlt
  rw [← hnl]
  have eo6 : (o == 6) = false := by rw [beq_eq_false_iff_ne]; omega
  have eo7 : (o == 7) = false := by rw [beq_eq_false_iff_ne]; omega
  have z0 : (0 : Int) ≤ ((k : Nat) : Int) := by omega
  have z1 : ((k : Nat) : Int) < ((nl : Nat) : Int) := by omega
  have zz : ((k : Nat) : Int).toNat = k := by simp
  have hB := hE.alloc (.cells #[.slice none 0 0, .int .i64 0, .int .i64 0, .pointer none, .bool false, .slice none 0 0, .slice none 0 0, .int .i64 0, .pointer (some ⟨g, 0, none⟩)] 101)
  have hB := hB.alloc (.cells #[.bool false, .slice none 0 0, .slice none 0 0] 24)
  have hB := hB.alloc (.cells #[.int .i64 6, .int .i64 o, .int .i64 f, .int .i64 q, .int .i64 0, .slice a0 0 cc, .string ⟨#[]⟩] 76)
  have hB := hB.alloc (.cells #[.slice (some ⟨tb, 0, none⟩) nl tc, .int .i64 ((k : Int) + 1), .int .i64 0, .pointer none, .bool false, .slice none 0 0, .slice none 0 0, .int .i64 1, .pointer (some ⟨g, 0, none⟩)] 101)
  obtain ⟨W, hW⟩ : ∃ W : World, W = (((w.alloc (.cells #[.slice none 0 0, .int .i64 0, .int .i64 0, .pointer none, .bool false, .slice none 0 0, .slice none 0 0, .int .i64 0, .pointer (some ⟨g, 0, none⟩)] 101)).alloc (.cells #[.bool false, .slice none 0 0, .slice none 0 0] 24)).alloc (.cells #[.int .i64 6, .int .i64 o, .int .i64 f, .int .i64 q, .int .i64 0, .slice a0 0 cc, .string ⟨#[]⟩] 76)).alloc (.cells #[.slice (some ⟨tb, 0, none⟩) nl tc, .int .i64 ((k : Int) + 1), .int .i64 0, .pointer none, .bool false, .slice none 0 0, .slice none 0 0, .int .i64 1, .pointer (some ⟨g, 0, none⟩)] 101) := ⟨_, rfl⟩
  rw [← hW] at hB
  obtain ⟨bA, bB, bC, bD, sW⟩ := four_boxes _ _ _ _ _ _ _ _ _ W hW
  have gl := hE.glt
  replace bA := Lib.hid bA
  replace bB := Lib.hid bB
  replace bC := Lib.hid bC
  replace bD := Lib.hid bD
  replace sW := Lib.hid sW
  have hW' := Lib.hid hW.symm
  replace hW := Lib.hid hW
  have st : fuel - M.steps r = (fuel - M.steps (.one o f q r)) + 1 := by simp only [M.steps] at hst ⊢; omega
  have hst2 : fuel - M.steps (.one o f q r) < 20000 := by simp only [M.steps] at hst ⊢; omega
  generalize fuel - M.steps (.one o f q r) = F at *
  generalize fuel - M.steps r = F2 at *
  subst st
  replace kr := Lib.hid kr
  replace hE := Lib.hid hE
  replace hsp := Lib.hid hsp
  replace hnl := Lib.hid hnl
  replace hk := Lib.hid hk
  replace hnode := Lib.hid hnode
  replace h1 := Lib.hid h1
  replace hB := Lib.hid hB
  clear hr hst hf hl
  unfold callV
  go_enter Tryz.func68, Tryz.ntmps68
  go_wp2_with fail
  rw [hW'.out]
  refine (kr.out _ hB.out.self).mono ?_
  rintro en w2 ⟨a, c, b, kk, rfl, ra, rb, oa, ob, E2⟩
  clear c0 c1 c2 c3 c4 c5 c6
  have gN : g < w.heap.size := gl
  have A2 := Lib.hid (bA.out.but E2.2.2.1 (by have := sW.out; omega) (by omega))
  have B2 := Lib.hid (bB.out.but E2.2.2.1 (by have := sW.out; omega) (by omega))
  have C2 := Lib.hid (bC.out.but E2.2.2.1 (by have := sW.out; omega) (by omega))
  have D2 := Lib.hid (bD.out.but E2.2.2.1 (by have := sW.out; omega) (by omega))
  have F2 := hB.out.trans E2
  have oa3 : Off (w.heap.size + 1 + 1 + 1) a x.s := oa.off (by omega) (by have := sW.out; omega)
  have ob3 : Off (w.heap.size + 1 + 1 + 1) b x.d := ob.off (by omega) (by have := sW.out; omega)
  have oag : Off g a x.s := oa.off (by omega) (by have := sW.out; omega)
  have obg : Off g b x.d := ob.off (by omega) (by have := sW.out; omega)
  replace ra := Lib.hid ra
  replace rb := Lib.hid rb
  replace oa3 := Lib.hid oa3
  replace ob3 := Lib.hid ob3
  replace oag := Lib.hid oag
  replace obg := Lib.hid obg
  replace F2 := Lib.hid F2
  clear oa ob E2
  have hs2 : Hid (w.heap.size + 1 + 1 + 1 < w2.heap.size) := Lib.hid (D2.out.lt 0 _ rfl)
  obtain ⟨y0, x0⟩ := A2.out 8 _ rfl
  obtain ⟨y1, x1⟩ := C2.out 0 _ rfl
  obtain ⟨y4, x4⟩ := D2.out 4 _ rfl
  obtain ⟨y5, x5⟩ := D2.out 5 _ rfl
  obtain ⟨y6, x6⟩ := D2.out 6 _ rfl
  go_wp2_with fail
  have A3 := Lib.hid (((A2.out.far ⟨w.heap.size + 1 + 1 + 1, 4, none⟩ (by show w.heap.size + 1 + 1 + 1 ≠ w.heap.size; omega) (.bool x.ch)).far ⟨w.heap.size + 1 + 1 + 1, 5, none⟩ (by show w.heap.size + 1 + 1 + 1 ≠ w.heap.size; omega) (.slice a x.s.length c)).far ⟨w.heap.size + 1 + 1 + 1, 6, none⟩ (by show w.heap.size + 1 + 1 + 1 ≠ w.heap.size; omega) (.slice b x.d.length kk))
  have B3 := Lib.hid (((B2.out.far ⟨w.heap.size + 1 + 1 + 1, 4, none⟩ (by show w.heap.size + 1 + 1 + 1 ≠ w.heap.size + 1; omega) (.bool x.ch)).far ⟨w.heap.size + 1 + 1 + 1, 5, none⟩ (by show w.heap.size + 1 + 1 + 1 ≠ w.heap.size + 1; omega) (.slice a x.s.length c)).far ⟨w.heap.size + 1 + 1 + 1, 6, none⟩ (by show w.heap.size + 1 + 1 + 1 ≠ w.heap.size + 1; omega) (.slice b x.d.length kk))
  have C3 := Lib.hid (((C2.out.far ⟨w.heap.size + 1 + 1 + 1, 4, none⟩ (by show w.heap.size + 1 + 1 + 1 ≠ w.heap.size + 1 + 1; omega) (.bool x.ch)).far ⟨w.heap.size + 1 + 1 + 1, 5, none⟩ (by show w.heap.size + 1 + 1 + 1 ≠ w.heap.size + 1 + 1; omega) (.slice a x.s.length c)).far ⟨w.heap.size + 1 + 1 + 1, 6, none⟩ (by show w.heap.size + 1 + 1 + 1 ≠ w.heap.size + 1 + 1; omega) (.slice b x.d.length kk))
  have D3 := Lib.hid (((D2.out.put 4 (by simp) (.bool x.ch)).put 5 (by simp) (.slice a x.s.length c)).put 6 (by simp) (.slice b x.d.length kk))
  have F3 := Lib.hid (((F2.out.setNew (N := w.heap.size + 1 + 1 + 1) (by omega) 4 (.bool x.ch)).setNew (N := w.heap.size + 1 + 1 + 1) (by omega) 5 (.slice a x.s.length c)).setNew (N := w.heap.size + 1 + 1 + 1) (by omega) 6 (.slice b x.d.length kk))
  have ra3 := Lib.hid (ra.out.but (But.set3 4 5 6 (.bool x.ch) (.slice a x.s.length c) (.slice b x.d.length kk)) oa3.out)
  have rb3 := Lib.hid (rb.out.but (But.set3 4 5 6 (.bool x.ch) (.slice a x.s.length c) (.slice b x.d.length kk)) ob3.out)
  have hs3 : Hid (w.heap.size + 1 + 1 + 1 < (((w2.setCell ⟨w.heap.size + 1 + 1 + 1, 4, none⟩ (.bool x.ch)).setCell ⟨w.heap.size + 1 + 1 + 1, 5, none⟩ (.slice a x.s.length c)).setCell ⟨w.heap.size + 1 + 1 + 1, 6, none⟩ (.slice b x.d.length kk)).heap.size) := Lib.hid (by simp only [World.size_setCell]; exact hs2.out)
  clear y0 x0 y1 x1 y4 x4 y5 x5 y6 x6 A2 B2 C2 D2 F2 ra rb
  generalize ((w2.setCell ⟨w.heap.size + 1 + 1 + 1, 4, none⟩ (.bool x.ch)).setCell ⟨w.heap.size + 1 + 1 + 1, 5, none⟩ (.slice a x.s.length c)).setCell ⟨w.heap.size + 1 + 1 + 1, 6, none⟩ (.slice b x.d.length kk) = w3 at *
  refine (step_any g mb tb T env F _ F3.out.self hst2).mono ?_
  rintro en w4 ⟨rfl, E4⟩
  have A4 := Lib.hid (A3.out.but E4.2.2.1 (by have := hs3.out; omega) (by omega))
  have B4 := Lib.hid (B3.out.but E4.2.2.1 (by have := hs3.out; omega) (by omega))
  have C4 := Lib.hid (C3.out.but E4.2.2.1 (by have := hs3.out; omega) (by omega))
  have D4 := Lib.hid (D3.out.but E4.2.2.1 (by have := hs3.out; omega) (by omega))
  have F4 := Lib.hid (F3.out.trans E4)
  have ra4 := Lib.hid (ra3.out.but E4.2.2.1 oag.out)
  have rb4 := Lib.hid (rb3.out.but E4.2.2.1 obg.out)
  have hs4 : Hid (w.heap.size + 1 + 1 + 1 < w4.heap.size) := Lib.hid (by have := hs3.out; have := E4.2.2.2.1.size; omega)
  clear A3 B3 C3 D3 F3 ra3 rb3 E4
  obtain ⟨y0, x0⟩ := C4.out 0 _ rfl
  obtain ⟨y1, x1⟩ := C4.out 1 _ rfl
  obtain ⟨y2, x2⟩ := C4.out 2 _ rfl
  obtain ⟨y3, x3⟩ := C4.out 3 _ rfl
  obtain ⟨y4, x4⟩ := D4.out 4 _ rfl
  obtain ⟨y5, x5⟩ := D4.out 5 _ rfl
  obtain ⟨y6, x6⟩ := D4.out 6 _ rfl
  go_wp2_with fail
  refine (h1.out _ a c b kk ra4.out rb4.out).mono ?_
  intro en w5 hp
  obtain ⟨a5, c5, b5, k5, rfl, r1, r2, f1, f2, -, hb5⟩ := hp.is_ok rfl
  clear hp y0 y1 y2 y3 y4 y5 y6 x0 x1 x2 x3 x4 x5 x6
  replace r1 := Lib.hid r1
  replace r2 := Lib.hid r2
  replace f1 := Lib.hid f1
  replace f2 := Lib.hid f2
  have B5 := Lib.hid (B4.out.same (hb5.block _ (by have := hs4.out; omega)))
  have F5 := Lib.hid (F4.out.step hb5)
  replace hb5 := Lib.hid hb5
  go_wp2_with fail
  refine (must_any y.ch a5 y.s.length c5 b5 y.d.length k5 _).mono ?_
  rintro en w6 ⟨rfl, hb6⟩
  have B6 := B5.out.same (hb6.block _ (by have := hs4.out; have := hb5.out.size; omega))
  have F6 := Lib.hid (F5.out.step hb6)
  have r16 := Lib.hid (r1.out.below hb6)
  have r26 := Lib.hid (r2.out.below hb6)
  clear r1 r2 B5 F5 hb6
  obtain ⟨y0, x0⟩ := B6 0 _ rfl
  obtain ⟨y1, x1⟩ := B6 1 _ rfl
  obtain ⟨y2, x2⟩ := B6 2 _ rfl
  clear B6
  go_wp2
  refine bodyPost_ret (v := arrV y.ch a5 y.s.length c5 b5 y.d.length k5) (by simp [results, Tryz.results68, go_sem, cell?_set_same, arrV, y0, y1, y2]) rfl ?_
  refine ⟨a5, c5, b5, k5, rfl, r16.out.but (But.set3 _ _ _ _ _ _) (fun _ p e => ?_), r26.out.but (But.set3 _ _ _ _ _ _) (fun _ p e => ?_), f1.out.out F4.out.le, f2.out.out F4.out.le, ((F6.out.setNew (by omega) _ _).setNew (by omega) _ _).setNew (by omega) _ _⟩
  · have h1 := f1.out p e
    have := hs4.out
    omega
  · have h1 := f2.out p e
    have := hs4.out
    omega
end Go.Proofs.YtaplaoelamnoiaaGreatDoor

/- The call acted of a function at two arguments. Condition: the evaluation and the tree lie; the arguments' values are known. -/
namespace Go.Proofs.YtaplaoelamnoiaaGreatDoor
open Go.RowKit

/-- The cells that the last step of acted reads. -/
theorem held10 {w w' : World} {nC nD nE : Nat} {v0 v1 v2 v3 v4 v5 v6 v7 v8 v9 : Value} (hb : Below w.heap.size w w') (h : w.cell? ⟨nC, 1, none⟩ = some v0 ∧ w.cell? ⟨nC, 2, none⟩ = some v1 ∧ w.cell? ⟨nC, 3, none⟩ = some v2 ∧ w.cell? ⟨nD, 3, none⟩ = some v3 ∧ w.cell? ⟨nD, 4, none⟩ = some v4 ∧ w.cell? ⟨nD, 5, none⟩ = some v5 ∧ w.cell? ⟨nD, 6, none⟩ = some v6 ∧ w.cell? ⟨nE, 0, none⟩ = some v7 ∧ w.cell? ⟨nE, 1, none⟩ = some v8 ∧ w.cell? ⟨nE, 2, none⟩ = some v9) : w'.cell? ⟨nC, 1, none⟩ = some v0 ∧ w'.cell? ⟨nC, 2, none⟩ = some v1 ∧ w'.cell? ⟨nC, 3, none⟩ = some v2 ∧ w'.cell? ⟨nD, 3, none⟩ = some v3 ∧ w'.cell? ⟨nD, 4, none⟩ = some v4 ∧ w'.cell? ⟨nD, 5, none⟩ = some v5 ∧ w'.cell? ⟨nD, 6, none⟩ = some v6 ∧ w'.cell? ⟨nE, 0, none⟩ = some v7 ∧ w'.cell? ⟨nE, 1, none⟩ = some v8 ∧ w'.cell? ⟨nE, 2, none⟩ = some v9 := by
  have k : ∀ {x : Addr} {v : Value}, w.cell? x = some v → w'.cell? x = some v := fun h => (hb.cell (World.block_lt_of_cell? w _ h)).trans h
  obtain ⟨h0, h1, h2, h3, h4, h5, h6, h7, h8, h9⟩ := h
  exact ⟨k h0, k h1, k h2, k h3, k h4, k h5, k h6, k h7, k h8, k h9⟩
theorem held10_set {w : World} {nB nC nD nE : Nat} {v0 v1 v2 v3 v4 v5 v6 v7 v8 v9 x y z : Value} (hC : nB < nC) (hD : nB < nD) (hE : nB < nE) (h : w.cell? ⟨nC, 1, none⟩ = some v0 ∧ w.cell? ⟨nC, 2, none⟩ = some v1 ∧ w.cell? ⟨nC, 3, none⟩ = some v2 ∧ w.cell? ⟨nD, 3, none⟩ = some v3 ∧ w.cell? ⟨nD, 4, none⟩ = some v4 ∧ w.cell? ⟨nD, 5, none⟩ = some v5 ∧ w.cell? ⟨nD, 6, none⟩ = some v6 ∧ w.cell? ⟨nE, 0, none⟩ = some v7 ∧ w.cell? ⟨nE, 1, none⟩ = some v8 ∧ w.cell? ⟨nE, 2, none⟩ = some v9) : (((w.setCell ⟨nB, 0, none⟩ x).setCell ⟨nB, 1, none⟩ y).setCell ⟨nB, 2, none⟩ z).cell? ⟨nC, 1, none⟩ = some v0 ∧ (((w.setCell ⟨nB, 0, none⟩ x).setCell ⟨nB, 1, none⟩ y).setCell ⟨nB, 2, none⟩ z).cell? ⟨nC, 2, none⟩ = some v1 ∧ (((w.setCell ⟨nB, 0, none⟩ x).setCell ⟨nB, 1, none⟩ y).setCell ⟨nB, 2, none⟩ z).cell? ⟨nC, 3, none⟩ = some v2 ∧ (((w.setCell ⟨nB, 0, none⟩ x).setCell ⟨nB, 1, none⟩ y).setCell ⟨nB, 2, none⟩ z).cell? ⟨nD, 3, none⟩ = some v3 ∧ (((w.setCell ⟨nB, 0, none⟩ x).setCell ⟨nB, 1, none⟩ y).setCell ⟨nB, 2, none⟩ z).cell? ⟨nD, 4, none⟩ = some v4 ∧ (((w.setCell ⟨nB, 0, none⟩ x).setCell ⟨nB, 1, none⟩ y).setCell ⟨nB, 2, none⟩ z).cell? ⟨nD, 5, none⟩ = some v5 ∧ (((w.setCell ⟨nB, 0, none⟩ x).setCell ⟨nB, 1, none⟩ y).setCell ⟨nB, 2, none⟩ z).cell? ⟨nD, 6, none⟩ = some v6 ∧ (((w.setCell ⟨nB, 0, none⟩ x).setCell ⟨nB, 1, none⟩ y).setCell ⟨nB, 2, none⟩ z).cell? ⟨nE, 0, none⟩ = some v7 ∧ (((w.setCell ⟨nB, 0, none⟩ x).setCell ⟨nB, 1, none⟩ y).setCell ⟨nB, 2, none⟩ z).cell? ⟨nE, 1, none⟩ = some v8 ∧ (((w.setCell ⟨nB, 0, none⟩ x).setCell ⟨nB, 1, none⟩ y).setCell ⟨nB, 2, none⟩ z).cell? ⟨nE, 2, none⟩ = some v9 := by
  have k : ∀ {b o : Nat} {v : Value}, nB < b → w.cell? ⟨b, o, none⟩ = some v → (((w.setCell ⟨nB, 0, none⟩ x).setCell ⟨nB, 1, none⟩ y).setCell ⟨nB, 2, none⟩ z).cell? ⟨b, o, none⟩ = some v := by
    intro b o v hb h
    have e : ∀ j, (⟨nB, j, none⟩ : Addr) ≠ ⟨b, o, none⟩ := fun j h => by cases h; omega
    rw [World.cell?_setCell_other _ _ _ _ (e 2), World.cell?_setCell_other _ _ _ _ (e 1), World.cell?_setCell_other _ _ _ _ (e 0)]
    exact h
  obtain ⟨h0, h1, h2, h3, h4, h5, h6, h7, h8, h9⟩ := h
  exact ⟨k hC h0, k hC h1, k hC h2, k hD h3, k hD h4, k hD h5, k hD h6, k hE h7, k hE h8, k hE h9⟩
/-- Three variables just made. -/
theorem three_boxes (w : World) (a b c : Array Value) (ta tb tc : TypeId) (W : World) (hW : W = ((w.alloc (.cells a ta)).alloc (.cells b tb)).alloc (.cells c tc)) :
    BoxC w.heap.size a.toList W ∧ BoxC (w.heap.size + 1) b.toList W ∧ BoxC (w.heap.size + 1 + 1) c.toList W ∧ W.heap.size = w.heap.size + 1 + 1 + 1 := by
  subst hW
  have h1 := boxC_alloc w a ta
  have h2 := boxC_alloc (w.alloc (.cells a ta)) b tb
  have h3 := boxC_alloc ((w.alloc (.cells a ta)).alloc (.cells b tb)) c tc
  simp only [World.size_alloc] at h2 h3
  refine ⟨h1.same ?_, h2.same ?_, h3, by simp⟩
  · exact (heap_alloc_old _ _ (by simp only [World.size_alloc]; omega)).trans (heap_alloc_old _ _ (by simp only [World.size_alloc]; omega))
  · exact heap_alloc_old _ _ (by simp only [World.size_alloc]; omega)

set_option maxRecDepth 20000 in
set_option maxHeartbeats 8000000 in
theorem acted_twoC (C : Nat → Prop) (env : ByteArray → Option Arr) (o f q : Int) (l r : Ex) (x y z : Arr) (hlv : ValOk env l x) (hr : ValOkC C env r y) (hpl : l.plain) (ho : 0 ≤ o ∧ o < 6) (h1 : Two1C C o f q x y z) : ActOk env (.two l o f q r) z := by
  intro g mb tb tc fuel T pre post w hE hsp hl hst hf
  have hnode : T[pre.length]? = some (⟨7, o, f, q, 0, [], ⟨#[]⟩⟩ : Nd) := by rw [hsp, List.getElem?_append_right (Nat.le_refl _), Nat.sub_self]; rfl
  obtain ⟨a0, cc, c0, c1, c2, c3, c4, c5, c6, -, -⟩ := ((hE.alloc (.cells #[.slice none 0 0, .int .i64 0, .int .i64 0, .pointer none, .bool false, .slice none 0 0, .slice none 0 0, .int .i64 0, .pointer (some ⟨g, 0, none⟩)] 101)).alloc (.cells #[.bool false, .slice none 0 0, .slice none 0 0] 24)).nodes.2 _ _ hnode
  dsimp only [List.length_nil] at c0 c1 c2 c3 c4 c5 c6
  have hlt : pre.length < T.length := (List.getElem?_eq_some_iff.1 hnode).1
  obtain ⟨k, hk⟩ : ∃ k, k = pre.length := ⟨_, rfl⟩
  obtain ⟨ml, hml⟩ : ∃ ml, ml = (M.flat l).length := ⟨_, rfl⟩
  have hkm : k + 1 + ml < T.length := by
    have h := congrArg List.length hsp
    have h2 := flat_pos r
    simp only [M.flat, List.length_append, List.length_cons] at h
    omega
  have sp1 : T = (pre ++ [(⟨7, o, f, q, 0, [], ⟨#[]⟩⟩ : Nd)]) ++ (M.flat l ++ (M.flat r ++ post)) := by rw [hsp]; simp [M.flat]
  have sp2 : T = (pre ++ (⟨7, o, f, q, 0, [], ⟨#[]⟩⟩ : Nd) :: M.flat l) ++ (M.flat r ++ post) := by rw [hsp]; simp [M.flat]
  have e1 : (((pre ++ [(⟨7, o, f, q, 0, [], ⟨#[]⟩⟩ : Nd)]).length : Nat) : Int) = (k : Int) + 1 := by simp [hk]
  have e2 : (((pre ++ (⟨7, o, f, q, 0, [], ⟨#[]⟩⟩ : Nd) :: M.flat l).length : Nat) : Int) = (k : Int) + 1 + ml := by simp [hk, hml]; omega
  have ks : ∀ W, NdAt g tb T W → Calls Tryz.prog 88 #[.slice (some ⟨tb, 0, none⟩) T.length tc, .int .i64 ((k : Int) + 1)] W fun en w' => en = .returned (.int .i64 ((k : Int) + 1 + ml)) ∧ Below W.heap.size W w' := fun W hW => by
    have h := skip_any g tb tc T W hW hl l hpl (pre ++ [(⟨7, o, f, q, 0, [], ⟨#[]⟩⟩ : Nd)]) (M.flat r ++ post) sp1
    rw [e1] at h
    refine h.mono fun en w' h => ⟨?_, h.2⟩
    rw [h.1]
    congr 2
    rw [hml]
    push_cast
    rw [e1]
  have kl : ∀ W, EvAt g mb tb T env (fuel - M.steps r) W W → Calls Tryz.prog 41 #[callV g, .slice (some ⟨tb, 0, none⟩) T.length tc, .int .i64 ((k : Int) + 1)] W fun en w' => ValPost x g mb tb T env (fuel - M.steps r - M.steps l) W en w' := fun W hW => by
    have h := hlv g mb tb tc (fuel - M.steps r) T (pre ++ [(⟨7, o, f, q, 0, [], ⟨#[]⟩⟩ : Nd)]) (M.flat r ++ post) W hW sp1 hl (by simp only [M.steps] at hst; omega) (by omega)
    rw [e1] at h
    exact h
  have kr : ∀ W, EvAt g mb tb T env fuel W W → Calls Tryz.prog 41 #[callV g, .slice (some ⟨tb, 0, none⟩) T.length tc, .int .i64 ((k : Int) + 1 + ml)] W fun en w' => ValPostC C y g mb tb T env (fuel - M.steps r) W en w' := fun W hW => by
    have h := hr g mb tb tc fuel T (pre ++ (⟨7, o, f, q, 0, [], ⟨#[]⟩⟩ : Nd) :: M.flat l) post W hW sp2 hl (by simp only [M.steps] at hst; omega) hf
    rw [e2] at h
    exact h
  rw [← hk] at c0 c1 c2 c3 c4 c5 c6 hlt
  rw [← hk]
  have hk4 : k ≤ 1000 := by omega
  have hm4 : ml ≤ 1000 := by omega
  obtain ⟨nl, hnl⟩ : ∃ nl, nl = T.length := ⟨_, rfl⟩
  rw [← hnl] at kr kl ks hlt hkm
  rw [← hnl]
  have eo6 : (o == 6) = false := by rw [beq_eq_false_iff_ne]; omega
  have eo7 : (o == 7) = false := by rw [beq_eq_false_iff_ne]; omega
  have z0 : (0 : Int) ≤ ((k : Nat) : Int) := by omega
  have z1 : ((k : Nat) : Int) < ((nl : Nat) : Int) := by omega
  have zz : ((k : Nat) : Int).toNat = k := by simp
  have hB := ((hE.alloc (.cells #[.slice none 0 0, .int .i64 0, .int .i64 0, .pointer none, .bool false, .slice none 0 0, .slice none 0 0, .int .i64 0, .pointer (some ⟨g, 0, none⟩)] 101)).alloc (.cells #[.bool false, .slice none 0 0, .slice none 0 0] 24)).alloc (.cells #[.int .i64 7, .int .i64 o, .int .i64 f, .int .i64 q, .int .i64 0, .slice a0 0 cc, .string ⟨#[]⟩] 76)
  obtain ⟨W, hW⟩ : ∃ W : World, W = ((w.alloc (.cells #[.slice none 0 0, .int .i64 0, .int .i64 0, .pointer none, .bool false, .slice none 0 0, .slice none 0 0, .int .i64 0, .pointer (some ⟨g, 0, none⟩)] 101)).alloc (.cells #[.bool false, .slice none 0 0, .slice none 0 0] 24)).alloc (.cells #[.int .i64 7, .int .i64 o, .int .i64 f, .int .i64 q, .int .i64 0, .slice a0 0 cc, .string ⟨#[]⟩] 76) := ⟨_, rfl⟩
  rw [← hW] at hB
  obtain ⟨bA, bB, bC, sW⟩ := three_boxes _ _ _ _ _ _ _ W hW
  have gl := hE.glt
  have st : fuel - M.steps r - M.steps l = (fuel - M.steps (.two l o f q r)) + 1 := by simp only [M.steps] at hst ⊢; omega
  have hst2 : fuel - M.steps (.two l o f q r) < 20000 := by simp only [M.steps] at hst ⊢; omega
  generalize fuel - M.steps (.two l o f q r) = F at *
  generalize fuel - M.steps r - M.steps l = F2 at *
  generalize fuel - M.steps r = F3 at *
  subst st
  replace bA := Lib.hid bA
  replace bB := Lib.hid bB
  replace bC := Lib.hid bC
  replace sW := Lib.hid sW
  have hW' := Lib.hid hW.symm
  replace hW := Lib.hid hW
  replace kr := Lib.hid kr
  replace kl := Lib.hid kl
  replace ks := Lib.hid ks
  replace hE := Lib.hid hE
  replace hnl := Lib.hid hnl
  replace hk := Lib.hid hk
  replace hml := Lib.hid hml
  replace h1 := Lib.hid h1
  replace hB := Lib.hid hB
  clear hr hlv hst hf hl e1 e2 sp1 sp2 hsp hnode hpl
  unfold callV
  go_enter Tryz.func68, Tryz.ntmps68
  go_wp2_with fail
  rw [hW'.out]
  refine (ks.out _ hB.out.nodes).mono ?_
  rintro en v ⟨rfl, hbv⟩
  clear c0 c1 c2 c3 c4 c5 c6
  have Av := bA.out.same (hbv.block _ (by have := sW.out; omega))
  have Bv := bB.out.same (hbv.block _ (by have := sW.out; omega))
  have Cv := bC.out.same (hbv.block _ (by have := sW.out; omega))
  have Ev := hB.out.step hbv
  have sv : w.heap.size + 1 + 1 < v.heap.size := by have := sW.out; have := hbv.size; omega
  have hba := (Below.refl v.heap.size v).alloc (Nat.le_refl _) (.cells #[.slice (some ⟨tb, 0, none⟩) nl tc, .int .i64 ((k : Int) + 1 + ml), .int .i64 0, .pointer none, .bool false, .slice none 0 0, .slice none 0 0, .int .i64 1, .pointer (some ⟨g, 0, none⟩)] 101)
  have bD := boxC_alloc v #[.slice (some ⟨tb, 0, none⟩) nl tc, .int .i64 ((k : Int) + 1 + ml), .int .i64 0, .pointer none, .bool false, .slice none 0 0, .slice none 0 0, .int .i64 1, .pointer (some ⟨g, 0, none⟩)] 101
  obtain ⟨V, hV⟩ : ∃ V : World, V = v.alloc (.cells #[.slice (some ⟨tb, 0, none⟩) nl tc, .int .i64 ((k : Int) + 1 + ml), .int .i64 0, .pointer none, .bool false, .slice none 0 0, .slice none 0 0, .int .i64 1, .pointer (some ⟨g, 0, none⟩)] 101) := ⟨_, rfl⟩
  have sV : V.heap.size = v.heap.size + 1 := by rw [hV]; simp
  rw [← hV] at hba bD
  have AV := Av.same (hba.block _ (by omega))
  have BV := Bv.same (hba.block _ (by omega))
  have CV := Cv.same (hba.block _ (by omega))
  have EV := Ev.step hba
  obtain ⟨y0, x0⟩ := Cv 1 _ rfl
  obtain ⟨y1, x1⟩ := Cv 4 _ rfl
  obtain ⟨y2, x2⟩ := Av 7 _ rfl
  obtain ⟨y3, x3⟩ := Av 8 _ rfl
  obtain ⟨p0, -⟩ := AV 0 _ rfl
  obtain ⟨p1, -⟩ := AV 1 _ rfl
  obtain ⟨p2, -⟩ := AV 2 _ rfl
  obtain ⟨p3, -⟩ := AV 3 _ rfl
  obtain ⟨p4, -⟩ := AV 4 _ rfl
  obtain ⟨p5, -⟩ := AV 5 _ rfl
  obtain ⟨p6, -⟩ := AV 6 _ rfl
  obtain ⟨p7, -⟩ := AV 7 _ rfl
  obtain ⟨p8, -⟩ := AV 8 _ rfl
  obtain ⟨q1, -⟩ := CV 1 _ rfl
  rw [hV] at p0 p1 p2 p3 p4 p5 p6 p7 p8 q1
  have hV' := Lib.hid hV.symm
  replace hV := Lib.hid hV
  replace AV := Lib.hid AV
  replace BV := Lib.hid BV
  replace CV := Lib.hid CV
  replace EV := Lib.hid EV
  replace bD := Lib.hid bD
  replace sv := Lib.hid sv
  replace sV := Lib.hid sV
  clear Av Bv Cv Ev hbv hba bA bB bC
  go_wp2_with fail
  rw [hV'.out]
  refine (kr.out _ EV.out.self).mono ?_
  rintro en w2 ⟨a, c, b, kk, hCk, rfl, ra, rb, oa, ob, E2⟩
  replace hCk := Lib.hid hCk
  clear p0 p1 p2 p3 p4 p5 p6 p7 p8 q1 y0 y1 y2 y3 x0 x1 x2 x3
  have gN : g < w.heap.size := gl
  have A2 := Lib.hid (AV.out.but E2.2.2.1 (by have := sV.out; have := sv.out; omega) (by omega))
  have B2 := Lib.hid (BV.out.but E2.2.2.1 (by have := sV.out; have := sv.out; omega) (by omega))
  have C2 := Lib.hid (CV.out.but E2.2.2.1 (by have := sV.out; have := sv.out; omega) (by omega))
  have D2 := Lib.hid (bD.out.but E2.2.2.1 (by have := sV.out; omega) (by have := sv.out; omega))
  have F2 := EV.out.trans E2
  have oa3 : Off v.heap.size a y.s := oa.off (by have := sv.out; omega) (by have := sV.out; omega)
  have ob3 : Off v.heap.size b y.d := ob.off (by have := sv.out; omega) (by have := sV.out; omega)
  have oag : Off g a y.s := oa.off (by omega) (by have := sV.out; have := sv.out; omega)
  have obg : Off g b y.d := ob.off (by omega) (by have := sV.out; have := sv.out; omega)
  replace ra := Lib.hid ra
  replace rb := Lib.hid rb
  replace oa3 := Lib.hid oa3
  replace ob3 := Lib.hid ob3
  replace oag := Lib.hid oag
  replace obg := Lib.hid obg
  replace F2 := Lib.hid F2
  clear oa ob E2
  have hs2 : Hid (v.heap.size < w2.heap.size) := Lib.hid (D2.out.lt 0 _ rfl)
  have A3 := Lib.hid ((((A2.out.far ⟨v.heap.size, 4, none⟩ (by show v.heap.size ≠ w.heap.size; have := sv.out; omega) (.bool y.ch)).far ⟨v.heap.size, 5, none⟩ (by show v.heap.size ≠ w.heap.size; have := sv.out; omega) (.slice a y.s.length c)).far ⟨v.heap.size, 6, none⟩ (by show v.heap.size ≠ w.heap.size; have := sv.out; omega) (.slice b y.d.length kk)))
  have B3 := Lib.hid ((((B2.out.far ⟨v.heap.size, 4, none⟩ (by show v.heap.size ≠ w.heap.size + 1; have := sv.out; omega) (.bool y.ch)).far ⟨v.heap.size, 5, none⟩ (by show v.heap.size ≠ w.heap.size + 1; have := sv.out; omega) (.slice a y.s.length c)).far ⟨v.heap.size, 6, none⟩ (by show v.heap.size ≠ w.heap.size + 1; have := sv.out; omega) (.slice b y.d.length kk)))
  have C3 := Lib.hid ((((C2.out.far ⟨v.heap.size, 4, none⟩ (by show v.heap.size ≠ w.heap.size + 1 + 1; have := sv.out; omega) (.bool y.ch)).far ⟨v.heap.size, 5, none⟩ (by show v.heap.size ≠ w.heap.size + 1 + 1; have := sv.out; omega) (.slice a y.s.length c)).far ⟨v.heap.size, 6, none⟩ (by show v.heap.size ≠ w.heap.size + 1 + 1; have := sv.out; omega) (.slice b y.d.length kk)))
  have D3 := Lib.hid (((D2.out.put 4 (by simp) (.bool y.ch)).put 5 (by simp) (.slice a y.s.length c)).put 6 (by simp) (.slice b y.d.length kk))
  have F3' := Lib.hid (((F2.out.setNew (N := v.heap.size) (by have := sv.out; omega) 4 (.bool y.ch)).setNew (N := v.heap.size) (by have := sv.out; omega) 5 (.slice a y.s.length c)).setNew (N := v.heap.size) (by have := sv.out; omega) 6 (.slice b y.d.length kk))
  have ra3 := Lib.hid (ra.out.but (But.set3 4 5 6 (.bool y.ch) (.slice a y.s.length c) (.slice b y.d.length kk)) oa3.out)
  have rb3 := Lib.hid (rb.out.but (But.set3 4 5 6 (.bool y.ch) (.slice a y.s.length c) (.slice b y.d.length kk)) ob3.out)
  have hs3 : Hid (v.heap.size < (((w2.setCell ⟨v.heap.size, 4, none⟩ (.bool y.ch)).setCell ⟨v.heap.size, 5, none⟩ (.slice a y.s.length c)).setCell ⟨v.heap.size, 6, none⟩ (.slice b y.d.length kk)).heap.size) := Lib.hid (by simp only [World.size_setCell]; exact hs2.out)
  obtain ⟨y4, x4⟩ := D2.out 4 _ rfl
  obtain ⟨y5, x5⟩ := D2.out 5 _ rfl
  obtain ⟨y6, x6⟩ := D2.out 6 _ rfl
  obtain ⟨w3, hw3⟩ : ∃ w3 : World, w3 = ((w2.setCell ⟨v.heap.size, 4, none⟩ (.bool y.ch)).setCell ⟨v.heap.size, 5, none⟩ (.slice a y.s.length c)).setCell ⟨v.heap.size, 6, none⟩ (.slice b y.d.length kk) := ⟨_, rfl⟩
  rw [← hw3] at A3 B3 C3 D3 F3' ra3 rb3 hs3
  obtain ⟨p0, -⟩ := A3.out 0 _ rfl
  obtain ⟨p1, -⟩ := A3.out 1 _ rfl
  obtain ⟨p2, -⟩ := A3.out 2 _ rfl
  obtain ⟨p3, -⟩ := A3.out 3 _ rfl
  obtain ⟨p4, -⟩ := A3.out 4 _ rfl
  obtain ⟨p5, -⟩ := A3.out 5 _ rfl
  obtain ⟨p6, -⟩ := A3.out 6 _ rfl
  obtain ⟨p7, -⟩ := A3.out 7 _ rfl
  obtain ⟨p8, -⟩ := A3.out 8 _ rfl
  obtain ⟨q0, -⟩ := C3.out 0 _ rfl
  rw [hw3] at p0 p1 p2 p3 p4 p5 p6 p7 p8 q0
  have hw3' := Lib.hid hw3.symm
  replace hw3 := Lib.hid hw3
  clear A2 B2 C2 D2 F2 ra rb
  go_wp2_with fail
  rw [hw3'.out]
  refine (kl.out _ F3'.out.self).mono ?_
  rintro en w4 ⟨a', c', b', kk', rfl, ra', rb', oa', ob', E4⟩
  clear p0 p1 p2 p3 p4 p5 p6 p7 p8 q0 y4 y5 y6 x4 x5 x6
  have A4 := A3.out.but E4.2.2.1 (by have := hs3.out; have := sv.out; omega) (by omega)
  have B4 := B3.out.but E4.2.2.1 (by have := hs3.out; have := sv.out; omega) (by omega)
  have C4 := C3.out.but E4.2.2.1 (by have := hs3.out; have := sv.out; omega) (by omega)
  have D4 := D3.out.but E4.2.2.1 (by have := hs3.out; omega) (by have := sv.out; omega)
  have F4 := F3'.out.trans E4
  have hs4 : v.heap.size < w4.heap.size := D4.lt 0 _ rfl
  have ra4 := ra3.out.but E4.2.2.1 oag.out
  have rb4 := rb3.out.but E4.2.2.1 obg.out
  have oa4 : Off v.heap.size a' x.s := oa'.off (by have := sv.out; omega) (by have := hs3.out; omega)
  have ob4 : Off v.heap.size b' x.d := ob'.off (by have := sv.out; omega) (by have := hs3.out; omega)
  have oag' : Off g a' x.s := oa'.off (by omega) (by have := hs3.out; have := sv.out; omega)
  have obg' : Off g b' x.d := ob'.off (by omega) (by have := hs3.out; have := sv.out; omega)
  clear A3 B3 C3 D3 F3' ra3 rb3 oa' ob' E4
  have hba := (Below.refl w4.heap.size w4).alloc (Nat.le_refl _) (.cells #[.bool x.ch, .slice a' x.s.length c', .slice b' x.d.length kk'] 24)
  have bE := boxC_alloc w4 #[.bool x.ch, .slice a' x.s.length c', .slice b' x.d.length kk'] 24
  obtain ⟨w5, hw5⟩ : ∃ w5 : World, w5 = w4.alloc (.cells #[.bool x.ch, .slice a' x.s.length c', .slice b' x.d.length kk'] 24) := ⟨_, rfl⟩
  have hs5 : w5.heap.size = w4.heap.size + 1 := by rw [hw5]; simp
  rw [← hw5] at hba bE
  have A5 := A4.same (hba.block _ (by have := sv.out; omega))
  have B5 := B4.same (hba.block _ (by have := sv.out; omega))
  have C5 := C4.same (hba.block _ (by have := sv.out; omega))
  have D5 := D4.same (hba.block _ (by omega))
  have F5 := F4.step hba
  have A6 := A5.far ⟨v.heap.size, 3, none⟩ (by show v.heap.size ≠ w.heap.size; have := sv.out; omega) (.pointer (some ⟨w4.heap.size, 0, none⟩))
  have B6 := B5.far ⟨v.heap.size, 3, none⟩ (by show v.heap.size ≠ w.heap.size + 1; have := sv.out; omega) (.pointer (some ⟨w4.heap.size, 0, none⟩))
  have C6 := C5.far ⟨v.heap.size, 3, none⟩ (by show v.heap.size ≠ w.heap.size + 1 + 1; have := sv.out; omega) (.pointer (some ⟨w4.heap.size, 0, none⟩))
  have E6 := bE.far ⟨v.heap.size, 3, none⟩ (by show v.heap.size ≠ w4.heap.size; omega) (.pointer (some ⟨w4.heap.size, 0, none⟩))
  have D6 := D5.put 3 (by simp) (.pointer (some ⟨w4.heap.size, 0, none⟩))
  have F6 := F5.setNew (N := v.heap.size) (by have := sv.out; omega) 3 (.pointer (some ⟨w4.heap.size, 0, none⟩))
  have ra6 := (ra4.below hba).but ((But.refl v.heap.size w5).set 3 (.pointer (some ⟨w4.heap.size, 0, none⟩))) oa3.out
  have rb6 := (rb4.below hba).but ((But.refl v.heap.size w5).set 3 (.pointer (some ⟨w4.heap.size, 0, none⟩))) ob3.out
  have ra6' := (ra'.below hba).but ((But.refl v.heap.size w5).set 3 (.pointer (some ⟨w4.heap.size, 0, none⟩))) oa4
  have rb6' := (rb'.below hba).but ((But.refl v.heap.size w5).set 3 (.pointer (some ⟨w4.heap.size, 0, none⟩))) ob4
  have hs6 : (w5.setCell ⟨v.heap.size, 3, none⟩ (.pointer (some ⟨w4.heap.size, 0, none⟩))).heap.size = w4.heap.size + 1 := by rw [World.size_setCell]; exact hs5
  obtain ⟨y3, x3⟩ := D5 3 _ rfl
  rw [hw5] at y3 x3
  obtain ⟨w6, hw6⟩ : ∃ w6 : World, w6 = w5.setCell ⟨v.heap.size, 3, none⟩ (.pointer (some ⟨w4.heap.size, 0, none⟩)) := ⟨_, rfl⟩
  rw [← hw6] at A6 B6 C6 D6 E6 F6 ra6 rb6 ra6' rb6' hs6
  obtain ⟨q0, -⟩ := A6 8 _ rfl
  rw [hw6, hw5] at q0
  have hw6' := Lib.hid (show (w4.alloc (.cells #[.bool x.ch, .slice a' x.s.length c', .slice b' x.d.length kk'] 24)).setCell ⟨v.heap.size, 3, none⟩ (.pointer (some ⟨w4.heap.size, 0, none⟩)) = w6 by rw [hw6, hw5])
  clear A4 B4 C4 D4 F4 ra4 rb4 ra' rb' A5 B5 C5 D5 F5 hba bE A6
  replace hw6 := Lib.hid hw6
  replace hw5 := Lib.hid hw5
  replace hs5 := Lib.hid hs5
  replace hs4 := Lib.hid hs4
  replace hs6 := Lib.hid hs6
  replace B6 := Lib.hid B6
  replace C6 := Lib.hid C6
  replace D6 := Lib.hid D6
  replace E6 := Lib.hid E6
  replace F6 := Lib.hid F6
  replace ra6 := Lib.hid ra6
  replace rb6 := Lib.hid rb6
  replace ra6' := Lib.hid ra6'
  replace rb6' := Lib.hid rb6'
  replace oa4 := Lib.hid oa4
  replace ob4 := Lib.hid ob4
  replace oag' := Lib.hid oag'
  replace obg' := Lib.hid obg'
  go_wp2_with fail
  rw [hw6'.out]
  refine (step_any g mb tb T env F _ F6.out.self hst2).mono ?_
  rintro en w7 ⟨rfl, G7⟩
  clear q0 y3 x3
  have B7 := Lib.hid (B6.out.but G7.2.2.1 (by have := hs6.out; have := hs4.out; have := sv.out; omega) (by omega))
  have C7 := C6.out.but G7.2.2.1 (by have := hs6.out; have := hs4.out; have := sv.out; omega) (by omega)
  have D7 := D6.out.but G7.2.2.1 (by have := hs6.out; have := hs4.out; have := sv.out; omega) (by have := sv.out; omega)
  have E7 := E6.out.but G7.2.2.1 (by have := hs6.out; omega) (by have := hs4.out; have := sv.out; omega)
  have F7 := Lib.hid (F6.out.trans G7)
  have ra7 := ra6.out.but G7.2.2.1 oag.out
  have rb7 := rb6.out.but G7.2.2.1 obg.out
  have ra7' := ra6'.out.but G7.2.2.1 oag'.out
  have rb7' := rb6'.out.but G7.2.2.1 obg'.out
  have hs7 : w4.heap.size < w7.heap.size := by have := hs6.out; have := G7.2.2.2.1.size; omega
  obtain ⟨y0, x0⟩ := C7 0 _ rfl
  have SS : w7.drew.cell? ⟨w.heap.size + 1 + 1, 1, none⟩ = some (.int .i64 o) ∧ w7.drew.cell? ⟨w.heap.size + 1 + 1, 2, none⟩ = some (.int .i64 f) ∧ w7.drew.cell? ⟨w.heap.size + 1 + 1, 3, none⟩ = some (.int .i64 q) ∧ w7.drew.cell? ⟨v.heap.size, 3, none⟩ = some (.pointer (some ⟨w4.heap.size, 0, none⟩)) ∧ w7.drew.cell? ⟨v.heap.size, 4, none⟩ = some (.bool y.ch) ∧ w7.drew.cell? ⟨v.heap.size, 5, none⟩ = some (.slice a y.s.length c) ∧ w7.drew.cell? ⟨v.heap.size, 6, none⟩ = some (.slice b y.d.length kk) ∧ w7.drew.cell? ⟨w4.heap.size, 0, none⟩ = some (.bool x.ch) ∧ w7.drew.cell? ⟨w4.heap.size, 1, none⟩ = some (.slice a' x.s.length c') ∧ w7.drew.cell? ⟨w4.heap.size, 2, none⟩ = some (.slice b' x.d.length kk') :=
    ⟨(C7 1 _ rfl).1, (C7 2 _ rfl).1, (C7 3 _ rfl).1, (D7 3 _ rfl).1, (D7 4 _ rfl).1, (D7 5 _ rfl).1, (D7 6 _ rfl).1, (E7 0 _ rfl).1, (E7 1 _ rfl).1, (E7 2 _ rfl).1⟩
  obtain ⟨y1, x1⟩ := C7 1 _ rfl
  have ra8 : Hid (Row w7.drew a y.s) := Lib.hid ra7
  have rb8 : Hid (Row w7.drew b y.d) := Lib.hid rb7
  have ra8' : Hid (Row w7.drew a' x.s) := Lib.hid ra7'
  have rb8' : Hid (Row w7.drew b' x.d) := Lib.hid rb7'
  have l1 : w.heap.size + 1 < w.heap.size + 1 + 1 := Nat.lt_succ_self _
  have l2 : w.heap.size + 1 < v.heap.size := by have := sv.out; omega
  have l3 : w.heap.size + 1 < w4.heap.size := by have := sv.out; have := hs4.out; omega
  replace hs7 := Lib.hid hs7
  clear C7 D7 E7 ra7 rb7 ra7' rb7' G7 B6 C6 D6 E6 F6 ra6 rb6 ra6' rb6'
  go_upto_region 22 with fail
  go_region_held3 (fun W => W.cell? ⟨w.heap.size + 1 + 1, 1, none⟩ = some (.int .i64 o) ∧ W.cell? ⟨w.heap.size + 1 + 1, 2, none⟩ = some (.int .i64 f) ∧ W.cell? ⟨w.heap.size + 1 + 1, 3, none⟩ = some (.int .i64 q) ∧ W.cell? ⟨v.heap.size, 3, none⟩ = some (.pointer (some ⟨w4.heap.size, 0, none⟩)) ∧ W.cell? ⟨v.heap.size, 4, none⟩ = some (.bool y.ch) ∧ W.cell? ⟨v.heap.size, 5, none⟩ = some (.slice a y.s.length c) ∧ W.cell? ⟨v.heap.size, 6, none⟩ = some (.slice b y.d.length kk) ∧ W.cell? ⟨w4.heap.size, 0, none⟩ = some (.bool x.ch) ∧ W.cell? ⟨w4.heap.size, 1, none⟩ = some (.slice a' x.s.length c') ∧ W.cell? ⟨w4.heap.size, 2, none⟩ = some (.slice b' x.d.length kk'))
    (first | (with_reducible assumption) | (exact held10 hb8 (by with_reducible assumption)) | (exact held10 hb9 (by with_reducible assumption)) | (exact held10_set l1 l2 l3 (by with_reducible assumption)) | go_keep)
    (first
      | (go_at_call 91; refine (h1.out _ a' c' b' kk' a c b kk hCk.out ra8'.out rb8'.out ra8.out rb8.out).mono ?_; intro en w8 hp; obtain ⟨a5, c5, b5, k5, rfl, r1, r2, f1, f2, -, hb8⟩ := hp.is_ok rfl; clear hp)
      | (go_at_call 90; refine (must_any z.ch a5 z.s.length c5 b5 z.d.length k5 _).mono ?_; rintro en w9 ⟨rfl, hb9⟩; have B9 := (B7.out.same (hb8.block _ (by have := sv.out; have := hs4.out; have := hs7.out; show w.heap.size + 1 < w7.heap.size; omega))).same (hb9.block _ (by have := sv.out; have := hs4.out; have := hs7.out; have : w7.heap.size ≤ w8.heap.size := hb8.size; omega)); obtain ⟨t0, u0⟩ := B9 0 _ rfl; obtain ⟨t1, u1⟩ := B9 1 _ rfl; obtain ⟨t2, u2⟩ := B9 2 _ rfl; clear B9))
  have hs8 : w7.heap.size ≤ w8.heap.size := hb8.size
  have F9 := Lib.hid (((F7.out.drewN 1).step hb8).step hb9)
  have r19 := Lib.hid (r1.below hb9)
  have r29 := Lib.hid (r2.below hb9)
  replace f1 := Lib.hid f1
  replace f2 := Lib.hid f2
  clear SS r1 r2 hb8 hb9 y1 x1
  go_wp2
  refine bodyPost_ret (v := arrV z.ch a5 z.s.length c5 b5 z.d.length k5) (by simp [results, Tryz.results68, go_sem, cell?_set_same, arrV, t0, t1, t2]) rfl ?_
  refine ⟨a5, c5, b5, k5, rfl, r19.out.but (But.set3 _ _ _ _ _ _) (fun _ p e => ?_), r29.out.but (But.set3 _ _ _ _ _ _) (fun _ p e => ?_), f1.out.out F7.out.le, f2.out.out F7.out.le, ((F9.out.setNew (by omega) _ _).setNew (by omega) _ _).setNew (by omega) _ _⟩
  · have h1 : w7.heap.size ≤ p.block := f1.out p e
    have := sv.out
    have := hs4.out
    have := hs7.out
    omega
  · have h1 : w7.heap.size ≤ p.block := f2.out p e
    have := sv.out
    have := hs4.out
    have := hs7.out
    omega
theorem acted_two (env : ByteArray → Option Arr) (o f q : Int) (l r : Ex) (x y z : Arr) (hlv : ValOk env l x) (hr : ValOk env r y) (hpl : l.plain) (ho : 0 ≤ o ∧ o < 6) (h1 : Two1 o f q x y z) : ActOk env (.two l o f q r) z :=
  acted_twoC (fun _ => True) env o f q l r x y z hlv hr.any hpl ho fun w a c b k a' c' b' k' _ => h1 w a c b k a' c' b' k'
end Go.Proofs.YtaplaoelamnoiaaGreatDoor

/- The call eval.value, by what the expression's parts are worth. Condition: the evaluation and the tree lie. -/
namespace Go.Proofs.YtaplaoelamnoiaaGreatDoor
open Go.RowKit

theorem zeroArr (w : World) : (zeroValue 24).run Tryz.prog w = .ok (arrV false none 0 0 none 0 0) w := by kernel_rfl
theorem nameLaw : Go.Maps.Keyed Tryz.prog 9 := Go.Maps.string_keyed Tryz.underlying9
/-- A name's value, looked up. -/
theorem look_any {g mb : Nat} {env : ByteArray → Option Arr} {w : World} (h : EnvAt g mb env w) {s : ByteArray} {x : Arr} (hs : env s = some x) : ∃ (a : Option Addr) (c : Nat) (b : Option Addr) (k : Nat),
    (∀ W : World, W.heap[mb]? = w.heap[mb]? → (Instr.lookup 96 (.map (some mb)) (.string s) true).run Tryz.prog W = .ok (.tuple #[arrV x.ch a x.s.length c b x.d.length k, .bool true]) W) ∧ Row w a x.s ∧ Row w b x.d ∧ Low g a x.s ∧ Low g b x.d ∧ x.d.length ≤ k := by
  obtain ⟨-, n, D, ho, he⟩ := h
  obtain ⟨hz, a, c, b, k, h2, h3, h4, h5, h6, h7, h8⟩ := he s x hs
  refine ⟨a, c, b, k, fun W hW => ?_, h4, h5, h6, h7, h8⟩
  have hoW : W.ownsMap Tryz.prog 9 heldElem mb n D := by
    obtain ⟨es, clock, hm, hF, hs', hD⟩ := ho
    exact ⟨es, clock, hW.trans hm, hF, hs', hD⟩
  obtain ⟨v, ps, hrun, hv⟩ := hoW.look_ok nameLaw Tryz.underlying96 (zeroArr W) (R := heldElem) (zd := .held (arrV false none 0 0 none 0 0)) (zp := []) rfl (key := .string s) (Go.WideMaps.keyOf_string_mk Tryz.underlying9 hz)
  rw [h3] at hrun
  have e : v = arrV x.ch a x.s.length c b x.d.length k := by
    have h := h2 (.held (arrV false none 0 0 none 0 0))
    rw [h] at hv
    simp only [heldElem, Option.some.injEq, Prod.mk.injEq, DataW.held.injEq] at hv
    exact hv.1
  rw [e] at hrun
  exact hrun

set_option maxRecDepth 20000 in
set_option maxHeartbeats 4000000 in
theorem value_one (env : ByteArray → Option Arr) (o f q : Int) (r : Ex) (x : Arr) (ha : ActOk env (.one o f q r) x) : ValOk env (.one o f q r) x := by
  intro g mb tb tc fuel T pre post w hE hsp hl hst hf
  have hnode : T[pre.length]? = some (⟨6, o, f, q, 0, [], ⟨#[]⟩⟩ : Nd) := by rw [hsp, List.getElem?_append_right (Nat.le_refl _), Nat.sub_self]; rfl
  obtain ⟨a0, cc, c0, c1, c2, c3, c4, c5, c6, rn, on⟩ := ((hE.alloc (.cells #[.slice none 0 0, .int .i64 0, .int .i64 0, .pointer none, .bool false, .slice none 0 0, .slice none 0 0, .int .i64 0, .pointer (some ⟨g, 0, none⟩)] 101)).alloc (.cells #[.bool false, .slice none 0 0, .slice none 0 0] 24)).nodes.2 _ _ hnode
  have hlt : pre.length < T.length := (List.getElem?_eq_some_iff.1 hnode).1
  obtain ⟨k, hk⟩ : ∃ k, k = pre.length := ⟨_, rfl⟩
  dsimp only [List.length_nil] at c0 c1 c2 c3 c4 c5 c6
  have ka : ∀ W, EvAt g mb tb T env fuel W W → Calls Tryz.prog 68 #[callV g, .slice (some ⟨tb, 0, none⟩) T.length tc, .int .i64 (k : Int)] W fun en w' => ValPost x g mb tb T env (fuel - M.steps (.one o f q r)) W en w' := fun W hW => by rw [hk]; exact ha g mb tb tc fuel T pre post W hW hsp hl hst hf
  rw [← hk] at c0 c1 c2 c3 c4 c5 c6 hlt
  rw [← hk]
  have hk4 : k ≤ 1000 := by omega
  obtain ⟨nl, hnl⟩ : ∃ nl, nl = T.length := ⟨_, rfl⟩
  rw [← hnl] at hlt ka
  rw [← hnl]
  have z0 : (0 : Int) ≤ ((k : Nat) : Int) := by omega
  have z1 : ((k : Nat) : Int) < ((nl : Nat) : Int) := by omega
  have zz : ((k : Nat) : Int).toNat = k := by simp
  have hB := ((hE.alloc (.cells #[.slice none 0 0, .int .i64 0, .int .i64 0, .pointer none, .bool false, .slice none 0 0, .slice none 0 0, .int .i64 0, .pointer (some ⟨g, 0, none⟩)] 101)).alloc (.cells #[.bool false, .slice none 0 0, .slice none 0 0] 24)).alloc (.cells #[.int .i64 6, .int .i64 o, .int .i64 f, .int .i64 q, .int .i64 0, .slice a0 0 cc, .string ⟨#[]⟩] 76)
  obtain ⟨W, hW⟩ : ∃ W : World, W = ((w.alloc (.cells #[.slice none 0 0, .int .i64 0, .int .i64 0, .pointer none, .bool false, .slice none 0 0, .slice none 0 0, .int .i64 0, .pointer (some ⟨g, 0, none⟩)] 101)).alloc (.cells #[.bool false, .slice none 0 0, .slice none 0 0] 24)).alloc (.cells #[.int .i64 6, .int .i64 o, .int .i64 f, .int .i64 q, .int .i64 0, .slice a0 0 cc, .string ⟨#[]⟩] 76) := ⟨_, rfl⟩
  rw [← hW] at hB
  obtain ⟨bA, bB, bC, sW⟩ := three_boxes _ _ _ _ _ _ _ W hW
  have gl := hE.glt
  replace bA := Lib.hid bA
  replace bB := Lib.hid bB
  replace bC := Lib.hid bC
  replace sW := Lib.hid sW
  have hW' := Lib.hid hW.symm
  replace hW := Lib.hid hW
  replace hE := Lib.hid hE
  replace hnl := Lib.hid hnl
  replace hk := Lib.hid hk
  replace hB := Lib.hid hB
  replace on := Lib.hid on
  replace rn := Lib.hid rn
  replace ka := Lib.hid ka
  generalize fuel - M.steps (.one o f q r) = F at *
  have C0 := bC.out 0 _ rfl
  clear hst hf hl hsp hnode ha
  obtain ⟨p0, -⟩ := bA.out 0 _ rfl
  obtain ⟨p1, -⟩ := bA.out 1 _ rfl
  obtain ⟨p2, -⟩ := bA.out 2 _ rfl
  obtain ⟨p3, -⟩ := bA.out 3 _ rfl
  obtain ⟨p4, -⟩ := bA.out 4 _ rfl
  obtain ⟨p5, -⟩ := bA.out 5 _ rfl
  obtain ⟨p6, -⟩ := bA.out 6 _ rfl
  obtain ⟨p7, -⟩ := bA.out 7 _ rfl
  obtain ⟨p8, -⟩ := bA.out 8 _ rfl
  clear C0
  rw [hW.out] at p0 p1 p2 p3 p4 p5 p6 p7 p8
  unfold callV
  go_enter Tryz.func41, Tryz.ntmps41
  go_wp2_with fail
  rw [hW'.out]
  refine (ka.out _ hB.out.self).mono ?_
  rintro en w2 ⟨a, c, b, kk, rfl, ra, rb, oa, ob, E2⟩
  clear c0 c1 c2 c3 c4 c5 c6 p0 p1 p2 p3 p4 p5 p6 p7 p8
  have B2 := bB.out.but E2.2.2.1 (by have := sW.out; omega) (by omega)
  have F2 := Lib.hid (hB.out.trans E2)
  have oa1 : Hid (Off (w.heap.size + 1) a x.s) := Lib.hid (oa.off (by omega) (by have := sW.out; omega))
  have ob1 : Hid (Off (w.heap.size + 1) b x.d) := Lib.hid (ob.off (by omega) (by have := sW.out; omega))
  have oa2 : Hid (Out g w.heap.size a x.s) := Lib.hid (oa.mono hB.out.le)
  have ob2 : Hid (Out g w.heap.size b x.d) := Lib.hid (ob.mono hB.out.le)
  replace ra := Lib.hid ra
  replace rb := Lib.hid rb
  clear oa ob E2
  obtain ⟨t0, u0⟩ := B2 0 _ rfl
  obtain ⟨t1, u1⟩ := B2 1 _ rfl
  obtain ⟨t2, u2⟩ := B2 2 _ rfl
  clear B2
  go_wp2
  refine bodyPost_ret (v := arrV x.ch a x.s.length c b x.d.length kk) (by simp [results, Tryz.results41, go_sem, cell?_set_same, arrV, t0, t1, t2]) rfl ?_
  exact ⟨a, c, b, kk, rfl, ra.out.but (But.set3 _ _ _ _ _ _) oa1.out, rb.out.but (But.set3 _ _ _ _ _ _) ob1.out, oa2.out, ob2.out, ((F2.out.setNew (by omega) _ _).setNew (by omega) _ _).setNew (by omega) _ _⟩

set_option maxRecDepth 20000 in
set_option maxHeartbeats 4000000 in
theorem value_two (env : ByteArray → Option Arr) (l : Ex) (o f q : Int) (r : Ex) (x : Arr) (ha : ActOk env (.two l o f q r) x) : ValOk env (.two l o f q r) x := by
  intro g mb tb tc fuel T pre post w hE hsp hl hst hf
  have hnode : T[pre.length]? = some (⟨7, o, f, q, 0, [], ⟨#[]⟩⟩ : Nd) := by rw [hsp, List.getElem?_append_right (Nat.le_refl _), Nat.sub_self]; rfl
  obtain ⟨a0, cc, c0, c1, c2, c3, c4, c5, c6, rn, on⟩ := ((hE.alloc (.cells #[.slice none 0 0, .int .i64 0, .int .i64 0, .pointer none, .bool false, .slice none 0 0, .slice none 0 0, .int .i64 0, .pointer (some ⟨g, 0, none⟩)] 101)).alloc (.cells #[.bool false, .slice none 0 0, .slice none 0 0] 24)).nodes.2 _ _ hnode
  have hlt : pre.length < T.length := (List.getElem?_eq_some_iff.1 hnode).1
  obtain ⟨k, hk⟩ : ∃ k, k = pre.length := ⟨_, rfl⟩
  dsimp only [List.length_nil] at c0 c1 c2 c3 c4 c5 c6
  have ka : ∀ W, EvAt g mb tb T env fuel W W → Calls Tryz.prog 68 #[callV g, .slice (some ⟨tb, 0, none⟩) T.length tc, .int .i64 (k : Int)] W fun en w' => ValPost x g mb tb T env (fuel - M.steps (.two l o f q r)) W en w' := fun W hW => by rw [hk]; exact ha g mb tb tc fuel T pre post W hW hsp hl hst hf
  rw [← hk] at c0 c1 c2 c3 c4 c5 c6 hlt
  rw [← hk]
  have hk4 : k ≤ 1000 := by omega
  obtain ⟨nl, hnl⟩ : ∃ nl, nl = T.length := ⟨_, rfl⟩
  rw [← hnl] at hlt ka
  rw [← hnl]
  have z0 : (0 : Int) ≤ ((k : Nat) : Int) := by omega
  have z1 : ((k : Nat) : Int) < ((nl : Nat) : Int) := by omega
  have zz : ((k : Nat) : Int).toNat = k := by simp
  have hB := ((hE.alloc (.cells #[.slice none 0 0, .int .i64 0, .int .i64 0, .pointer none, .bool false, .slice none 0 0, .slice none 0 0, .int .i64 0, .pointer (some ⟨g, 0, none⟩)] 101)).alloc (.cells #[.bool false, .slice none 0 0, .slice none 0 0] 24)).alloc (.cells #[.int .i64 7, .int .i64 o, .int .i64 f, .int .i64 q, .int .i64 0, .slice a0 0 cc, .string ⟨#[]⟩] 76)
  obtain ⟨W, hW⟩ : ∃ W : World, W = ((w.alloc (.cells #[.slice none 0 0, .int .i64 0, .int .i64 0, .pointer none, .bool false, .slice none 0 0, .slice none 0 0, .int .i64 0, .pointer (some ⟨g, 0, none⟩)] 101)).alloc (.cells #[.bool false, .slice none 0 0, .slice none 0 0] 24)).alloc (.cells #[.int .i64 7, .int .i64 o, .int .i64 f, .int .i64 q, .int .i64 0, .slice a0 0 cc, .string ⟨#[]⟩] 76) := ⟨_, rfl⟩
  rw [← hW] at hB
  obtain ⟨bA, bB, bC, sW⟩ := three_boxes _ _ _ _ _ _ _ W hW
  have gl := hE.glt
  replace bA := Lib.hid bA
  replace bB := Lib.hid bB
  replace bC := Lib.hid bC
  replace sW := Lib.hid sW
  have hW' := Lib.hid hW.symm
  replace hW := Lib.hid hW
  replace hE := Lib.hid hE
  replace hnl := Lib.hid hnl
  replace hk := Lib.hid hk
  replace hB := Lib.hid hB
  replace on := Lib.hid on
  replace rn := Lib.hid rn
  replace ka := Lib.hid ka
  generalize fuel - M.steps (.two l o f q r) = F at *
  have C0 := bC.out 0 _ rfl
  clear hst hf hl hsp hnode ha
  obtain ⟨p0, -⟩ := bA.out 0 _ rfl
  obtain ⟨p1, -⟩ := bA.out 1 _ rfl
  obtain ⟨p2, -⟩ := bA.out 2 _ rfl
  obtain ⟨p3, -⟩ := bA.out 3 _ rfl
  obtain ⟨p4, -⟩ := bA.out 4 _ rfl
  obtain ⟨p5, -⟩ := bA.out 5 _ rfl
  obtain ⟨p6, -⟩ := bA.out 6 _ rfl
  obtain ⟨p7, -⟩ := bA.out 7 _ rfl
  obtain ⟨p8, -⟩ := bA.out 8 _ rfl
  clear C0
  rw [hW.out] at p0 p1 p2 p3 p4 p5 p6 p7 p8
  unfold callV
  go_enter Tryz.func41, Tryz.ntmps41
  go_wp2_with fail
  rw [hW'.out]
  refine (ka.out _ hB.out.self).mono ?_
  rintro en w2 ⟨a, c, b, kk, rfl, ra, rb, oa, ob, E2⟩
  clear c0 c1 c2 c3 c4 c5 c6 p0 p1 p2 p3 p4 p5 p6 p7 p8
  have B2 := bB.out.but E2.2.2.1 (by have := sW.out; omega) (by omega)
  have F2 := Lib.hid (hB.out.trans E2)
  have oa1 : Hid (Off (w.heap.size + 1) a x.s) := Lib.hid (oa.off (by omega) (by have := sW.out; omega))
  have ob1 : Hid (Off (w.heap.size + 1) b x.d) := Lib.hid (ob.off (by omega) (by have := sW.out; omega))
  have oa2 : Hid (Out g w.heap.size a x.s) := Lib.hid (oa.mono hB.out.le)
  have ob2 : Hid (Out g w.heap.size b x.d) := Lib.hid (ob.mono hB.out.le)
  replace ra := Lib.hid ra
  replace rb := Lib.hid rb
  clear oa ob E2
  obtain ⟨t0, u0⟩ := B2 0 _ rfl
  obtain ⟨t1, u1⟩ := B2 1 _ rfl
  obtain ⟨t2, u2⟩ := B2 2 _ rfl
  clear B2
  go_wp2
  refine bodyPost_ret (v := arrV x.ch a x.s.length c b x.d.length kk) (by simp [results, Tryz.results41, go_sem, cell?_set_same, arrV, t0, t1, t2]) rfl ?_
  exact ⟨a, c, b, kk, rfl, ra.out.but (But.set3 _ _ _ _ _ _) oa1.out, rb.out.but (But.set3 _ _ _ _ _ _) ob1.out, oa2.out, ob2.out, ((F2.out.setNew (by omega) _ _).setNew (by omega) _ _).setNew (by omega) _ _⟩

set_option maxRecDepth 20000 in
set_option maxHeartbeats 4000000 in
theorem value_nums (env : ByteArray → Option Arr) (l : List Int) (hl0 : l ≠ []) (hl1 : l.length ≤ 1000) : ValOk env (.nums l) (numsA l) := by
  intro g mb tb tc fuel T pre post w hE hsp hl hst hf
  generalize hx : numsA l = x
  replace hx := Lib.hid hx
  have hnode : T[pre.length]? = some (⟨1, 0, 0, 0, 0, l, ⟨#[]⟩⟩ : Nd) := by rw [hsp, List.getElem?_append_right (Nat.le_refl _), Nat.sub_self]; rfl
  obtain ⟨a0, cc, c0, c1, c2, c3, c4, c5, c6, rn, on⟩ := ((hE.alloc (.cells #[.slice none 0 0, .int .i64 0, .int .i64 0, .pointer none, .bool false, .slice none 0 0, .slice none 0 0, .int .i64 0, .pointer (some ⟨g, 0, none⟩)] 101)).alloc (.cells #[.bool false, .slice none 0 0, .slice none 0 0] 24)).nodes.2 _ _ hnode
  have hlt : pre.length < T.length := (List.getElem?_eq_some_iff.1 hnode).1
  obtain ⟨k, hk⟩ : ∃ k, k = pre.length := ⟨_, rfl⟩
  rw [← hk] at c0 c1 c2 c3 c4 c5 c6 hlt
  rw [← hk]
  have hk4 : k ≤ 1000 := by omega
  obtain ⟨nl, hnl⟩ : ∃ nl, nl = T.length := ⟨_, rfl⟩
  rw [← hnl] at hlt
  rw [← hnl]
  have z0 : (0 : Int) ≤ ((k : Nat) : Int) := by omega
  have z1 : ((k : Nat) : Int) < ((nl : Nat) : Int) := by omega
  have zz : ((k : Nat) : Int).toNat = k := by simp
  have hB := ((hE.alloc (.cells #[.slice none 0 0, .int .i64 0, .int .i64 0, .pointer none, .bool false, .slice none 0 0, .slice none 0 0, .int .i64 0, .pointer (some ⟨g, 0, none⟩)] 101)).alloc (.cells #[.bool false, .slice none 0 0, .slice none 0 0] 24)).alloc (.cells #[.int .i64 1, .int .i64 0, .int .i64 0, .int .i64 0, .int .i64 0, .slice a0 l.length cc, .string ⟨#[]⟩] 76)
  obtain ⟨W, hW⟩ : ∃ W : World, W = ((w.alloc (.cells #[.slice none 0 0, .int .i64 0, .int .i64 0, .pointer none, .bool false, .slice none 0 0, .slice none 0 0, .int .i64 0, .pointer (some ⟨g, 0, none⟩)] 101)).alloc (.cells #[.bool false, .slice none 0 0, .slice none 0 0] 24)).alloc (.cells #[.int .i64 1, .int .i64 0, .int .i64 0, .int .i64 0, .int .i64 0, .slice a0 l.length cc, .string ⟨#[]⟩] 76) := ⟨_, rfl⟩
  rw [← hW] at hB
  obtain ⟨bA, bB, bC, sW⟩ := three_boxes _ _ _ _ _ _ _ W hW
  have gl := hE.glt
  replace bA := Lib.hid bA
  replace bB := Lib.hid bB
  replace bC := Lib.hid bC
  replace sW := Lib.hid sW
  have hW' := Lib.hid hW.symm
  replace hW := Lib.hid hW
  replace hE := Lib.hid hE
  replace hnl := Lib.hid hnl
  replace hk := Lib.hid hk
  replace hB := Lib.hid hB
  replace on := Lib.hid on
  replace rn := Lib.hid rn
  have st : fuel = (fuel - M.steps (.nums l)) + 1 := by simp only [M.steps] at hst ⊢; omega
  have hst2 : fuel - M.steps (.nums l) < 20000 := by simp only [M.steps] at hst ⊢; omega
  generalize fuel - M.steps (.nums l) = F at *
  subst st
  clear hst hf hl hsp hnode
  obtain ⟨p8, -⟩ := bA.out 8 _ rfl
  rw [hW.out] at p8
  unfold callV
  go_enter Tryz.func41, Tryz.ntmps41
  go_wp2_with fail
  rw [hW'.out]
  refine (step_any g mb tb T env F _ hB.out.self hst2).mono ?_
  rintro en w2 ⟨rfl, E2⟩
  clear c0 c1 c2 c3 c4 c5 c6 p8
  have B2 := bB.out.but E2.2.2.1 (by have := sW.out; omega) (by omega)
  have C2 := bC.out.but E2.2.2.1 (by have := sW.out; omega) (by omega)
  have A2 := bA.out.but E2.2.2.1 (by have := sW.out; omega) (by omega)
  have F2 := Lib.hid (hB.out.trans E2)
  have sw2 : Hid (w.heap.size + 1 + 1 < w2.heap.size) := Lib.hid (C2.lt 0 _ rfl)
  have rn0 : Row w2 a0 l := rn.out.but (fun b hb hne => (E2.2.2.1 b (by have := sW.out; simp only [World.size_alloc] at hb; omega) hne).trans (by rw [hW.out]; exact heap_alloc_old _ _ hb)) on.out
  have kn : Hid (Calls Tryz.prog 70 #[.slice a0 l.length cc] w2 fun en w' => VecPostF x w2 en w') := Lib.hid (by have h := nums_any a0 l.length cc l w2 rn0 rfl hl1; rw [hx.out] at h; exact h)
  have hle := F2.out.le
  clear E2 A2 rn0
  obtain ⟨y0, x0⟩ := C2 0 _ rfl
  obtain ⟨y5, x5⟩ := C2 5 _ rfl
  replace B2 := Lib.hid B2
  obtain ⟨L, hL⟩ : ∃ L, L = l.length := ⟨_, rfl⟩
  rw [← hL] at kn y5
  replace hL := Lib.hid hL
  clear hl1 hl0 x0 x5 C2
  go_wp2_with fail
  refine kn.out.mono ?_
  rintro en w3 ⟨a, c, b, kk, rfl, ra, rb, fa, fb, -, hb3⟩
  clear y0 y5
  have B3 := B2.out.same (hb3.block _ (by have := sw2.out; omega))
  have F3 := Lib.hid (F2.out.step hb3)
  replace ra := Lib.hid ra
  replace rb := Lib.hid rb
  replace fa := Lib.hid fa
  replace fb := Lib.hid fb
  clear hb3
  obtain ⟨t0, u0⟩ := B3 0 _ rfl
  obtain ⟨t1, u1⟩ := B3 1 _ rfl
  obtain ⟨t2, u2⟩ := B3 2 _ rfl
  clear B3
  go_wp2
  refine bodyPost_ret (v := arrV x.ch a x.s.length c b x.d.length kk) (by simp [results, Tryz.results41, go_sem, cell?_set_same, arrV, t0, t1, t2]) rfl ?_
  refine ⟨a, c, b, kk, rfl, ra.out.but (But.set3 _ _ _ _ _ _) (fun _ p e => ?_), rb.out.but (But.set3 _ _ _ _ _ _) (fun _ p e => ?_), fa.out.out hle, fb.out.out hle, ((F3.out.setNew (by omega) _ _).setNew (by omega) _ _).setNew (by omega) _ _⟩
  · have h1 := fa.out p e
    have := sw2.out
    omega
  · have h1 := fb.out p e
    have := sw2.out
    omega

set_option maxRecDepth 20000 in
set_option maxHeartbeats 4000000 in
theorem value_nameC (env : ByteArray → Option Arr) (s : ByteArray) (x : Arr) (hs : env s = some x) : ValOkC (fun k => x.d.length ≤ k) env (.name s) x := by
  intro g mb tb tc fuel T pre post w hE hsp hl hst hf
  have hnode : T[pre.length]? = some (⟨3, 0, 0, 0, 0, [], s⟩ : Nd) := by rw [hsp, List.getElem?_append_right (Nat.le_refl _), Nat.sub_self]; rfl
  obtain ⟨a0, cc, c0, c1, c2, c3, c4, c5, c6, rn, on⟩ := ((hE.alloc (.cells #[.slice none 0 0, .int .i64 0, .int .i64 0, .pointer none, .bool false, .slice none 0 0, .slice none 0 0, .int .i64 0, .pointer (some ⟨g, 0, none⟩)] 101)).alloc (.cells #[.bool false, .slice none 0 0, .slice none 0 0] 24)).nodes.2 _ _ hnode
  have hlt : pre.length < T.length := (List.getElem?_eq_some_iff.1 hnode).1
  obtain ⟨k, hk⟩ : ∃ k, k = pre.length := ⟨_, rfl⟩
  dsimp only [List.length_nil] at c0 c1 c2 c3 c4 c5 c6
  rw [← hk] at c0 c1 c2 c3 c4 c5 c6 hlt
  rw [← hk]
  have hk4 : k ≤ 1000 := by omega
  obtain ⟨nl, hnl⟩ : ∃ nl, nl = T.length := ⟨_, rfl⟩
  rw [← hnl] at hlt
  rw [← hnl]
  have z0 : (0 : Int) ≤ ((k : Nat) : Int) := by omega
  have z1 : ((k : Nat) : Int) < ((nl : Nat) : Int) := by omega
  have zz : ((k : Nat) : Int).toNat = k := by simp
  have hB := ((hE.alloc (.cells #[.slice none 0 0, .int .i64 0, .int .i64 0, .pointer none, .bool false, .slice none 0 0, .slice none 0 0, .int .i64 0, .pointer (some ⟨g, 0, none⟩)] 101)).alloc (.cells #[.bool false, .slice none 0 0, .slice none 0 0] 24)).alloc (.cells #[.int .i64 3, .int .i64 0, .int .i64 0, .int .i64 0, .int .i64 0, .slice a0 0 cc, .string s] 76)
  obtain ⟨W, hW⟩ : ∃ W : World, W = ((w.alloc (.cells #[.slice none 0 0, .int .i64 0, .int .i64 0, .pointer none, .bool false, .slice none 0 0, .slice none 0 0, .int .i64 0, .pointer (some ⟨g, 0, none⟩)] 101)).alloc (.cells #[.bool false, .slice none 0 0, .slice none 0 0] 24)).alloc (.cells #[.int .i64 3, .int .i64 0, .int .i64 0, .int .i64 0, .int .i64 0, .slice a0 0 cc, .string s] 76) := ⟨_, rfl⟩
  rw [← hW] at hB
  obtain ⟨bA, bB, bC, sW⟩ := three_boxes _ _ _ _ _ _ _ W hW
  have gl := hE.glt
  replace bA := Lib.hid bA
  replace bB := Lib.hid bB
  replace bC := Lib.hid bC
  replace sW := Lib.hid sW
  have hW' := Lib.hid hW.symm
  replace hW := Lib.hid hW
  replace hE := Lib.hid hE
  replace hnl := Lib.hid hnl
  replace hk := Lib.hid hk
  replace hB := Lib.hid hB
  replace on := Lib.hid on
  replace rn := Lib.hid rn
  have st : fuel = (fuel - M.steps (.name s)) + 1 := by simp only [M.steps] at hst ⊢; omega
  have hst2 : fuel - M.steps (.name s) < 20000 := by simp only [M.steps] at hst ⊢; omega
  generalize fuel - M.steps (.name s) = F at *
  subst st
  clear hst hf hl hsp hnode
  obtain ⟨p8, -⟩ := bA.out 8 _ rfl
  rw [hW.out] at p8
  unfold callV
  go_enter Tryz.func41, Tryz.ntmps41
  go_wp2_with fail
  rw [hW'.out]
  refine (step_any g mb tb T env F _ hB.out.self hst2).mono ?_
  rintro en w2 ⟨rfl, E2⟩
  clear c0 c1 c2 c3 c4 c5 c6 p8
  have B2 := bB.out.but E2.2.2.1 (by have := sW.out; omega) (by omega)
  have C2 := bC.out.but E2.2.2.1 (by have := sW.out; omega) (by omega)
  have A2 := bA.out.but E2.2.2.1 (by have := sW.out; omega) (by omega)
  have F2 := Lib.hid (hB.out.trans E2)
  have sw2 : Hid (w.heap.size + 1 + 1 < w2.heap.size) := Lib.hid (C2.lt 0 _ rfl)
  obtain ⟨a, c, b, kk, hlook, ra, rb, la, lb, hkk⟩ := look_any F2.out.names hs
  replace hkk := Lib.hid hkk
  obtain ⟨⟨g0, -⟩, -⟩ := F2.out.1
  have hmb : mb < w2.heap.size := by
    obtain ⟨-, n, D, ⟨es, clock, hm, -⟩, -⟩ := F2.out.names
    exact (Array.getElem?_eq_some_iff.1 hm).1
  have k0 := hlook w2 rfl
  have k2 := hlook w2.drew rfl
  have k3 : ∀ o : Obj, (Instr.lookup 96 (.map (some mb)) (.string s) true).run Tryz.prog (w2.alloc o).drew = .ok (.tuple #[arrV x.ch a x.s.length c b x.d.length kk, .bool true]) (w2.alloc o).drew := fun o => hlook _ (heap_alloc_old _ _ hmb)
  have k1 : ∀ o : Obj, (Instr.lookup 96 (.map (some mb)) (.string s) true).run Tryz.prog (w2.alloc o) = .ok (.tuple #[arrV x.ch a x.s.length c b x.d.length kk, .bool true]) (w2.alloc o) := fun o => hlook _ (heap_alloc_old _ _ hmb)
  have hle := F2.out.le
  obtain ⟨p8, -⟩ := A2 8 _ rfl
  obtain ⟨y0, x0⟩ := C2 0 _ rfl
  obtain ⟨y6, x6⟩ := C2 6 _ rfl
  have nA : w.heap.size < w2.heap.size := by have := sw2.out; omega
  have nC := sw2.out
  have ng : g < w2.heap.size := by omega
  have j8 : ∀ o : Obj, (w2.alloc o).cell? ⟨w.heap.size, 8, none⟩ = some (.pointer (some ⟨g, 0, none⟩)) := fun o => (cell_of_eq (heap_alloc_old _ _ nA) _).trans p8
  have j6 : ∀ o : Obj, (w2.alloc o).cell? ⟨w.heap.size + 1 + 1, 6, none⟩ = some (.string s) := fun o => (cell_of_eq (heap_alloc_old _ _ nC) _).trans y6
  have j0 : ∀ o : Obj, (w2.alloc o).cell? ⟨g, 0, none⟩ = some (.map (some mb)) := fun o => (cell_of_eq (heap_alloc_old _ _ ng) _).trans g0
  replace B2 := Lib.hid B2
  replace ra := Lib.hid ra
  replace rb := Lib.hid rb
  replace la := Lib.hid la
  replace lb := Lib.hid lb
  clear E2 A2 C2 hlook hs
  go_upto_region 20 with fail
  go_region
  have hb4 := ((Below.refl w2.heap.size w2).alloc (Nat.le_refl _) (.cells #[.bool x.ch, .slice a x.s.length c, .slice b x.d.length kk] 24)).drew
  have R4 : BoxC w2.heap.size [.bool x.ch, .slice a x.s.length c, .slice b x.d.length kk] (w2.alloc (.cells #[.bool x.ch, .slice a x.s.length c, .slice b x.d.length kk] 24)).drew := (boxC_alloc w2 #[.bool x.ch, .slice a x.s.length c, .slice b x.d.length kk] 24).same rfl
  have B4 := B2.out.same (hb4.block _ (by omega))
  have F4 := Lib.hid (F2.out.step hb4)
  have ra4 := Lib.hid (ra.out.below hb4)
  have rb4 := Lib.hid (rb.out.below hb4)
  clear j8 j6 j0 k0 k1 k2 k3 p8 y0 y6 x0 x6 g0 hb4 ra rb F2 B2
  generalize (w2.alloc (.cells #[.bool x.ch, .slice a x.s.length c, .slice b x.d.length kk] 24)).drew = w4 at *
  obtain ⟨r0, -⟩ := R4 0 _ rfl
  obtain ⟨r1, -⟩ := R4 1 _ rfl
  obtain ⟨r2, -⟩ := R4 2 _ rfl
  obtain ⟨t0, u0⟩ := B4 0 _ rfl
  obtain ⟨t1, u1⟩ := B4 1 _ rfl
  obtain ⟨t2, u2⟩ := B4 2 _ rfl
  clear R4 B4
  go_wp2
  refine bodyPost_ret (v := arrV x.ch a x.s.length c b x.d.length kk) (by simp [results, Tryz.results41, go_sem, cell?_set_same, arrV, t0, t1, t2]) rfl ?_
  exact ⟨a, c, b, kk, hkk.out, rfl, ra4.out.but (But.set3 _ _ _ _ _ _) (la.out.out.off (by omega) (Nat.lt_succ_self _)), rb4.out.but (But.set3 _ _ _ _ _ _) (lb.out.out.off (by omega) (Nat.lt_succ_self _)), la.out.out, lb.out.out, ((F4.out.setNew (by omega) _ _).setNew (by omega) _ _).setNew (by omega) _ _⟩

theorem value_name (env : ByteArray → Option Arr) (s : ByteArray) (x : Arr) (hs : env s = some x) : ValOk env (.name s) x := (value_nameC env s x hs).plain

/-- An expression without indices has its worth, if it is plain. -/
theorem val_ok (env : ByteArray → Option Arr) (hpick : ∀ (e b : Ex) (x y z : Arr), ValOk env e x → ValOk env b y → e.plain → b.plain → Pick1 x y z → ValOk env (.pick e b) z) : ∀ (e : Ex) (x : Arr), Ev env e x → e.plain → ValOk env e x := by
  intro e x h
  induction h with
  | nums l h0 h1 => intro _; exact value_nums env l h0 h1
  | name s x h => intro _; exact value_name env s x h
  | one o f g r x y h ho h1 ih => intro hp; exact value_one env o f g r y (acted_one env o f g r x y (ih hp.2) ho h1)
  | two o f g l r x y z hl hr ho h2 ihl ihr => intro hp; exact value_two env l o f g r z (acted_two env o f g l r x y z (ihl hp.2.1) (ihr hp.2.2) hp.2.1 ho h2)
  | pick e b x y z he hb h ihe ihb => intro hp; exact hpick e b x y z (ihe hp.1) (ihb hp.2) hp.1 hp.2 h
end Go.Proofs.YtaplaoelamnoiaaGreatDoor
