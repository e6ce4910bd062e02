/- Texts that lie in one file: what is plain, rows, boxes, squares, and what is known of a world. No condition. -/
import Derived.Test.YtaplaoelamnoiaaGreatDoorBd12
import Derived.Test.YtaplaoelamnoiaaGreatDoorWkClone
import Derived.Test.YtaplaoelamnoiaaGreatDoorBd02
/- The evaluation's steps, values without errors, numbers as arrays. Condition: the evaluation lies. -/
namespace Go.Proofs.YtaplaoelamnoiaaGreatDoor
open Go.RowKit

set_option maxRecDepth 20000 in
set_option maxHeartbeats 4000000 in
theorem step_any (g mb tb : Nat) (T : List Nd) (env : ByteArray → Option Arr) (fuel : Nat) (w : World) (h : EvAt g mb tb T env (fuel + 1) w w) (hf : fuel < 20000) :
    Calls Tryz.prog 42 #[.pointer (some ⟨g, 0, none⟩)] w fun en w' => en = .returned (.tuple #[]) ∧ EvAt g mb tb T env fuel w w' := by
  obtain ⟨⟨c0, c1⟩, f1⟩ := id h.1
  obtain ⟨u, hu⟩ : ∃ u : Int, u = ((fuel + 1 : Nat) : Int) := ⟨_, rfl⟩
  rw [← hu] at c1
  have e1 : decide (u ≤ 0) = false := decide_eq_false (by omega)
  have e2 : u - 1 = ((fuel : Nat) : Int) := by omega
  have b1 : 0 < u := by omega
  have b2 : u ≤ 20000 := by omega
  replace hu := Lib.hid hu
  replace h := Lib.hid h
  replace e2 := Lib.hid e2
  go_enter Tryz.func42, Tryz.ntmps42
  go_wp2
  refine bodyPost_end (results_none rfl _ _ _) rfl ?_
  refine ⟨rfl, ?_⟩
  exact h.out.tick _ (by rw [← e2.out])

set_option maxRecDepth 20000 in
set_option maxHeartbeats 4000000 in
theorem must_any (ch : Bool) (a : Option Addr) (m c : Nat) (b : Option Addr) (n z : Nat) (w : World) :
    Calls Tryz.prog 90 #[arrV ch a m c b n z, .nilIface] w fun en w' => en = .returned (arrV ch a m c b n z) ∧ Below w.heap.size w w' := by
  unfold arrV
  go_enter Tryz.func90, Tryz.ntmps90
  go_wp2
  refine bodyPost_ret (v := .agg #[.bool ch, .slice a m c, .slice b n z]) (by simp [results, Tryz.results90, go_sem, cell?_set_same]) rfl ?_
  exact ⟨rfl, by first | exact push (push (start w) _) _ | exact set3 (push (push (start w) _) _) (by simp) _ _ _⟩

set_option maxRecDepth 20000 in
set_option maxHeartbeats 4000000 in
theorem nums_any (a : Option Addr) (n c : Nat) (l : List Int) (w : World) (h : Row w a l) (hn : n = l.length) (h1 : l.length ≤ 1000) :
    Calls Tryz.prog 70 #[.slice a n c] w fun en w' => VecPostF (numsA l) w en w' := by
  subst hn
  by_cases hl : l.length = 1
  · obtain ⟨x, rfl⟩ := List.length_eq_one_iff.1 hl
    obtain ⟨b, o, rfl, hc⟩ := (h.alloc (.cells #[.bool false, .slice none 0 0, .slice none 0 0] 24)) 0 (by simp)
    have hc : (w.alloc (.cells #[.bool false, .slice none 0 0, .slice none 0 0] 24)).cell? ⟨b, o, none⟩ = some (.int .i64 x) := by simpa using hc
    clear h hl h1
    show Calls Tryz.prog 70 #[.slice (some ⟨b, o, none⟩) 1 c] w fun en w' => VecPostF (numsA [x]) w en w'
    go_enter Tryz.func70, Tryz.ntmps70
    go_wp2
    refine bodyPost_ret (v := arrV false none 0 0 (some ⟨w.heap.size + 1, 0, none⟩) 1 1) (by simp [results, Tryz.results70, go_sem, cell?_set_same, arrV]) rfl ?_
    refine ⟨none, 0, some ⟨w.heap.size + 1, 0, none⟩, 1, rfl, Row.nil _ _, ?_, Fresh.none _, ?_, Nat.le_refl _, ?_⟩
    · exact row_one (by simp [go_sem, cell?_set_same])
    · intro p e; cases e; exact Nat.le_succ _
    · first | exact push (push (start w) _) _ | exact set3 (push (push (start w) _) _) (Nat.le_refl _) _ _ _
  · have e1 : (((l.length : Nat) : Int) == 1) = false := by rw [beq_eq_false_iff_ne]; omega
    have hA : numsA l = ⟨false, [(l.length : Int)], l⟩ := if_neg hl
    have kc := fun W hW => clone_any a l l.length c W hW (by omega) rfl
    have E := (Env.start w).box false none 0 0 none 0 0
    obtain ⟨n, hn⟩ : ∃ n, n = l.length := ⟨_, rfl⟩
    have hA' : numsA l = ⟨false, [(n : Int)], l⟩ := by rw [hA, hn]
    rw [← hn] at e1 kc
    rw [← hn]
    have R := Lib.hid h
    replace hn := Lib.hid hn
    replace kc := Lib.hid kc
    replace hl := Lib.hid hl
    replace hA' := Lib.hid hA'
    clear hA h1 h
    replace E := E.alloc (.cells #[.int .i64 n] 3)
    have E2 := E.addRow (row_one (w := (w.alloc (.cells #[.bool false, .slice none 0 0, .slice none 0 0] 24)).alloc (.cells #[.int .i64 n] 3)) (n := w.heap.size + 1) (x := n) (by simp [go_sem]))
    clear E
    go_enter Tryz.func70, Tryz.ntmps70
    go_wp2_with fail
    refine (kc.out _ (R.out.below E2.bel)).mono ?_
    rintro en w4 ⟨v, rfl, ho, hb⟩
    obtain ⟨a4, c4, rfl, -, -, hr4⟩ := ho.view
    have hf4 : Fresh w a4 := fun p e => by have := own_fresh ho p e; have := E2.bel.size; omega
    have ho4 : Hid (Off w.heap.size a4 l) := Lib.hid fun _ p e => by have := own_fresh ho p e; simp only [World.size_alloc] at this; omega
    replace E2 := E2.step hb
    have hb4 := E2.bel
    have hr := E2.getRow 0 rfl
    obtain ⟨⟨u0, u1, u2⟩, v0, v1, v2⟩ := E2.getBox 1 rfl
    rw [← hn.out]
    replace hr4 := Lib.hid hr4
    replace hf4 := Lib.hid hf4
    replace hb4 := Lib.hid hb4
    replace hr := Lib.hid hr
    clear E2 ho hb
    go_wp2
    refine bodyPost_ret (v := arrV false (some ⟨w.heap.size + 1, 0, none⟩) 1 1 a4 n c4) (by simp [results, Tryz.results70, go_sem, cell?_set_same, arrV, u0, u1, u2]) rfl ?_
    rw [hA'.out]
    refine ⟨some ⟨w.heap.size + 1, 0, none⟩, 1, a4, c4, by rw [hn.out]; rfl, ?_, ?_, ?_, hf4.out, Nat.le_refl _, ?_⟩
    · exact (((hr.out.setFar _ _ (by simp)).setFar _ _ (by simp)).setFar _ _ (by simp))
    · exact hr4.out.but ((((But.refl _ _).set 0 _).set 1 _).set 2 _) ho4.out
    · intro p e; cases e; exact Nat.le_succ _
    · exact set3 hb4.out (Nat.le_refl _) _ _ _
end Go.Proofs.YtaplaoelamnoiaaGreatDoor

/- The call acted of a function at one argument. Condition: the evaluation and the tree lie; the argument's value is known. -/
namespace Go.Proofs.YtaplaoelamnoiaaGreatDoor
open Go.RowKit

theorem BoxC.lt {N : Nat} {vs : List Value} {w : World} (h : BoxC N vs w) (i : Nat) (v : Value) (hv : vs[i]? = some v) : N < w.heap.size := World.block_lt_of_cell? _ _ (h i v hv).1
/-- Four variables just made. -/
theorem four_boxes (w : World) (a b c d : Array Value) (ta tb tc td : TypeId) (W : World) (hW : W = (((w.alloc (.cells a ta)).alloc (.cells b tb)).alloc (.cells c tc)).alloc (.cells d td)) :
    BoxC w.heap.size a.toList W ∧ BoxC (w.heap.size + 1) b.toList W ∧ BoxC (w.heap.size + 1 + 1) c.toList W ∧ BoxC (w.heap.size + 1 + 1 + 1) d.toList W ∧ W.heap.size = w.heap.size + 1 + 1 + 1 + 1 := by
  subst hW
  have h1 := boxC_alloc w a ta
  have h2 := boxC_alloc (w.alloc (.cells a ta)) b tb
  have h3 := boxC_alloc ((w.alloc (.cells a ta)).alloc (.cells b tb)) c tc
  have h4 := boxC_alloc (((w.alloc (.cells a ta)).alloc (.cells b tb)).alloc (.cells c tc)) d td
  simp only [World.size_alloc] at h2 h3 h4
  refine ⟨h1.same ?_, h2.same ?_, h3.same ?_, h4, by simp⟩
  · exact (heap_alloc_old _ _ (by simp only [World.size_alloc]; omega)).trans ((heap_alloc_old _ _ (by simp only [World.size_alloc]; omega)).trans (heap_alloc_old _ _ (by simp only [World.size_alloc]; omega)))
  · exact (heap_alloc_old _ _ (by simp only [World.size_alloc]; omega)).trans (heap_alloc_old _ _ (by simp only [World.size_alloc]; omega))
  · exact heap_alloc_old _ _ (by simp)

set_option maxRecDepth 20000 in
set_option maxHeartbeats 4000000 in
theorem acted_one (env : ByteArray → Option Arr) (o f q : Int) (r : Ex) (x y : Arr) (hr : ValOk env r x) (ho : 0 ≤ o ∧ o < 6) (h1 : One1 o f q x y) : ActOk env (.one o f q r) y := by
  intro g mb tb tc fuel T pre post w hE hsp hl hst hf
  have hnode : T[pre.length]? = some (⟨6, o, f, q, 0, [], ⟨#[]⟩⟩ : Nd) := by rw [hsp, List.getElem?_append_right (Nat.le_refl _), Nat.sub_self]; rfl
  obtain ⟨a0, cc, c0, c1, c2, c3, c4, c5, c6, -, -⟩ := ((hE.alloc (.cells #[.slice none 0 0, .int .i64 0, .int .i64 0, .pointer none, .bool false, .slice none 0 0, .slice none 0 0, .int .i64 0, .pointer (some ⟨g, 0, none⟩)] 101)).alloc (.cells #[.bool false, .slice none 0 0, .slice none 0 0] 24)).nodes.2 _ _ hnode
  dsimp only [List.length_nil] at c0 c1 c2 c3 c4 c5 c6
  have hlt : pre.length < T.length := (List.getElem?_eq_some_iff.1 hnode).1
  obtain ⟨k, hk⟩ : ∃ k, k = pre.length := ⟨_, rfl⟩
  have kr : ∀ W, EvAt g mb tb T env fuel W W → Calls Tryz.prog 41 #[callV g, .slice (some ⟨tb, 0, none⟩) T.length tc, .int .i64 ((k : Int) + 1)] W fun en w' => ValPost x g mb tb T env (fuel - M.steps r) W en w' := fun W hW => by
    have h := hr g mb tb tc fuel T (pre ++ [(⟨6, o, f, q, 0, [], ⟨#[]⟩⟩ : Nd)]) post W hW (by rw [hsp]; simp [M.flat]) hl (by simp only [M.steps] at hst; omega) hf
    have e : (((pre ++ [(⟨6, o, f, q, 0, [], ⟨#[]⟩⟩ : Nd)]).length : Nat) : Int) = (k : Int) + 1 := by simp [hk]
    rw [e] at h
    exact h
  rw [← hk] at c0 c1 c2 c3 c4 c5 c6 hlt
  rw [← hk]
  have hk4 : k ≤ 1000 := by omega
  obtain ⟨nl, hnl⟩ : ∃ nl, nl = T.length := ⟨_, rfl⟩
  rw [← hnl] at kr hlt
  rw [← hnl]
  have eo6 : (o == 6) = false := by rw [beq_eq_false_iff_ne]; omega
  have eo7 : (o == 7) = false := by rw [beq_eq_false_iff_ne]; omega
  have z0 : (0 : Int) ≤ ((k : Nat) : Int) := by omega
  have z1 : ((k : Nat) : Int) < ((nl : Nat) : Int) := by omega
  have zz : ((k : Nat) : Int).toNat = k := by simp
  have hB := hE.alloc (.cells #[.slice none 0 0, .int .i64 0, .int .i64 0, .pointer none, .bool false, .slice none 0 0, .slice none 0 0, .int .i64 0, .pointer (some ⟨g, 0, none⟩)] 101)
  have hB := hB.alloc (.cells #[.bool false, .slice none 0 0, .slice none 0 0] 24)
  have hB := hB.alloc (.cells #[.int .i64 6, .int .i64 o, .int .i64 f, .int .i64 q, .int .i64 0, .slice a0 0 cc, .string ⟨#[]⟩] 76)
  have hB := hB.alloc (.cells #[.slice (some ⟨tb, 0, none⟩) nl tc, .int .i64 ((k : Int) + 1), .int .i64 0, .pointer none, .bool false, .slice none 0 0, .slice none 0 0, .int .i64 1, .pointer (some ⟨g, 0, none⟩)] 101)
  obtain ⟨W, hW⟩ : ∃ W : World, W = (((w.alloc (.cells #[.slice none 0 0, .int .i64 0, .int .i64 0, .pointer none, .bool false, .slice none 0 0, .slice none 0 0, .int .i64 0, .pointer (some ⟨g, 0, none⟩)] 101)).alloc (.cells #[.bool false, .slice none 0 0, .slice none 0 0] 24)).alloc (.cells #[.int .i64 6, .int .i64 o, .int .i64 f, .int .i64 q, .int .i64 0, .slice a0 0 cc, .string ⟨#[]⟩] 76)).alloc (.cells #[.slice (some ⟨tb, 0, none⟩) nl tc, .int .i64 ((k : Int) + 1), .int .i64 0, .pointer none, .bool false, .slice none 0 0, .slice none 0 0, .int .i64 1, .pointer (some ⟨g, 0, none⟩)] 101) := ⟨_, rfl⟩
  rw [← hW] at hB
  obtain ⟨bA, bB, bC, bD, sW⟩ := four_boxes _ _ _ _ _ _ _ _ _ W hW
  have gl := hE.glt
  replace bA := Lib.hid bA
  replace bB := Lib.hid bB
  replace bC := Lib.hid bC
  replace bD := Lib.hid bD
  replace sW := Lib.hid sW
  have hW' := Lib.hid hW.symm
  replace hW := Lib.hid hW
  have st : fuel - M.steps r = (fuel - M.steps (.one o f q r)) + 1 := by simp only [M.steps] at hst ⊢; omega
  have hst2 : fuel - M.steps (.one o f q r) < 20000 := by simp only [M.steps] at hst ⊢; omega
  generalize fuel - M.steps (.one o f q r) = F at *
  generalize fuel - M.steps r = F2 at *
  subst st
  replace kr := Lib.hid kr
  replace hE := Lib.hid hE
  replace hsp := Lib.hid hsp
  replace hnl := Lib.hid hnl
  replace hk := Lib.hid hk
  replace hnode := Lib.hid hnode
  replace h1 := Lib.hid h1
  replace hB := Lib.hid hB
  clear hr hst hf hl
  unfold callV
  go_enter Tryz.func68, Tryz.ntmps68
  go_wp2_with fail
  rw [hW'.out]
  refine (kr.out _ hB.out.self).mono ?_
  rintro en w2 ⟨a, c, b, kk, rfl, ra, rb, oa, ob, E2⟩
  clear c0 c1 c2 c3 c4 c5 c6
  have gN : g < w.heap.size := gl
  have A2 := Lib.hid (bA.out.but E2.2.2.1 (by have := sW.out; omega) (by omega))
  have B2 := Lib.hid (bB.out.but E2.2.2.1 (by have := sW.out; omega) (by omega))
  have C2 := Lib.hid (bC.out.but E2.2.2.1 (by have := sW.out; omega) (by omega))
  have D2 := Lib.hid (bD.out.but E2.2.2.1 (by have := sW.out; omega) (by omega))
  have F2 := hB.out.trans E2
  have oa3 : Off (w.heap.size + 1 + 1 + 1) a x.s := oa.off (by omega) (by have := sW.out; omega)
  have ob3 : Off (w.heap.size + 1 + 1 + 1) b x.d := ob.off (by omega) (by have := sW.out; omega)
  have oag : Off g a x.s := oa.off (by omega) (by have := sW.out; omega)
  have obg : Off g b x.d := ob.off (by omega) (by have := sW.out; omega)
  replace ra := Lib.hid ra
  replace rb := Lib.hid rb
  replace oa3 := Lib.hid oa3
  replace ob3 := Lib.hid ob3
  replace oag := Lib.hid oag
  replace obg := Lib.hid obg
  replace F2 := Lib.hid F2
  clear oa ob E2
  have hs2 : Hid (w.heap.size + 1 + 1 + 1 < w2.heap.size) := Lib.hid (D2.out.lt 0 _ rfl)
  obtain ⟨y0, x0⟩ := A2.out 8 _ rfl
  obtain ⟨y1, x1⟩ := C2.out 0 _ rfl
  obtain ⟨y4, x4⟩ := D2.out 4 _ rfl
  obtain ⟨y5, x5⟩ := D2.out 5 _ rfl
  obtain ⟨y6, x6⟩ := D2.out 6 _ rfl
  go_wp2_with fail
  have A3 := Lib.hid (((A2.out.far ⟨w.heap.size + 1 + 1 + 1, 4, none⟩ (by show w.heap.size + 1 + 1 + 1 ≠ w.heap.size; omega) (.bool x.ch)).far ⟨w.heap.size + 1 + 1 + 1, 5, none⟩ (by show w.heap.size + 1 + 1 + 1 ≠ w.heap.size; omega) (.slice a x.s.length c)).far ⟨w.heap.size + 1 + 1 + 1, 6, none⟩ (by show w.heap.size + 1 + 1 + 1 ≠ w.heap.size; omega) (.slice b x.d.length kk))
  have B3 := Lib.hid (((B2.out.far ⟨w.heap.size + 1 + 1 + 1, 4, none⟩ (by show w.heap.size + 1 + 1 + 1 ≠ w.heap.size + 1; omega) (.bool x.ch)).far ⟨w.heap.size + 1 + 1 + 1, 5, none⟩ (by show w.heap.size + 1 + 1 + 1 ≠ w.heap.size + 1; omega) (.slice a x.s.length c)).far ⟨w.heap.size + 1 + 1 + 1, 6, none⟩ (by show w.heap.size + 1 + 1 + 1 ≠ w.heap.size + 1; omega) (.slice b x.d.length kk))
  have C3 := Lib.hid (((C2.out.far ⟨w.heap.size + 1 + 1 + 1, 4, none⟩ (by show w.heap.size + 1 + 1 + 1 ≠ w.heap.size + 1 + 1; omega) (.bool x.ch)).far ⟨w.heap.size + 1 + 1 + 1, 5, none⟩ (by show w.heap.size + 1 + 1 + 1 ≠ w.heap.size + 1 + 1; omega) (.slice a x.s.length c)).far ⟨w.heap.size + 1 + 1 + 1, 6, none⟩ (by show w.heap.size + 1 + 1 + 1 ≠ w.heap.size + 1 + 1; omega) (.slice b x.d.length kk))
  have D3 := Lib.hid (((D2.out.put 4 (by simp) (.bool x.ch)).put 5 (by simp) (.slice a x.s.length c)).put 6 (by simp) (.slice b x.d.length kk))
  have F3 := Lib.hid (((F2.out.setNew (N := w.heap.size + 1 + 1 + 1) (by omega) 4 (.bool x.ch)).setNew (N := w.heap.size + 1 + 1 + 1) (by omega) 5 (.slice a x.s.length c)).setNew (N := w.heap.size + 1 + 1 + 1) (by omega) 6 (.slice b x.d.length kk))
  have ra3 := Lib.hid (ra.out.but (But.set3 4 5 6 (.bool x.ch) (.slice a x.s.length c) (.slice b x.d.length kk)) oa3.out)
  have rb3 := Lib.hid (rb.out.but (But.set3 4 5 6 (.bool x.ch) (.slice a x.s.length c) (.slice b x.d.length kk)) ob3.out)
  have hs3 : Hid (w.heap.size + 1 + 1 + 1 < (((w2.setCell ⟨w.heap.size + 1 + 1 + 1, 4, none⟩ (.bool x.ch)).setCell ⟨w.heap.size + 1 + 1 + 1, 5, none⟩ (.slice a x.s.length c)).setCell ⟨w.heap.size + 1 + 1 + 1, 6, none⟩ (.slice b x.d.length kk)).heap.size) := Lib.hid (by simp only [World.size_setCell]; exact hs2.out)
  clear y0 x0 y1 x1 y4 x4 y5 x5 y6 x6 A2 B2 C2 D2 F2 ra rb
  generalize ((w2.setCell ⟨w.heap.size + 1 + 1 + 1, 4, none⟩ (.bool x.ch)).setCell ⟨w.heap.size + 1 + 1 + 1, 5, none⟩ (.slice a x.s.length c)).setCell ⟨w.heap.size + 1 + 1 + 1, 6, none⟩ (.slice b x.d.length kk) = w3 at *
  refine (step_any g mb tb T env F _ F3.out.self hst2).mono ?_
  rintro en w4 ⟨rfl, E4⟩
  have A4 := Lib.hid (A3.out.but E4.2.2.1 (by have := hs3.out; omega) (by omega))
  have B4 := Lib.hid (B3.out.but E4.2.2.1 (by have := hs3.out; omega) (by omega))
  have C4 := Lib.hid (C3.out.but E4.2.2.1 (by have := hs3.out; omega) (by omega))
  have D4 := Lib.hid (D3.out.but E4.2.2.1 (by have := hs3.out; omega) (by omega))
  have F4 := Lib.hid (F3.out.trans E4)
  have ra4 := Lib.hid (ra3.out.but E4.2.2.1 oag.out)
  have rb4 := Lib.hid (rb3.out.but E4.2.2.1 obg.out)
  have hs4 : Hid (w.heap.size + 1 + 1 + 1 < w4.heap.size) := Lib.hid (by have := hs3.out; have := E4.2.2.2.1.size; omega)
  clear A3 B3 C3 D3 F3 ra3 rb3 E4
  obtain ⟨y0, x0⟩ := C4.out 0 _ rfl
  obtain ⟨y1, x1⟩ := C4.out 1 _ rfl
  obtain ⟨y2, x2⟩ := C4.out 2 _ rfl
  obtain ⟨y3, x3⟩ := C4.out 3 _ rfl
  obtain ⟨y4, x4⟩ := D4.out 4 _ rfl
  obtain ⟨y5, x5⟩ := D4.out 5 _ rfl
  obtain ⟨y6, x6⟩ := D4.out 6 _ rfl
  go_wp2_with fail
  refine (h1.out _ a c b kk ra4.out rb4.out).mono ?_
  intro en w5 hp
  obtain ⟨a5, c5, b5, k5, rfl, r1, r2, f1, f2, -, hb5⟩ := hp.is_ok rfl
  clear hp y0 y1 y2 y3 y4 y5 y6 x0 x1 x2 x3 x4 x5 x6
  replace r1 := Lib.hid r1
  replace r2 := Lib.hid r2
  replace f1 := Lib.hid f1
  replace f2 := Lib.hid f2
  have B5 := Lib.hid (B4.out.same (hb5.block _ (by have := hs4.out; omega)))
  have F5 := Lib.hid (F4.out.step hb5)
  replace hb5 := Lib.hid hb5
  go_wp2_with fail
  refine (must_any y.ch a5 y.s.length c5 b5 y.d.length k5 _).mono ?_
  rintro en w6 ⟨rfl, hb6⟩
  have B6 := B5.out.same (hb6.block _ (by have := hs4.out; have := hb5.out.size; omega))
  have F6 := Lib.hid (F5.out.step hb6)
  have r16 := Lib.hid (r1.out.below hb6)
  have r26 := Lib.hid (r2.out.below hb6)
  clear r1 r2 B5 F5 hb6
  obtain ⟨y0, x0⟩ := B6 0 _ rfl
  obtain ⟨y1, x1⟩ := B6 1 _ rfl
  obtain ⟨y2, x2⟩ := B6 2 _ rfl
  clear B6
  go_wp2
  refine bodyPost_ret (v := arrV y.ch a5 y.s.length c5 b5 y.d.length k5) (by simp [results, Tryz.results68, go_sem, cell?_set_same, arrV, y0, y1, y2]) rfl ?_
  refine ⟨a5, c5, b5, k5, rfl, r16.out.but (But.set3 _ _ _ _ _ _) (fun _ p e => ?_), r26.out.but (But.set3 _ _ _ _ _ _) (fun _ p e => ?_), f1.out.out F4.out.le, f2.out.out F4.out.le, ((F6.out.setNew (by omega) _ _).setNew (by omega) _ _).setNew (by omega) _ _⟩
  · have h1 := f1.out p e
    have := hs4.out
    omega
  · have h1 := f2.out p e
    have := hs4.out
    omega
end Go.Proofs.YtaplaoelamnoiaaGreatDoor
