/- Texts that lie in one file: what is plain, rows, boxes, squares, and what is known of a world. No condition. -/
import Derived.Test.YtaplaoelamnoiaaGreatDoorBg15
import Derived.Test.YtaplaoelamnoiaaGreatDoorPkCheck
import Derived.Deep.RegionLaw
import Derived.Deep.Cut
import Derived.LoopN
/- The call eval.picked at one subscript, and the call value of a pick. Condition: the evaluation and the tree lie; the parts' values are known. -/
namespace Go.Proofs.YtaplaoelamnoiaaGreatDoor
open Go.RowKit Go.Lib

/-- The call picked does. -/
def PickedOk (env : ByteArray → Option Arr) (e b : Ex) (z : Arr) : Prop := ∀ (g mb tb tc fuel : Nat) (T pre post : List Nd) (w : World), EvAt g mb tb T env fuel w w → T = pre ++ (M.flat (.pick e b) ++ post) → T.length ≤ 1000 → M.steps (.pick e b) ≤ fuel → fuel ≤ 20000 →
  Calls Tryz.prog 69 #[callV g, .slice (some ⟨tb, 0, none⟩) T.length tc, .int .i64 pre.length] w fun en w' => ValPost z g mb tb T env (fuel - M.steps (.pick e b)) w en w'
theorem own_cell1 (w : World) (B g : Nat) (n : Int) (hB : B ≤ g) (h : w.heap[g]? = some (.cells #[.int .i64 n] 3 (0, 0))) : Own w B (.slice (some ⟨g, 0, none⟩) 1 1) [n] :=
  ⟨by simp, .inr ⟨g, 1, #[.int .i64 n], rfl, hB, h, Nat.le_refl _, by simp [maxLen], by simp, by simp⟩⟩
theorem own_two {w : World} {B : Nat} {v : Value} {x y : Int} (h : Own w B v [x, y]) : ∃ G c, v = .slice (some ⟨G, 0, none⟩) 2 c ∧ B ≤ G ∧ G < w.heap.size ∧ w.cell? ⟨G, 0, none⟩ = some (.int .i64 x) ∧ w.cell? ⟨G, 1, none⟩ = some (.int .i64 y) := by
  rcases id h.2 with ⟨_, e⟩ | ⟨G, cap, cur, rfl, hB, hc, _⟩
  · simp at e
  · have hr := h.row
    refine ⟨G, cap, by simp, hB, lt_of_some hc, ?_, ?_⟩
    · obtain ⟨b, o, e, k⟩ := hr 0 (by simp)
      cases e
      exact k
    · obtain ⟨b, o, e, k⟩ := hr 1 (by simp)
      cases e
      exact k
/-- The cells that make([]Array, 1) lays. -/
theorem run_make_arr1 (W : World) : (Instr.makeSlice 161 (.int .i64 1) (.int .i64 1)).run Tryz.prog W = .ok (.slice (some ⟨W.heap.size, 0, none⟩) 1 1) (W.alloc (.cells #[.bool false, .slice none 0 0, .slice none 0 0] 24)) := by
  obtain ⟨i0, hi, hz0, hz1, hz2⟩ := info_parts Tryz.infoArray
  have h := run_make (P := Tryz.prog) W 161 24 i0 (.agg #[.bool false, .slice none 0 0, .slice none 0 0]) Tryz.underlying161 hi hz0 .i64 .i64 1 1 (by omega) (by omega) (by rw [hz2]; omega) (by omega)
  rw [hz1] at h
  rw [h]
  exact congrArg (fun c => Result.ok (Value.slice (some ⟨W.heap.size, 0, none⟩) 1 1) (W.alloc (.cells c 24))) (show madeCells (Value.agg #[.bool false, .slice none 0 0, .slice none 0 0]).cells 3 = #[.bool false, .slice none 0 0, .slice none 0 0] by kernel_rfl)

set_option maxRecDepth 20000 in
set_option maxHeartbeats 16000000 in
theorem picked_any (env : ByteArray → Option Arr) (l r : Ex) (x y z : Arr) (hlv : ValOk env l x) (hr : ValOk env r y) (hpl : l.plain) (h1 : Pick1 x y z) : PickedOk env l r z := by
  intro g mb tb tc fuel T pre post w hE hsp hl hst hf
  have hnode : T[pre.length]? = some (⟨8, 0, 0, 0, 1, [], ⟨#[]⟩⟩ : Nd) := by rw [hsp, List.getElem?_append_right (Nat.le_refl _), Nat.sub_self]; rfl
  obtain ⟨a0, cc, c0, c1, c2, c3, c4, c5, c6, -, -⟩ := ((hE.alloc (.cells #[.slice none 0 0, .int .i64 0, .int .i64 0, .pointer none, .bool false, .slice none 0 0, .slice none 0 0, .int .i64 0, .pointer (some ⟨g, 0, none⟩)] 101)).alloc (.cells #[.bool false, .slice none 0 0, .slice none 0 0] 24)).nodes.2 _ _ hnode
  dsimp only [List.length_nil] at c0 c1 c2 c3 c4 c5 c6
  have hlt : pre.length < T.length := (List.getElem?_eq_some_iff.1 hnode).1
  obtain ⟨k, hk⟩ : ∃ k, k = pre.length := ⟨_, rfl⟩
  obtain ⟨ml, hml⟩ : ∃ ml, ml = (M.flat l).length := ⟨_, rfl⟩
  have hkm : k + 1 + ml < T.length := by
    have h := congrArg List.length hsp
    have h2 := flat_pos r
    simp only [M.flat, List.length_append, List.length_cons] at h
    omega
  have sp1 : T = (pre ++ [(⟨8, 0, 0, 0, 1, [], ⟨#[]⟩⟩ : Nd)]) ++ (M.flat l ++ (M.flat r ++ post)) := by rw [hsp]; simp [M.flat]
  have sp2 : T = (pre ++ (⟨8, 0, 0, 0, 1, [], ⟨#[]⟩⟩ : Nd) :: M.flat l) ++ (M.flat r ++ post) := by rw [hsp]; simp [M.flat]
  have e1 : (((pre ++ [(⟨8, 0, 0, 0, 1, [], ⟨#[]⟩⟩ : Nd)]).length : Nat) : Int) = (k : Int) + 1 := by simp [hk]
  have e2 : (((pre ++ (⟨8, 0, 0, 0, 1, [], ⟨#[]⟩⟩ : Nd) :: M.flat l).length : Nat) : Int) = (k : Int) + 1 + ml := by simp [hk, hml]; omega
  have ks : ∀ W, NdAt g tb T W → Calls Tryz.prog 88 #[.slice (some ⟨tb, 0, none⟩) T.length tc, .int .i64 ((k : Int) + 1)] W fun en w' => en = .returned (.int .i64 ((k : Int) + 1 + ml)) ∧ Below W.heap.size W w' := fun W hW => by
    have h := skip_any g tb tc T W hW hl l hpl (pre ++ [(⟨8, 0, 0, 0, 1, [], ⟨#[]⟩⟩ : Nd)]) (M.flat r ++ post) sp1
    rw [e1] at h
    refine h.mono fun en w' h => ⟨?_, h.2⟩
    rw [h.1]
    congr 2
    rw [hml]
    push_cast
    rw [e1]
  have kl : ∀ W, EvAt g mb tb T env (fuel - M.steps r) W W → Calls Tryz.prog 41 #[callV g, .slice (some ⟨tb, 0, none⟩) T.length tc, .int .i64 ((k : Int) + 1)] W fun en w' => ValPost x g mb tb T env (fuel - M.steps r - M.steps l) W en w' := fun W hW => by
    have h := hlv g mb tb tc (fuel - M.steps r) T (pre ++ [(⟨8, 0, 0, 0, 1, [], ⟨#[]⟩⟩ : Nd)]) (M.flat r ++ post) W hW sp1 hl (by have := hst; simp only [M.steps] at this; omega) (by omega)
    rw [e1] at h
    exact h
  have kr : ∀ W, EvAt g mb tb T env fuel W W → Calls Tryz.prog 41 #[callV g, .slice (some ⟨tb, 0, none⟩) T.length tc, .int .i64 ((k : Int) + 1 + ml)] W fun en w' => ValPost y g mb tb T env (fuel - M.steps r) W en w' := fun W hW => by
    have h := hr g mb tb tc fuel T (pre ++ (⟨8, 0, 0, 0, 1, [], ⟨#[]⟩⟩ : Nd) :: M.flat l) post W hW sp2 hl (by have := hst; simp only [M.steps] at this; omega) hf
    rw [e2] at h
    exact h
  rw [← hk] at c0 c1 c2 c3 c4 c5 c6 hlt
  rw [← hk]
  have hk4 : k ≤ 1000 := by omega
  have hm4 : ml ≤ 1000 := by omega
  obtain ⟨nl, hnl⟩ : ∃ nl, nl = T.length := ⟨_, rfl⟩
  rw [← hnl] at kr kl ks hlt hkm
  rw [← hnl]
  have z0 : (0 : Int) ≤ ((k : Nat) : Int) := by omega
  have z1 : ((k : Nat) : Int) < ((nl : Nat) : Int) := by omega
  have zz : ((k : Nat) : Int).toNat = k := by simp
  have hB := ((hE.alloc (.cells #[.slice none 0 0, .int .i64 0, .int .i64 0, .pointer none, .bool false, .slice none 0 0, .slice none 0 0, .int .i64 0, .pointer (some ⟨g, 0, none⟩)] 101)).alloc (.cells #[.bool false, .slice none 0 0, .slice none 0 0] 24)).alloc (.cells #[.int .i64 8, .int .i64 0, .int .i64 0, .int .i64 0, .int .i64 1, .slice a0 0 cc, .string ⟨#[]⟩] 76)
  obtain ⟨W, hW⟩ : ∃ W : World, W = ((w.alloc (.cells #[.slice none 0 0, .int .i64 0, .int .i64 0, .pointer none, .bool false, .slice none 0 0, .slice none 0 0, .int .i64 0, .pointer (some ⟨g, 0, none⟩)] 101)).alloc (.cells #[.bool false, .slice none 0 0, .slice none 0 0] 24)).alloc (.cells #[.int .i64 8, .int .i64 0, .int .i64 0, .int .i64 0, .int .i64 1, .slice a0 0 cc, .string ⟨#[]⟩] 76) := ⟨_, rfl⟩
  rw [← hW] at hB
  obtain ⟨bA, bB, bC, sW⟩ := three_boxes _ _ _ _ _ _ _ W hW
  have gl := hE.glt
  have st : fuel - M.steps r - M.steps l = (fuel - M.steps (.pick l r)) + 1 := by have h := hst; simp only [M.steps] at h ⊢; omega
  have hst2 : fuel - M.steps (.pick l r) < 20000 := by have h := hst; simp only [M.steps] at h ⊢; omega
  generalize fuel - M.steps (.pick l r) = F at *
  generalize fuel - M.steps r - M.steps l = F2 at *
  generalize fuel - M.steps r = F3 at *
  subst st
  obtain ⟨W4, hW4⟩ : ∃ W4 : World, W4 = W.alloc (.cells #[.int .i64 ((k : Int) + 1)] 3) := ⟨_, rfl⟩
  have hba : Below W.heap.size W W4 := by rw [hW4]; exact push (start W) _
  have s4 : W4.heap.size = w.heap.size + 1 + 1 + 1 + 1 := by rw [hW4, World.size_alloc, sW]
  have h4 : W4.heap[w.heap.size + 1 + 1 + 1]? = some (.cells #[.int .i64 ((k : Int) + 1)] 3 (0, 0)) := by rw [hW4, ← sW]; exact heap_alloc_new W _
  have oP : Own W4 (w.heap.size + 1 + 1 + 1) (.slice (some ⟨w.heap.size + 1 + 1 + 1, 0, none⟩) 1 1) [(k : Int) + 1] := own_cell1 W4 _ _ _ (Nat.le_refl _) h4
  have pl0 : W4.cell? ⟨w.heap.size + 1 + 1 + 1, 0, none⟩ = some (.int .i64 ((k : Int) + 1)) := by rw [cell_of_row W4 _ 0 _ _ (0, 0) h4]; rfl
  replace bA := Lib.hid (bA.same (hba.block _ (by omega)))
  replace bB := Lib.hid (bB.same (hba.block _ (by omega)))
  replace bC := Lib.hid (bC.same (hba.block _ (by omega)))
  replace hB := Lib.hid (hB.step hba)
  have hW' : Hid ((((w.alloc (.cells #[.slice none 0 0, .int .i64 0, .int .i64 0, .pointer none, .bool false, .slice none 0 0, .slice none 0 0, .int .i64 0, .pointer (some ⟨g, 0, none⟩)] 101)).alloc (.cells #[.bool false, .slice none 0 0, .slice none 0 0] 24)).alloc (.cells #[.int .i64 8, .int .i64 0, .int .i64 0, .int .i64 0, .int .i64 1, .slice a0 0 cc, .string ⟨#[]⟩] 76)).alloc (.cells #[.int .i64 ((k : Int) + 1)] 3) = W4) := Lib.hid (by rw [hW4, hW])
  replace hW4 := Lib.hid hW4
  replace hW := Lib.hid hW
  replace sW := Lib.hid sW
  replace s4 := Lib.hid s4
  replace h4 := Lib.hid h4
  replace oP := Lib.hid oP
  replace kr := Lib.hid kr
  replace kl := Lib.hid kl
  replace ks := Lib.hid ks
  replace hE := Lib.hid hE
  replace hnl := Lib.hid hnl
  replace hk := Lib.hid hk
  replace hml := Lib.hid hml
  replace h1 := Lib.hid h1
  replace hba := Lib.hid hba
  clear hr hlv hst hf hl e1 e2 sp1 sp2 hsp hnode hpl
  unfold callV
  go_enter Tryz.func69, Tryz.ntmps69
  go_wp2
  rw [hW'.out]
  refine wp_loop_rounds 2 ?_
  rw [rounds_succ]
  clear c0 c1 c2 c3 c4 c5 c6
  go_wp2_with fail
  refine (ks.out _ hB.out.nodes).mono ?_
  rintro en v ⟨rfl, hbv⟩
  have sv : w.heap.size + 1 + 1 + 1 < v.heap.size := by have := s4.out; have := hbv.size; omega
  have Av := Lib.hid (bA.out.same (hbv.block _ (by have := s4.out; omega)))
  have Bv := Lib.hid (bB.out.same (hbv.block _ (by have := s4.out; omega)))
  have Cv := Lib.hid (bC.out.same (hbv.block _ (by have := s4.out; omega)))
  have Ev := Lib.hid (hB.out.step hbv)
  have oPv := Lib.hid (oP.out.below hbv)
  replace sv := Lib.hid sv
  clear pl0 hbv
  go_wp2_with (at_builtin; refine app_int rfl (.tmp 23) (.tmp 32) rfl (w.heap.size + 1 + 1 + 1) _ [(k : Int) + 1] ((k : Int) + 1 + ml) rfl oPv.out rfl (by simp) (by have := sv.out; omega) ?_; intro v' w5 ho hbe hsz; obtain ⟨PL, pc, rfl, hPL, hPl, q0, q1⟩ := own_two (show Own w5 _ v' [_, _] from ho); clear ho; replace hbe := Lib.hid hbe; replace hsz := Lib.hid hsz)
  have A5 := Av.out.same (hbe.out.block _ (by omega))
  have B5 := Bv.out.same (hbe.out.block _ (by omega))
  have C5 := Cv.out.same (hbe.out.block _ (by omega))
  have E5 := Ev.out.step0 (hbe.out.mono (by omega))
  obtain ⟨n5, -⟩ := C5 4 _ rfl
  obtain ⟨W6, hW6⟩ : ∃ W6 : World, W6 = w5.alloc (.cells #[.bool false, .slice none 0 0, .slice none 0 0] 24) := ⟨_, rfl⟩
  have hba6 : Below w5.heap.size w5 W6 := by rw [hW6]; exact push (start w5) _
  have Y6 : BoxC w5.heap.size [.bool false, .slice none 0 0, .slice none 0 0] W6 := by rw [hW6]; exact boxC_alloc w5 #[.bool false, .slice none 0 0, .slice none 0 0] 24
  have s6 : W6.heap.size = w5.heap.size + 1 := by rw [hW6]; simp
  have hmk : (Instr.makeSlice 161 (.int .i64 1) (.int .i64 1)).run Tryz.prog w5 = .ok (.slice (some ⟨w5.heap.size, 0, none⟩) 1 1) W6 := by rw [hW6]; exact run_make_arr1 w5
  have h5 : w.heap.size + 1 + 1 + 1 < w5.heap.size := by have := hbe.out.size; have := sv.out; omega
  have A6 := A5.same (hba6.block _ (by omega))
  have B6 := B5.same (hba6.block _ (by omega))
  have C6 := C5.same (hba6.block _ (by omega))
  have E6 := E5.step hba6
  obtain ⟨n6, -⟩ := C6 4 _ rfl
  have r0 := (hba6.cell (p := ⟨PL, 0, none⟩) hPl).trans q0
  have r1 := (hba6.cell (p := ⟨PL, 1, none⟩) hPl).trans q1
  obtain ⟨p0, -⟩ := A6 0 _ rfl
  obtain ⟨p1, -⟩ := A6 1 _ rfl
  obtain ⟨p2, -⟩ := A6 2 _ rfl
  obtain ⟨p3, -⟩ := A6 3 _ rfl
  obtain ⟨p4, -⟩ := A6 4 _ rfl
  obtain ⟨p5, -⟩ := A6 5 _ rfl
  obtain ⟨p6, -⟩ := A6 6 _ rfl
  obtain ⟨p7, -⟩ := A6 7 _ rfl
  obtain ⟨p8, -⟩ := A6 8 _ rfl
  have hPLy : PL ≠ w5.heap.size := by omega
  have hPl6 : PL < W6.heap.size := by omega
  replace A6 := Lib.hid A6
  replace B6 := Lib.hid B6
  replace C6 := Lib.hid C6
  replace E6 := Lib.hid E6
  replace Y6 := Lib.hid Y6
  replace hW6 := Lib.hid hW6
  replace s6 := Lib.hid s6
  clear A5 B5 C5 E5 Av Bv Cv Ev hba6 q0 q1 oPv
  go_wp2
  rw [rounds_succ]
  go_wp2
  refine wp_loop_rounds 2 ?_
  rw [rounds_succ]
  go_upto_region 11 with fail
  have hwz : IntKind.i64.wrap 0 = 0 := by decide
  go_region_law ((go_simp; go_at_call 41; refine (kr.out W6.drew (E6.out.drewN 1).self).mono ?_; rintro en w7 ⟨a, c, b, kk, rfl, ra, rb, oa, ob, E7⟩; have Y7 := (show BoxC w5.heap.size [.bool false, .slice none 0 0, .slice none 0 0] W6.drew from Y6.out.same rfl).but E7.2.2.1 (by have := s6.out; show w5.heap.size < W6.heap.size; omega) (by omega); obtain ⟨t0, u0⟩ := Y7 0 _ rfl; obtain ⟨t1, u1⟩ := Y7 1 _ rfl; obtain ⟨t2, u2⟩ := Y7 2 _ rfl; replace Y7 := Lib.hid Y7; replace ra := Lib.hid ra; replace rb := Lib.hid rb; replace oa := Lib.hid oa; replace ob := Lib.hid ob; replace E7 := Lib.hid E7))
  all_goals
    obtain ⟨w8, hw8⟩ : ∃ w8 : World, w8 = ((w7.setCell ⟨w5.heap.size, 0, none⟩ (.bool y.ch)).setCell ⟨w5.heap.size, 1, none⟩ (.slice a y.s.length c)).setCell ⟨w5.heap.size, 2, none⟩ (.slice b y.d.length kk) := ⟨_, rfl⟩
    have gY : g < w5.heap.size := by omega
    have s7 : W6.heap.size ≤ w7.heap.size := E7.out.2.2.2.1.size
    have hbt : But w5.heap.size w7 w8 := by rw [hw8]; exact But.set3 0 1 2 _ _ _
    have s8 : w8.heap.size = w7.heap.size := by rw [hw8]; simp only [World.size_setCell]
    have A8 := (A6.out.but (w := W6.drew) E7.out.2.2.1 (by show w.heap.size < W6.heap.size; omega) (by omega)).same (hbt _ (by omega) (by omega))
    have B8 := (B6.out.but (w := W6.drew) E7.out.2.2.1 (by show w.heap.size + 1 < W6.heap.size; omega) (by omega)).same (hbt _ (by omega) (by omega))
    have Y8 : BoxC w5.heap.size [.bool y.ch, .slice a y.s.length c, .slice b y.d.length kk] w8 := by rw [hw8]; exact ((Y7.out.put 0 (by simp) (.bool y.ch)).put 1 (by simp) (.slice a y.s.length c)).put 2 (by simp) (.slice b y.d.length kk)
    have ra8 : Row w8 a y.s := ra.out.but hbt (oa.out.off (by omega) (by have := s6.out; show w5.heap.size < W6.heap.size; omega))
    have rb8 : Row w8 b y.d := rb.out.but hbt (ob.out.off (by omega) (by have := s6.out; show w5.heap.size < W6.heap.size; omega))
    have E8 : EvAt g mb tb T env F3 w w8 := by rw [hw8]; exact ((((E6.out.drewN 1).trans E7.out).setNew (by omega) 0 _).setNew (by omega) 1 _).setNew (by omega) 2 _
    have r08 : w8.cell? ⟨PL, 0, none⟩ = some (.int .i64 ((k : Int) + 1)) := (cell_of_eq (hbt PL (by omega) hPLy) 0).trans ((cell_of_eq (E7.out.2.2.1 PL (by exact hPl6) (by omega)) 0).trans r0)
    obtain ⟨p0, -⟩ := A8 0 _ rfl
    obtain ⟨p1, -⟩ := A8 1 _ rfl
    obtain ⟨p2, -⟩ := A8 2 _ rfl
    obtain ⟨p3, -⟩ := A8 3 _ rfl
    obtain ⟨p4, -⟩ := A8 4 _ rfl
    obtain ⟨p5, -⟩ := A8 5 _ rfl
    obtain ⟨p6, -⟩ := A8 6 _ rfl
    obtain ⟨p7, -⟩ := A8 7 _ rfl
    obtain ⟨p8, -⟩ := A8 8 _ rfl
    have hw8' := Lib.hid hw8.symm
    replace hw8 := Lib.hid hw8
    replace A8 := Lib.hid A8
    replace B8 := Lib.hid B8
    replace Y8 := Lib.hid Y8
    replace ra8 := Lib.hid ra8
    replace rb8 := Lib.hid rb8
    replace E8 := Lib.hid E8
    replace hbt := Lib.hid hbt
    replace s8 := Lib.hid s8
    replace s7 := Lib.hid s7
    have z8 := (boxC_alloc w8 #[.bool false, .slice none 0 0, .slice none 0 0] 24)
    have z8' : Hid (BoxC w8.heap.size [.bool false, .slice none 0 0, .slice none 0 0] (w8.alloc (.cells #[.bool false, .slice none 0 0, .slice none 0 0] 24)).drew) := Lib.hid (z8.same rfl)
    have hbz := push (start w8) (.cells #[.bool false, .slice none 0 0, .slice none 0 0] 24)
    have A8z := A8.out.same (hbz.block w.heap.size (by have := s8.out; have := s7.out; omega))
    obtain ⟨pz0, -⟩ := A8z 0 _ rfl
    obtain ⟨pz1, -⟩ := A8z 1 _ rfl
    obtain ⟨pz2, -⟩ := A8z 2 _ rfl
    obtain ⟨pz3, -⟩ := A8z 3 _ rfl
    obtain ⟨pz4, -⟩ := A8z 4 _ rfl
    obtain ⟨pz5, -⟩ := A8z 5 _ rfl
    obtain ⟨pz6, -⟩ := A8z 6 _ rfl
    obtain ⟨pz7, -⟩ := A8z 7 _ rfl
    obtain ⟨pz8, -⟩ := A8z 8 _ rfl
    have r0z := (hbz.cell (p := ⟨PL, 0, none⟩) (World.block_lt_of_cell? w8 _ r08)).trans r08
    clear z8 hbz A8z
    clear t0 t1 t2 u0 u1 u2 r0 r1 n5 n6 hmk
    go_wp2
    rw [hw8'.out]
    rw [rounds_succ]
    go_upto_region 12 with fail
    go_cut [11] from 61 (fun s11 wx => ∃ (N3 : Nat) (a' : Option Addr) (c' : Nat) (b' : Option Addr) (kk' : Nat), s11 = .pointer (some ⟨N3, 0, none⟩) ∧ w8.heap.size ≤ N3 ∧ BoxC N3 [.bool x.ch, .slice a' x.s.length c', .slice b' x.d.length kk'] wx ∧ Row wx a' x.s ∧ Row wx b' x.d ∧ Out g w8.heap.size a' x.s ∧ Out g w8.heap.size b' x.d ∧ EvAt g mb tb T env (F + 1) w8 wx)
    case first =>
      go_region_law (first
        | (go_simp; go_at_call 41; refine (kl.out (w8.alloc (.cells #[.bool false, .slice none 0 0, .slice none 0 0] 24)).drew ((E8.out.alloc _).drewN 1).self).mono ?_; rintro en w9 ⟨a', c', b', kk', rfl, ra', rb', oa', ob', E9⟩; have Z9 : BoxC w8.heap.size [.bool false, .slice none 0 0, .slice none 0 0] w9 := z8'.out.but E9.2.2.1 (by show w8.heap.size < (w8.alloc _).heap.size; rw [World.size_alloc]; omega) (by have := s8.out; have := s7.out; omega); obtain ⟨t0, u0⟩ := Z9 0 _ rfl; obtain ⟨t1, u1⟩ := Z9 1 _ rfl; obtain ⟨t2, u2⟩ := Z9 2 _ rfl; replace Z9 := Lib.hid Z9; replace ra' := Lib.hid ra'; replace rb' := Lib.hid rb'; replace oa' := Lib.hid oa'; replace ob' := Lib.hid ob'; replace E9 := Lib.hid E9)
        | (go_simp; go_at_call 41; refine (kl.out w8.drew (E8.out.drewN 1).self).mono ?_; rintro en w9 ⟨a', c', b', kk', rfl, ra', rb', oa', ob', E9⟩; replace ra' := Lib.hid ra'; replace rb' := Lib.hid rb'; replace oa' := Lib.hid oa'; replace ob' := Lib.hid ob'; replace E9 := Lib.hid E9))
      all_goals go_wp2
      all_goals go_meet
      all_goals first
        | exact ⟨w8.heap.size, a', c', b', kk', rfl, Nat.le_refl _, ((Z9.out.put 0 (by simp) (.bool x.ch)).put 1 (by simp) (.slice a' x.s.length c')).put 2 (by simp) (.slice b' x.d.length kk'), ra'.out.but (But.set3 0 1 2 _ _ _) (oa'.out.off (by have := s8.out; have := s7.out; omega) (by show w8.heap.size < (w8.alloc _).heap.size; rw [World.size_alloc]; omega)), rb'.out.but (But.set3 0 1 2 _ _ _) (ob'.out.off (by have := s8.out; have := s7.out; omega) (by show w8.heap.size < (w8.alloc _).heap.size; rw [World.size_alloc]; omega)), oa'.out.mono (by show w8.heap.size ≤ (w8.alloc _).heap.size; rw [World.size_alloc]; omega), ob'.out.mono (by show w8.heap.size ≤ (w8.alloc _).heap.size; rw [World.size_alloc]; omega), (((((E8.out.self.alloc _).drewN 1).trans E9.out).setNew (Nat.le_refl _) 0 _).setNew (Nat.le_refl _) 1 _).setNew (Nat.le_refl _) 2 _⟩
        | exact ⟨w9.heap.size, a', c', b', kk', rfl, E9.out.2.2.2.1.size, boxC_alloc w9 #[.bool x.ch, .slice a' x.s.length c', .slice b' x.d.length kk'] 24, ra'.out.alloc _, rb'.out.alloc _, oa'.out, ob'.out, ((E8.out.self.drewN 1).trans E9.out).alloc _⟩
    case rest =>
      obtain ⟨N3, a', c', b', kk', rfl, hN3, bN, rx, ry, ox, oy, Ec⟩ := hcut
      have gW : g < w8.heap.size := by have := s8.out; have := s7.out; omega
      have lW : w.heap.size + 1 < w8.heap.size := by have := s8.out; have := s7.out; omega
      have lY : w5.heap.size < w8.heap.size := by have := s8.out; have := s7.out; have := s6.out; omega
      have Ac := A8.out.but Ec.2.2.1 (by omega) (by omega)
      have Bc := B8.out.but Ec.2.2.1 (by omega) (by omega)
      have Yc := Y8.out.but Ec.2.2.1 (by omega) (by omega)
      have oya : Off g a y.s := oa.out.off (Nat.le_refl _) (by show g < W6.heap.size; omega)
      have oyb : Off g b y.d := ob.out.off (Nat.le_refl _) (by show g < W6.heap.size; omega)
      have oxa : Off g a' x.s := ox.off (Nat.le_refl _) gW
      have oxb : Off g b' x.d := oy.off (Nat.le_refl _) gW
      have rac := ra8.out.but Ec.2.2.1 oya
      have rbc := rb8.out.but Ec.2.2.1 oyb
      have Fc := E8.out.trans Ec
      have hNl : N3 < wc.heap.size := bN.lt 0 _ rfl
      have hcs : w8.heap.size ≤ wc.heap.size := Ec.2.2.2.1.size
      clear p0 p1 p2 p3 p4 p5 p6 p7 p8 pz0 pz1 pz2 pz3 pz4 pz5 pz6 pz7 pz8 r08 r0z
      obtain ⟨p8, -⟩ := Ac 8 _ rfl
      replace Ac := Lib.hid Ac
      replace Bc := Lib.hid Bc
      replace Yc := Lib.hid Yc
      replace bN := Lib.hid bN
      replace rx := Lib.hid rx
      replace ry := Lib.hid ry
      replace ox := Lib.hid ox
      replace oy := Lib.hid oy
      replace rac := Lib.hid rac
      replace rbc := Lib.hid rbc
      replace Fc := Lib.hid Fc
      replace Ec := Lib.hid Ec
      go_wp2_with fail
      refine (step_any g mb tb T env F wc Fc.out.self hst2).mono ?_
      rintro en w11 ⟨rfl, G11⟩
      clear p8
      have B11 := Bc.out.but G11.2.2.1 (by omega) (by omega)
      have Y11 := Yc.out.but G11.2.2.1 (by omega) (by omega)
      have N11 := bN.out.but G11.2.2.1 hNl (by omega)
      have r1 := rx.out.but G11.2.2.1 oxa
      have r2 := ry.out.but G11.2.2.1 oxb
      have r3 := rac.out.but G11.2.2.1 oya
      have r4 := rbc.out.but G11.2.2.1 oyb
      have F11 := Lib.hid (Fc.out.trans G11)
      have kp := Lib.hid (h1.out w11 a' c' b' kk' a c b kk w5.heap.size r1 r2 r3 r4 fun j u h => (Y11 j u h).1)
      have s11 : w8.heap.size ≤ w11.heap.size := by have := G11.2.2.2.1.size; omega
      obtain ⟨n0, -⟩ := N11 0 _ rfl
      obtain ⟨n1, -⟩ := N11 1 _ rfl
      obtain ⟨n2, -⟩ := N11 2 _ rfl
      replace B11 := Lib.hid B11
      clear Y11 N11 r1 r2 r3 r4 G11
      go_wp2_with fail
      refine kp.out.mono ?_
      intro en w12 hp
      obtain ⟨a5, c5, b5, k5, rfl, r1, r2, f1, f2, -, hb12⟩ := hp.is_ok rfl
      clear hp n0 n1 n2
      have B12 := Lib.hid (B11.out.same (hb12.block _ (by omega)))
      have s12 := hb12.size
      have F12 := Lib.hid (F11.out.step hb12)
      replace r1 := Lib.hid r1
      replace r2 := Lib.hid r2
      replace f1 := Lib.hid f1
      replace f2 := Lib.hid f2
      replace s12 := Lib.hid s12
      clear hb12
      go_wp2_with fail
      refine (must_any z.ch a5 z.s.length c5 b5 z.d.length k5 w12).mono ?_
      rintro en w13 ⟨rfl, hb13⟩
      have B13 := B12.out.same (hb13.block _ (by have := s12.out; omega))
      have r1' := Lib.hid (r1.out.below hb13)
      have r2' := Lib.hid (r2.out.below hb13)
      have F13 := Lib.hid (F12.out.step hb13)
      obtain ⟨t0, u0⟩ := B13 0 _ rfl
      obtain ⟨t1, u1⟩ := B13 1 _ rfl
      obtain ⟨t2, u2⟩ := B13 2 _ rfl
      clear hb13 B13
      go_wp2
      refine bodyPost_ret (v := arrV z.ch a5 z.s.length c5 b5 z.d.length k5) (by simp [results, Tryz.results69, go_sem, cell?_set_same, arrV, t0, t1, t2]) rfl ?_
      refine ⟨a5, c5, b5, k5, rfl, r1'.out.but (But.set3 _ _ _ _ _ _) (fun _ p e => ?_), r2'.out.but (But.set3 _ _ _ _ _ _) (fun _ p e => ?_), f1.out.out (by omega), f2.out.out (by omega), ((F13.out.setNew (by omega) _ _).setNew (by omega) _ _).setNew (by omega) _ _⟩
      · have h1 : w11.heap.size ≤ p.block := f1.out p e
        omega
      · have h1 : w11.heap.size ≤ p.block := f2.out p e
        omega
end Go.Proofs.YtaplaoelamnoiaaGreatDoor

/- The call value of a pick; every expression's value. Condition: as in EvVal. -/
namespace Go.Proofs.YtaplaoelamnoiaaGreatDoor
open Go.RowKit

set_option maxRecDepth 20000 in
set_option maxHeartbeats 4000000 in
theorem value_pick (env : ByteArray → Option Arr) (l r : Ex) (x : Arr) (ha : PickedOk env l r x) : ValOk env (.pick l r) x := by
  intro g mb tb tc fuel T pre post w hE hsp hl hst hf
  have hnode : T[pre.length]? = some (⟨8, 0, 0, 0, 1, [], ⟨#[]⟩⟩ : Nd) := by rw [hsp, List.getElem?_append_right (Nat.le_refl _), Nat.sub_self]; rfl
  obtain ⟨a0, cc, c0, c1, c2, c3, c4, c5, c6, rn, on⟩ := ((hE.alloc (.cells #[.slice none 0 0, .int .i64 0, .int .i64 0, .pointer none, .bool false, .slice none 0 0, .slice none 0 0, .int .i64 0, .pointer (some ⟨g, 0, none⟩)] 101)).alloc (.cells #[.bool false, .slice none 0 0, .slice none 0 0] 24)).nodes.2 _ _ hnode
  have hlt : pre.length < T.length := (List.getElem?_eq_some_iff.1 hnode).1
  obtain ⟨k, hk⟩ : ∃ k, k = pre.length := ⟨_, rfl⟩
  dsimp only [List.length_nil] at c0 c1 c2 c3 c4 c5 c6
  have ka : ∀ W, EvAt g mb tb T env fuel W W → Calls Tryz.prog 69 #[callV g, .slice (some ⟨tb, 0, none⟩) T.length tc, .int .i64 (k : Int)] W fun en w' => ValPost x g mb tb T env (fuel - M.steps (.pick l r)) W en w' := fun W hW => by rw [hk]; exact ha g mb tb tc fuel T pre post W hW hsp hl hst hf
  rw [← hk] at c0 c1 c2 c3 c4 c5 c6 hlt
  rw [← hk]
  have hk4 : k ≤ 1000 := by omega
  obtain ⟨nl, hnl⟩ : ∃ nl, nl = T.length := ⟨_, rfl⟩
  rw [← hnl] at hlt ka
  rw [← hnl]
  have z0 : (0 : Int) ≤ ((k : Nat) : Int) := by omega
  have z1 : ((k : Nat) : Int) < ((nl : Nat) : Int) := by omega
  have zz : ((k : Nat) : Int).toNat = k := by simp
  have hB := ((hE.alloc (.cells #[.slice none 0 0, .int .i64 0, .int .i64 0, .pointer none, .bool false, .slice none 0 0, .slice none 0 0, .int .i64 0, .pointer (some ⟨g, 0, none⟩)] 101)).alloc (.cells #[.bool false, .slice none 0 0, .slice none 0 0] 24)).alloc (.cells #[.int .i64 8, .int .i64 0, .int .i64 0, .int .i64 0, .int .i64 1, .slice a0 0 cc, .string ⟨#[]⟩] 76)
  obtain ⟨W, hW⟩ : ∃ W : World, W = ((w.alloc (.cells #[.slice none 0 0, .int .i64 0, .int .i64 0, .pointer none, .bool false, .slice none 0 0, .slice none 0 0, .int .i64 0, .pointer (some ⟨g, 0, none⟩)] 101)).alloc (.cells #[.bool false, .slice none 0 0, .slice none 0 0] 24)).alloc (.cells #[.int .i64 8, .int .i64 0, .int .i64 0, .int .i64 0, .int .i64 1, .slice a0 0 cc, .string ⟨#[]⟩] 76) := ⟨_, rfl⟩
  rw [← hW] at hB
  obtain ⟨bA, bB, bC, sW⟩ := three_boxes _ _ _ _ _ _ _ W hW
  have gl := hE.glt
  replace bA := Lib.hid bA
  replace bB := Lib.hid bB
  replace bC := Lib.hid bC
  replace sW := Lib.hid sW
  have hW' := Lib.hid hW.symm
  replace hW := Lib.hid hW
  replace hE := Lib.hid hE
  replace hnl := Lib.hid hnl
  replace hk := Lib.hid hk
  replace hB := Lib.hid hB
  replace on := Lib.hid on
  replace rn := Lib.hid rn
  replace ka := Lib.hid ka
  generalize fuel - M.steps (.pick l r) = F at *
  have C0 := bC.out 0 _ rfl
  clear hst hf hl hsp hnode ha
  obtain ⟨p0, -⟩ := bA.out 0 _ rfl
  obtain ⟨p1, -⟩ := bA.out 1 _ rfl
  obtain ⟨p2, -⟩ := bA.out 2 _ rfl
  obtain ⟨p3, -⟩ := bA.out 3 _ rfl
  obtain ⟨p4, -⟩ := bA.out 4 _ rfl
  obtain ⟨p5, -⟩ := bA.out 5 _ rfl
  obtain ⟨p6, -⟩ := bA.out 6 _ rfl
  obtain ⟨p7, -⟩ := bA.out 7 _ rfl
  obtain ⟨p8, -⟩ := bA.out 8 _ rfl
  clear C0
  rw [hW.out] at p0 p1 p2 p3 p4 p5 p6 p7 p8
  unfold callV
  go_enter Tryz.func41, Tryz.ntmps41
  go_wp2_with fail
  rw [hW'.out]
  refine (ka.out _ hB.out.self).mono ?_
  rintro en w2 ⟨a, c, b, kk, rfl, ra, rb, oa, ob, E2⟩
  clear c0 c1 c2 c3 c4 c5 c6 p0 p1 p2 p3 p4 p5 p6 p7 p8
  have B2 := bB.out.but E2.2.2.1 (by have := sW.out; omega) (by omega)
  have F2 := Lib.hid (hB.out.trans E2)
  have oa1 : Hid (Off (w.heap.size + 1) a x.s) := Lib.hid (oa.off (by omega) (by have := sW.out; omega))
  have ob1 : Hid (Off (w.heap.size + 1) b x.d) := Lib.hid (ob.off (by omega) (by have := sW.out; omega))
  have oa2 : Hid (Out g w.heap.size a x.s) := Lib.hid (oa.mono hB.out.le)
  have ob2 : Hid (Out g w.heap.size b x.d) := Lib.hid (ob.mono hB.out.le)
  replace ra := Lib.hid ra
  replace rb := Lib.hid rb
  clear oa ob E2
  obtain ⟨t0, u0⟩ := B2 0 _ rfl
  obtain ⟨t1, u1⟩ := B2 1 _ rfl
  obtain ⟨t2, u2⟩ := B2 2 _ rfl
  clear B2
  go_wp2
  refine bodyPost_ret (v := arrV x.ch a x.s.length c b x.d.length kk) (by simp [results, Tryz.results41, go_sem, cell?_set_same, arrV, t0, t1, t2]) rfl ?_
  exact ⟨a, c, b, kk, rfl, ra.out.but (But.set3 _ _ _ _ _ _) oa1.out, rb.out.but (But.set3 _ _ _ _ _ _) ob1.out, oa2.out, ob2.out, ((F2.out.setNew (by omega) _ _).setNew (by omega) _ _).setNew (by omega) _ _⟩
/-- A pick's value. -/
theorem val_pick (env : ByteArray → Option Arr) (e b : Ex) (x y z : Arr) (he : ValOk env e x) (hb : ValOk env b y) (hp : e.plain) (h : Pick1 x y z) : ValOk env (.pick e b) z := value_pick env e b z (picked_any env e b x y z he hb hp h)
end Go.Proofs.YtaplaoelamnoiaaGreatDoor
