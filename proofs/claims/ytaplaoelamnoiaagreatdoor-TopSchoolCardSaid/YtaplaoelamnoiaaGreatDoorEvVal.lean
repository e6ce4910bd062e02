/- The call eval.value, by what the expression's parts are worth. Condition: the evaluation and the tree lie. -/
import Derived.Test.YtaplaoelamnoiaaGreatDoorEvTwo
namespace Go.Proofs.YtaplaoelamnoiaaGreatDoor
open Go.RowKit

theorem zeroArr (w : World) : (zeroValue 24).run Tryz.prog w = .ok (arrV false none 0 0 none 0 0) w := by kernel_rfl
theorem nameLaw : Go.Maps.Keyed Tryz.prog 9 := Go.Maps.string_keyed Tryz.underlying9
/-- A name's value, looked up. -/
theorem look_any {g mb : Nat} {env : ByteArray → Option Arr} {w : World} (h : EnvAt g mb env w) {s : ByteArray} {x : Arr} (hs : env s = some x) : ∃ (a : Option Addr) (c : Nat) (b : Option Addr) (k : Nat),
    (∀ W : World, W.heap[mb]? = w.heap[mb]? → (Instr.lookup 96 (.map (some mb)) (.string s) true).run Tryz.prog W = .ok (.tuple #[arrV x.ch a x.s.length c b x.d.length k, .bool true]) W) ∧ Row w a x.s ∧ Row w b x.d ∧ Low g a x.s ∧ Low g b x.d := by
  obtain ⟨-, n, D, ho, he⟩ := h
  obtain ⟨hz, a, c, b, k, h2, h3, h4, h5, h6, h7⟩ := he s x hs
  refine ⟨a, c, b, k, fun W hW => ?_, h4, h5, h6, h7⟩
  have hoW : W.ownsMap Tryz.prog 9 heldElem mb n D := by
    obtain ⟨es, clock, hm, hF, hs', hD⟩ := ho
    exact ⟨es, clock, hW.trans hm, hF, hs', hD⟩
  obtain ⟨v, ps, hrun, hv⟩ := hoW.look_ok nameLaw Tryz.underlying96 (zeroArr W) (R := heldElem) (zd := .held (arrV false none 0 0 none 0 0)) (zp := []) rfl (key := .string s) (Go.WideMaps.keyOf_string_mk Tryz.underlying9 hz)
  rw [h3] at hrun
  have e : v = arrV x.ch a x.s.length c b x.d.length k := by
    have h := h2 (.held (arrV false none 0 0 none 0 0))
    rw [h] at hv
    simp only [heldElem, Option.some.injEq, Prod.mk.injEq, DataW.held.injEq] at hv
    exact hv.1
  rw [e] at hrun
  exact hrun

set_option maxRecDepth 20000 in
set_option maxHeartbeats 4000000 in
theorem value_one (env : ByteArray → Option Arr) (o f q : Int) (r : Ex) (x : Arr) (ha : ActOk env (.one o f q r) x) : ValOk env (.one o f q r) x := by
  intro g mb tb tc fuel T pre post w hE hsp hl hst hf
  have hnode : T[pre.length]? = some (⟨6, o, f, q, 0, [], ⟨#[]⟩⟩ : Nd) := by rw [hsp, List.getElem?_append_right (Nat.le_refl _), Nat.sub_self]; rfl
  obtain ⟨a0, cc, c0, c1, c2, c3, c4, c5, c6, rn, on⟩ := ((hE.alloc (.cells #[.slice none 0 0, .int .i64 0, .int .i64 0, .pointer none, .bool false, .slice none 0 0, .slice none 0 0, .int .i64 0, .pointer (some ⟨g, 0, none⟩)] 101)).alloc (.cells #[.bool false, .slice none 0 0, .slice none 0 0] 24)).nodes.2 _ _ hnode
  have hlt : pre.length < T.length := (List.getElem?_eq_some_iff.1 hnode).1
  obtain ⟨k, hk⟩ : ∃ k, k = pre.length := ⟨_, rfl⟩
  dsimp only [List.length_nil] at c0 c1 c2 c3 c4 c5 c6
  have ka : ∀ W, EvAt g mb tb T env fuel W W → Calls Tryz.prog 68 #[callV g, .slice (some ⟨tb, 0, none⟩) T.length tc, .int .i64 (k : Int)] W fun en w' => ValPost x g mb tb T env (fuel - M.steps (.one o f q r)) W en w' := fun W hW => by rw [hk]; exact ha g mb tb tc fuel T pre post W hW hsp hl hst hf
  rw [← hk] at c0 c1 c2 c3 c4 c5 c6 hlt
  rw [← hk]
  have hk4 : k ≤ 1000 := by omega
  obtain ⟨nl, hnl⟩ : ∃ nl, nl = T.length := ⟨_, rfl⟩
  rw [← hnl] at hlt ka
  rw [← hnl]
  have z0 : (0 : Int) ≤ ((k : Nat) : Int) := by omega
  have z1 : ((k : Nat) : Int) < ((nl : Nat) : Int) := by omega
  have zz : ((k : Nat) : Int).toNat = k := by simp
  have hB := ((hE.alloc (.cells #[.slice none 0 0, .int .i64 0, .int .i64 0, .pointer none, .bool false, .slice none 0 0, .slice none 0 0, .int .i64 0, .pointer (some ⟨g, 0, none⟩)] 101)).alloc (.cells #[.bool false, .slice none 0 0, .slice none 0 0] 24)).alloc (.cells #[.int .i64 6, .int .i64 o, .int .i64 f, .int .i64 q, .int .i64 0, .slice a0 0 cc, .string ⟨#[]⟩] 76)
  obtain ⟨W, hW⟩ : ∃ W : World, W = ((w.alloc (.cells #[.slice none 0 0, .int .i64 0, .int .i64 0, .pointer none, .bool false, .slice none 0 0, .slice none 0 0, .int .i64 0, .pointer (some ⟨g, 0, none⟩)] 101)).alloc (.cells #[.bool false, .slice none 0 0, .slice none 0 0] 24)).alloc (.cells #[.int .i64 6, .int .i64 o, .int .i64 f, .int .i64 q, .int .i64 0, .slice a0 0 cc, .string ⟨#[]⟩] 76) := ⟨_, rfl⟩
  rw [← hW] at hB
  obtain ⟨bA, bB, bC, sW⟩ := three_boxes _ _ _ _ _ _ _ W hW
  have gl := hE.glt
  replace bA := Lib.hid bA
  replace bB := Lib.hid bB
  replace bC := Lib.hid bC
  replace sW := Lib.hid sW
  have hW' := Lib.hid hW.symm
  replace hW := Lib.hid hW
  replace hE := Lib.hid hE
  replace hnl := Lib.hid hnl
  replace hk := Lib.hid hk
  replace hB := Lib.hid hB
  replace on := Lib.hid on
  replace rn := Lib.hid rn
  replace ka := Lib.hid ka
  generalize fuel - M.steps (.one o f q r) = F at *
  have C0 := bC.out 0 _ rfl
  clear hst hf hl hsp hnode ha
  obtain ⟨p0, -⟩ := bA.out 0 _ rfl
  obtain ⟨p1, -⟩ := bA.out 1 _ rfl
  obtain ⟨p2, -⟩ := bA.out 2 _ rfl
  obtain ⟨p3, -⟩ := bA.out 3 _ rfl
  obtain ⟨p4, -⟩ := bA.out 4 _ rfl
  obtain ⟨p5, -⟩ := bA.out 5 _ rfl
  obtain ⟨p6, -⟩ := bA.out 6 _ rfl
  obtain ⟨p7, -⟩ := bA.out 7 _ rfl
  obtain ⟨p8, -⟩ := bA.out 8 _ rfl
  clear C0
  rw [hW.out] at p0 p1 p2 p3 p4 p5 p6 p7 p8
  unfold callV
  go_enter Tryz.func41, Tryz.ntmps41
  go_wp2_with fail
  rw [hW'.out]
  refine (ka.out _ hB.out.self).mono ?_
  rintro en w2 ⟨a, c, b, kk, rfl, ra, rb, oa, ob, E2⟩
  clear c0 c1 c2 c3 c4 c5 c6 p0 p1 p2 p3 p4 p5 p6 p7 p8
  have B2 := bB.out.but E2.2.2.1 (by have := sW.out; omega) (by omega)
  have F2 := Lib.hid (hB.out.trans E2)
  have oa1 : Hid (Off (w.heap.size + 1) a x.s) := Lib.hid (oa.off (by omega) (by have := sW.out; omega))
  have ob1 : Hid (Off (w.heap.size + 1) b x.d) := Lib.hid (ob.off (by omega) (by have := sW.out; omega))
  have oa2 : Hid (Out g w.heap.size a x.s) := Lib.hid (oa.mono hB.out.le)
  have ob2 : Hid (Out g w.heap.size b x.d) := Lib.hid (ob.mono hB.out.le)
  replace ra := Lib.hid ra
  replace rb := Lib.hid rb
  clear oa ob E2
  obtain ⟨t0, u0⟩ := B2 0 _ rfl
  obtain ⟨t1, u1⟩ := B2 1 _ rfl
  obtain ⟨t2, u2⟩ := B2 2 _ rfl
  clear B2
  go_wp2
  refine bodyPost_ret (v := arrV x.ch a x.s.length c b x.d.length kk) (by simp [results, Tryz.results41, go_sem, cell?_set_same, arrV, t0, t1, t2]) rfl ?_
  exact ⟨a, c, b, kk, rfl, ra.out.but (But.set3 _ _ _ _ _ _) oa1.out, rb.out.but (But.set3 _ _ _ _ _ _) ob1.out, oa2.out, ob2.out, ((F2.out.setNew (by omega) _ _).setNew (by omega) _ _).setNew (by omega) _ _⟩

set_option maxRecDepth 20000 in
set_option maxHeartbeats 4000000 in
theorem value_two (env : ByteArray → Option Arr) (l : Ex) (o f q : Int) (r : Ex) (x : Arr) (ha : ActOk env (.two l o f q r) x) : ValOk env (.two l o f q r) x := by
  intro g mb tb tc fuel T pre post w hE hsp hl hst hf
  have hnode : T[pre.length]? = some (⟨7, o, f, q, 0, [], ⟨#[]⟩⟩ : Nd) := by rw [hsp, List.getElem?_append_right (Nat.le_refl _), Nat.sub_self]; rfl
  obtain ⟨a0, cc, c0, c1, c2, c3, c4, c5, c6, rn, on⟩ := ((hE.alloc (.cells #[.slice none 0 0, .int .i64 0, .int .i64 0, .pointer none, .bool false, .slice none 0 0, .slice none 0 0, .int .i64 0, .pointer (some ⟨g, 0, none⟩)] 101)).alloc (.cells #[.bool false, .slice none 0 0, .slice none 0 0] 24)).nodes.2 _ _ hnode
  have hlt : pre.length < T.length := (List.getElem?_eq_some_iff.1 hnode).1
  obtain ⟨k, hk⟩ : ∃ k, k = pre.length := ⟨_, rfl⟩
  dsimp only [List.length_nil] at c0 c1 c2 c3 c4 c5 c6
  have ka : ∀ W, EvAt g mb tb T env fuel W W → Calls Tryz.prog 68 #[callV g, .slice (some ⟨tb, 0, none⟩) T.length tc, .int .i64 (k : Int)] W fun en w' => ValPost x g mb tb T env (fuel - M.steps (.two l o f q r)) W en w' := fun W hW => by rw [hk]; exact ha g mb tb tc fuel T pre post W hW hsp hl hst hf
  rw [← hk] at c0 c1 c2 c3 c4 c5 c6 hlt
  rw [← hk]
  have hk4 : k ≤ 1000 := by omega
  obtain ⟨nl, hnl⟩ : ∃ nl, nl = T.length := ⟨_, rfl⟩
  rw [← hnl] at hlt ka
  rw [← hnl]
  have z0 : (0 : Int) ≤ ((k : Nat) : Int) := by omega
  have z1 : ((k : Nat) : Int) < ((nl : Nat) : Int) := by omega
  have zz : ((k : Nat) : Int).toNat = k := by simp
  have hB := ((hE.alloc (.cells #[.slice none 0 0, .int .i64 0, .int .i64 0, .pointer none, .bool false, .slice none 0 0, .slice none 0 0, .int .i64 0, .pointer (some ⟨g, 0, none⟩)] 101)).alloc (.cells #[.bool false, .slice none 0 0, .slice none 0 0] 24)).alloc (.cells #[.int .i64 7, .int .i64 o, .int .i64 f, .int .i64 q, .int .i64 0, .slice a0 0 cc, .string ⟨#[]⟩] 76)
  obtain ⟨W, hW⟩ : ∃ W : World, W = ((w.alloc (.cells #[.slice none 0 0, .int .i64 0, .int .i64 0, .pointer none, .bool false, .slice none 0 0, .slice none 0 0, .int .i64 0, .pointer (some ⟨g, 0, none⟩)] 101)).alloc (.cells #[.bool false, .slice none 0 0, .slice none 0 0] 24)).alloc (.cells #[.int .i64 7, .int .i64 o, .int .i64 f, .int .i64 q, .int .i64 0, .slice a0 0 cc, .string ⟨#[]⟩] 76) := ⟨_, rfl⟩
  rw [← hW] at hB
  obtain ⟨bA, bB, bC, sW⟩ := three_boxes _ _ _ _ _ _ _ W hW
  have gl := hE.glt
  replace bA := Lib.hid bA
  replace bB := Lib.hid bB
  replace bC := Lib.hid bC
  replace sW := Lib.hid sW
  have hW' := Lib.hid hW.symm
  replace hW := Lib.hid hW
  replace hE := Lib.hid hE
  replace hnl := Lib.hid hnl
  replace hk := Lib.hid hk
  replace hB := Lib.hid hB
  replace on := Lib.hid on
  replace rn := Lib.hid rn
  replace ka := Lib.hid ka
  generalize fuel - M.steps (.two l o f q r) = F at *
  have C0 := bC.out 0 _ rfl
  clear hst hf hl hsp hnode ha
  obtain ⟨p0, -⟩ := bA.out 0 _ rfl
  obtain ⟨p1, -⟩ := bA.out 1 _ rfl
  obtain ⟨p2, -⟩ := bA.out 2 _ rfl
  obtain ⟨p3, -⟩ := bA.out 3 _ rfl
  obtain ⟨p4, -⟩ := bA.out 4 _ rfl
  obtain ⟨p5, -⟩ := bA.out 5 _ rfl
  obtain ⟨p6, -⟩ := bA.out 6 _ rfl
  obtain ⟨p7, -⟩ := bA.out 7 _ rfl
  obtain ⟨p8, -⟩ := bA.out 8 _ rfl
  clear C0
  rw [hW.out] at p0 p1 p2 p3 p4 p5 p6 p7 p8
  unfold callV
  go_enter Tryz.func41, Tryz.ntmps41
  go_wp2_with fail
  rw [hW'.out]
  refine (ka.out _ hB.out.self).mono ?_
  rintro en w2 ⟨a, c, b, kk, rfl, ra, rb, oa, ob, E2⟩
  clear c0 c1 c2 c3 c4 c5 c6 p0 p1 p2 p3 p4 p5 p6 p7 p8
  have B2 := bB.out.but E2.2.2.1 (by have := sW.out; omega) (by omega)
  have F2 := Lib.hid (hB.out.trans E2)
  have oa1 : Hid (Off (w.heap.size + 1) a x.s) := Lib.hid (oa.off (by omega) (by have := sW.out; omega))
  have ob1 : Hid (Off (w.heap.size + 1) b x.d) := Lib.hid (ob.off (by omega) (by have := sW.out; omega))
  have oa2 : Hid (Out g w.heap.size a x.s) := Lib.hid (oa.mono hB.out.le)
  have ob2 : Hid (Out g w.heap.size b x.d) := Lib.hid (ob.mono hB.out.le)
  replace ra := Lib.hid ra
  replace rb := Lib.hid rb
  clear oa ob E2
  obtain ⟨t0, u0⟩ := B2 0 _ rfl
  obtain ⟨t1, u1⟩ := B2 1 _ rfl
  obtain ⟨t2, u2⟩ := B2 2 _ rfl
  clear B2
  go_wp2
  refine bodyPost_ret (v := arrV x.ch a x.s.length c b x.d.length kk) (by simp [results, Tryz.results41, go_sem, cell?_set_same, arrV, t0, t1, t2]) rfl ?_
  exact ⟨a, c, b, kk, rfl, ra.out.but (But.set3 _ _ _ _ _ _) oa1.out, rb.out.but (But.set3 _ _ _ _ _ _) ob1.out, oa2.out, ob2.out, ((F2.out.setNew (by omega) _ _).setNew (by omega) _ _).setNew (by omega) _ _⟩

set_option maxRecDepth 20000 in
set_option maxHeartbeats 4000000 in
theorem value_nums (env : ByteArray → Option Arr) (l : List Int) (hl0 : l ≠ []) (hl1 : l.length ≤ 1000) : ValOk env (.nums l) (numsA l) := by
  intro g mb tb tc fuel T pre post w hE hsp hl hst hf
  generalize hx : numsA l = x
  replace hx := Lib.hid hx
  have hnode : T[pre.length]? = some (⟨1, 0, 0, 0, 0, l, ⟨#[]⟩⟩ : Nd) := by rw [hsp, List.getElem?_append_right (Nat.le_refl _), Nat.sub_self]; rfl
  obtain ⟨a0, cc, c0, c1, c2, c3, c4, c5, c6, rn, on⟩ := ((hE.alloc (.cells #[.slice none 0 0, .int .i64 0, .int .i64 0, .pointer none, .bool false, .slice none 0 0, .slice none 0 0, .int .i64 0, .pointer (some ⟨g, 0, none⟩)] 101)).alloc (.cells #[.bool false, .slice none 0 0, .slice none 0 0] 24)).nodes.2 _ _ hnode
  have hlt : pre.length < T.length := (List.getElem?_eq_some_iff.1 hnode).1
  obtain ⟨k, hk⟩ : ∃ k, k = pre.length := ⟨_, rfl⟩
  rw [← hk] at c0 c1 c2 c3 c4 c5 c6 hlt
  rw [← hk]
  have hk4 : k ≤ 1000 := by omega
  obtain ⟨nl, hnl⟩ : ∃ nl, nl = T.length := ⟨_, rfl⟩
  rw [← hnl] at hlt
  rw [← hnl]
  have z0 : (0 : Int) ≤ ((k : Nat) : Int) := by omega
  have z1 : ((k : Nat) : Int) < ((nl : Nat) : Int) := by omega
  have zz : ((k : Nat) : Int).toNat = k := by simp
  have hB := ((hE.alloc (.cells #[.slice none 0 0, .int .i64 0, .int .i64 0, .pointer none, .bool false, .slice none 0 0, .slice none 0 0, .int .i64 0, .pointer (some ⟨g, 0, none⟩)] 101)).alloc (.cells #[.bool false, .slice none 0 0, .slice none 0 0] 24)).alloc (.cells #[.int .i64 1, .int .i64 0, .int .i64 0, .int .i64 0, .int .i64 0, .slice a0 l.length cc, .string ⟨#[]⟩] 76)
  obtain ⟨W, hW⟩ : ∃ W : World, W = ((w.alloc (.cells #[.slice none 0 0, .int .i64 0, .int .i64 0, .pointer none, .bool false, .slice none 0 0, .slice none 0 0, .int .i64 0, .pointer (some ⟨g, 0, none⟩)] 101)).alloc (.cells #[.bool false, .slice none 0 0, .slice none 0 0] 24)).alloc (.cells #[.int .i64 1, .int .i64 0, .int .i64 0, .int .i64 0, .int .i64 0, .slice a0 l.length cc, .string ⟨#[]⟩] 76) := ⟨_, rfl⟩
  rw [← hW] at hB
  obtain ⟨bA, bB, bC, sW⟩ := three_boxes _ _ _ _ _ _ _ W hW
  have gl := hE.glt
  replace bA := Lib.hid bA
  replace bB := Lib.hid bB
  replace bC := Lib.hid bC
  replace sW := Lib.hid sW
  have hW' := Lib.hid hW.symm
  replace hW := Lib.hid hW
  replace hE := Lib.hid hE
  replace hnl := Lib.hid hnl
  replace hk := Lib.hid hk
  replace hB := Lib.hid hB
  replace on := Lib.hid on
  replace rn := Lib.hid rn
  have st : fuel = (fuel - M.steps (.nums l)) + 1 := by simp only [M.steps] at hst ⊢; omega
  have hst2 : fuel - M.steps (.nums l) < 20000 := by simp only [M.steps] at hst ⊢; omega
  generalize fuel - M.steps (.nums l) = F at *
  subst st
  clear hst hf hl hsp hnode
  obtain ⟨p8, -⟩ := bA.out 8 _ rfl
  rw [hW.out] at p8
  unfold callV
  go_enter Tryz.func41, Tryz.ntmps41
  go_wp2_with fail
  rw [hW'.out]
  refine (step_any g mb tb T env F _ hB.out.self hst2).mono ?_
  rintro en w2 ⟨rfl, E2⟩
  clear c0 c1 c2 c3 c4 c5 c6 p8
  have B2 := bB.out.but E2.2.2.1 (by have := sW.out; omega) (by omega)
  have C2 := bC.out.but E2.2.2.1 (by have := sW.out; omega) (by omega)
  have A2 := bA.out.but E2.2.2.1 (by have := sW.out; omega) (by omega)
  have F2 := Lib.hid (hB.out.trans E2)
  have sw2 : Hid (w.heap.size + 1 + 1 < w2.heap.size) := Lib.hid (C2.lt 0 _ rfl)
  have rn0 : Row w2 a0 l := rn.out.but (fun b hb hne => (E2.2.2.1 b (by have := sW.out; simp only [World.size_alloc] at hb; omega) hne).trans (by rw [hW.out]; exact heap_alloc_old _ _ hb)) on.out
  have kn : Hid (Calls Tryz.prog 70 #[.slice a0 l.length cc] w2 fun en w' => VecPostF x w2 en w') := Lib.hid (by have h := nums_any a0 l.length cc l w2 rn0 rfl hl1; rw [hx.out] at h; exact h)
  have hle := F2.out.le
  clear E2 A2 rn0
  obtain ⟨y0, x0⟩ := C2 0 _ rfl
  obtain ⟨y5, x5⟩ := C2 5 _ rfl
  replace B2 := Lib.hid B2
  obtain ⟨L, hL⟩ : ∃ L, L = l.length := ⟨_, rfl⟩
  rw [← hL] at kn y5
  replace hL := Lib.hid hL
  clear hl1 hl0 x0 x5 C2
  go_wp2_with fail
  refine kn.out.mono ?_
  rintro en w3 ⟨a, c, b, kk, rfl, ra, rb, fa, fb, -, hb3⟩
  clear y0 y5
  have B3 := B2.out.same (hb3.block _ (by have := sw2.out; omega))
  have F3 := Lib.hid (F2.out.step hb3)
  replace ra := Lib.hid ra
  replace rb := Lib.hid rb
  replace fa := Lib.hid fa
  replace fb := Lib.hid fb
  clear hb3
  obtain ⟨t0, u0⟩ := B3 0 _ rfl
  obtain ⟨t1, u1⟩ := B3 1 _ rfl
  obtain ⟨t2, u2⟩ := B3 2 _ rfl
  clear B3
  go_wp2
  refine bodyPost_ret (v := arrV x.ch a x.s.length c b x.d.length kk) (by simp [results, Tryz.results41, go_sem, cell?_set_same, arrV, t0, t1, t2]) rfl ?_
  refine ⟨a, c, b, kk, rfl, ra.out.but (But.set3 _ _ _ _ _ _) (fun _ p e => ?_), rb.out.but (But.set3 _ _ _ _ _ _) (fun _ p e => ?_), fa.out.out hle, fb.out.out hle, ((F3.out.setNew (by omega) _ _).setNew (by omega) _ _).setNew (by omega) _ _⟩
  · have h1 := fa.out p e
    have := sw2.out
    omega
  · have h1 := fb.out p e
    have := sw2.out
    omega

set_option maxRecDepth 20000 in
set_option maxHeartbeats 4000000 in
theorem value_name (env : ByteArray → Option Arr) (s : ByteArray) (x : Arr) (hs : env s = some x) : ValOk env (.name s) x := by
  intro g mb tb tc fuel T pre post w hE hsp hl hst hf
  have hnode : T[pre.length]? = some (⟨3, 0, 0, 0, 0, [], s⟩ : Nd) := by rw [hsp, List.getElem?_append_right (Nat.le_refl _), Nat.sub_self]; rfl
  obtain ⟨a0, cc, c0, c1, c2, c3, c4, c5, c6, rn, on⟩ := ((hE.alloc (.cells #[.slice none 0 0, .int .i64 0, .int .i64 0, .pointer none, .bool false, .slice none 0 0, .slice none 0 0, .int .i64 0, .pointer (some ⟨g, 0, none⟩)] 101)).alloc (.cells #[.bool false, .slice none 0 0, .slice none 0 0] 24)).nodes.2 _ _ hnode
  have hlt : pre.length < T.length := (List.getElem?_eq_some_iff.1 hnode).1
  obtain ⟨k, hk⟩ : ∃ k, k = pre.length := ⟨_, rfl⟩
  dsimp only [List.length_nil] at c0 c1 c2 c3 c4 c5 c6
  rw [← hk] at c0 c1 c2 c3 c4 c5 c6 hlt
  rw [← hk]
  have hk4 : k ≤ 1000 := by omega
  obtain ⟨nl, hnl⟩ : ∃ nl, nl = T.length := ⟨_, rfl⟩
  rw [← hnl] at hlt
  rw [← hnl]
  have z0 : (0 : Int) ≤ ((k : Nat) : Int) := by omega
  have z1 : ((k : Nat) : Int) < ((nl : Nat) : Int) := by omega
  have zz : ((k : Nat) : Int).toNat = k := by simp
  have hB := ((hE.alloc (.cells #[.slice none 0 0, .int .i64 0, .int .i64 0, .pointer none, .bool false, .slice none 0 0, .slice none 0 0, .int .i64 0, .pointer (some ⟨g, 0, none⟩)] 101)).alloc (.cells #[.bool false, .slice none 0 0, .slice none 0 0] 24)).alloc (.cells #[.int .i64 3, .int .i64 0, .int .i64 0, .int .i64 0, .int .i64 0, .slice a0 0 cc, .string s] 76)
  obtain ⟨W, hW⟩ : ∃ W : World, W = ((w.alloc (.cells #[.slice none 0 0, .int .i64 0, .int .i64 0, .pointer none, .bool false, .slice none 0 0, .slice none 0 0, .int .i64 0, .pointer (some ⟨g, 0, none⟩)] 101)).alloc (.cells #[.bool false, .slice none 0 0, .slice none 0 0] 24)).alloc (.cells #[.int .i64 3, .int .i64 0, .int .i64 0, .int .i64 0, .int .i64 0, .slice a0 0 cc, .string s] 76) := ⟨_, rfl⟩
  rw [← hW] at hB
  obtain ⟨bA, bB, bC, sW⟩ := three_boxes _ _ _ _ _ _ _ W hW
  have gl := hE.glt
  replace bA := Lib.hid bA
  replace bB := Lib.hid bB
  replace bC := Lib.hid bC
  replace sW := Lib.hid sW
  have hW' := Lib.hid hW.symm
  replace hW := Lib.hid hW
  replace hE := Lib.hid hE
  replace hnl := Lib.hid hnl
  replace hk := Lib.hid hk
  replace hB := Lib.hid hB
  replace on := Lib.hid on
  replace rn := Lib.hid rn
  have st : fuel = (fuel - M.steps (.name s)) + 1 := by simp only [M.steps] at hst ⊢; omega
  have hst2 : fuel - M.steps (.name s) < 20000 := by simp only [M.steps] at hst ⊢; omega
  generalize fuel - M.steps (.name s) = F at *
  subst st
  clear hst hf hl hsp hnode
  obtain ⟨p8, -⟩ := bA.out 8 _ rfl
  rw [hW.out] at p8
  unfold callV
  go_enter Tryz.func41, Tryz.ntmps41
  go_wp2_with fail
  rw [hW'.out]
  refine (step_any g mb tb T env F _ hB.out.self hst2).mono ?_
  rintro en w2 ⟨rfl, E2⟩
  clear c0 c1 c2 c3 c4 c5 c6 p8
  have B2 := bB.out.but E2.2.2.1 (by have := sW.out; omega) (by omega)
  have C2 := bC.out.but E2.2.2.1 (by have := sW.out; omega) (by omega)
  have A2 := bA.out.but E2.2.2.1 (by have := sW.out; omega) (by omega)
  have F2 := Lib.hid (hB.out.trans E2)
  have sw2 : Hid (w.heap.size + 1 + 1 < w2.heap.size) := Lib.hid (C2.lt 0 _ rfl)
  obtain ⟨a, c, b, kk, hlook, ra, rb, la, lb⟩ := look_any F2.out.names hs
  obtain ⟨⟨g0, -⟩, -⟩ := F2.out.1
  have hmb : mb < w2.heap.size := by
    obtain ⟨-, n, D, ⟨es, clock, hm, -⟩, -⟩ := F2.out.names
    exact (Array.getElem?_eq_some_iff.1 hm).1
  have k0 := hlook w2 rfl
  have k2 := hlook w2.drew rfl
  have k3 : ∀ o : Obj, (Instr.lookup 96 (.map (some mb)) (.string s) true).run Tryz.prog (w2.alloc o).drew = .ok (.tuple #[arrV x.ch a x.s.length c b x.d.length kk, .bool true]) (w2.alloc o).drew := fun o => hlook _ (heap_alloc_old _ _ hmb)
  have k1 : ∀ o : Obj, (Instr.lookup 96 (.map (some mb)) (.string s) true).run Tryz.prog (w2.alloc o) = .ok (.tuple #[arrV x.ch a x.s.length c b x.d.length kk, .bool true]) (w2.alloc o) := fun o => hlook _ (heap_alloc_old _ _ hmb)
  have hle := F2.out.le
  obtain ⟨p8, -⟩ := A2 8 _ rfl
  obtain ⟨y0, x0⟩ := C2 0 _ rfl
  obtain ⟨y6, x6⟩ := C2 6 _ rfl
  have nA : w.heap.size < w2.heap.size := by have := sw2.out; omega
  have nC := sw2.out
  have ng : g < w2.heap.size := by omega
  have j8 : ∀ o : Obj, (w2.alloc o).cell? ⟨w.heap.size, 8, none⟩ = some (.pointer (some ⟨g, 0, none⟩)) := fun o => (cell_of_eq (heap_alloc_old _ _ nA) _).trans p8
  have j6 : ∀ o : Obj, (w2.alloc o).cell? ⟨w.heap.size + 1 + 1, 6, none⟩ = some (.string s) := fun o => (cell_of_eq (heap_alloc_old _ _ nC) _).trans y6
  have j0 : ∀ o : Obj, (w2.alloc o).cell? ⟨g, 0, none⟩ = some (.map (some mb)) := fun o => (cell_of_eq (heap_alloc_old _ _ ng) _).trans g0
  replace B2 := Lib.hid B2
  replace ra := Lib.hid ra
  replace rb := Lib.hid rb
  replace la := Lib.hid la
  replace lb := Lib.hid lb
  clear E2 A2 C2 hlook hs
  go_upto_region 20 with fail
  go_region
  have hb4 := ((Below.refl w2.heap.size w2).alloc (Nat.le_refl _) (.cells #[.bool x.ch, .slice a x.s.length c, .slice b x.d.length kk] 24)).drew
  have R4 : BoxC w2.heap.size [.bool x.ch, .slice a x.s.length c, .slice b x.d.length kk] (w2.alloc (.cells #[.bool x.ch, .slice a x.s.length c, .slice b x.d.length kk] 24)).drew := (boxC_alloc w2 #[.bool x.ch, .slice a x.s.length c, .slice b x.d.length kk] 24).same rfl
  have B4 := B2.out.same (hb4.block _ (by omega))
  have F4 := Lib.hid (F2.out.step hb4)
  have ra4 := Lib.hid (ra.out.below hb4)
  have rb4 := Lib.hid (rb.out.below hb4)
  clear j8 j6 j0 k0 k1 k2 k3 p8 y0 y6 x0 x6 g0 hb4 ra rb F2 B2
  generalize (w2.alloc (.cells #[.bool x.ch, .slice a x.s.length c, .slice b x.d.length kk] 24)).drew = w4 at *
  obtain ⟨r0, -⟩ := R4 0 _ rfl
  obtain ⟨r1, -⟩ := R4 1 _ rfl
  obtain ⟨r2, -⟩ := R4 2 _ rfl
  obtain ⟨t0, u0⟩ := B4 0 _ rfl
  obtain ⟨t1, u1⟩ := B4 1 _ rfl
  obtain ⟨t2, u2⟩ := B4 2 _ rfl
  clear R4 B4
  go_wp2
  refine bodyPost_ret (v := arrV x.ch a x.s.length c b x.d.length kk) (by simp [results, Tryz.results41, go_sem, cell?_set_same, arrV, t0, t1, t2]) rfl ?_
  exact ⟨a, c, b, kk, rfl, ra4.out.but (But.set3 _ _ _ _ _ _) (la.out.out.off (by omega) (Nat.lt_succ_self _)), rb4.out.but (But.set3 _ _ _ _ _ _) (lb.out.out.off (by omega) (Nat.lt_succ_self _)), la.out.out, lb.out.out, ((F4.out.setNew (by omega) _ _).setNew (by omega) _ _).setNew (by omega) _ _⟩

/-- An expression without indices has its worth, if it is plain. -/
theorem val_ok (env : ByteArray → Option Arr) (hpick : ∀ (e b : Ex) (x y z : Arr), ValOk env e x → ValOk env b y → e.plain → b.plain → Pick1 x y z → ValOk env (.pick e b) z) : ∀ (e : Ex) (x : Arr), Ev env e x → e.plain → ValOk env e x := by
  intro e x h
  induction h with
  | nums l h0 h1 => intro _; exact value_nums env l h0 h1
  | name s x h => intro _; exact value_name env s x h
  | one o f g r x y h ho h1 ih => intro hp; exact value_one env o f g r y (acted_one env o f g r x y (ih hp.2) ho h1)
  | two o f g l r x y z hl hr ho h2 ihl ihr => intro hp; exact value_two env l o f g r z (acted_two env o f g l r x y z (ihl hp.2.1) (ihr hp.2.2) hp.2.1 ho h2)
  | pick e b x y z he hb h ihe ihb => intro hp; exact hpick e b x y z (ihe hp.1) (ihb hp.2) hp.1 hp.2 h
end Go.Proofs.YtaplaoelamnoiaaGreatDoor
