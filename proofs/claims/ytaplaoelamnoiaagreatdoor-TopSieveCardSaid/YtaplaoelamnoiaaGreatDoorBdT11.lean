/- Texts that lie in one file: what is plain, rows, boxes, squares, and what is known of a world. No condition. -/
import Derived.Test.YtaplaoelamnoiaaGreatDoorBd16
import Derived.BigQuiet
import Derived.Tactics
import Derived.Tactics2
import Derived.Defers
import Derived.Recover
import Derived.Laws.Pointers
/- The parser's method line, and the methods flat of whole expressions. Condition: the parser and its words lie. -/
namespace Go.Proofs.YtaplaoelamnoiaaGreatDoor
open Go.RowKit

set_option maxRecDepth 20000 in
set_option maxHeartbeats 4000000 in
theorem line_any (g tb tc : Nat) (ts : List Tok) (w : World) (h : Par g tb tc ts 0 w w) (h1 : 1 < ts.length) (hn : M.kindAt ts 0 = 3 → M.kindAt ts 1 ≠ 10) (n : Nat) (e : Ex) (j : Nat) (he : M.pExpr ts n 0 = some (e, j)) :
    Calls Tryz.prog 26 #[.pointer (some ⟨g, 0, none⟩)] w fun en w' => ∃ v, en = .returned v ∧ ExV (g + 1) w' e v ∧ Par g tb tc ts j w w' := by
  have ke := fun W (hW : Par g tb tc ts 0 W W) => rc_pExpr ts n g tb tc 0 W hW e j he
  obtain ⟨⟨⟨a, b, c⟩, d⟩, hta, -⟩ := id h
  have e0 : M.kindAt ts 0 = (ts[0]'(by omega)).kind := by unfold M.kindAt; rw [List.getElem?_eq_getElem (by omega)]
  have e1 : M.kindAt ts 1 = (ts[1]'h1).kind := by unfold M.kindAt; rw [List.getElem?_eq_getElem h1]
  obtain ⟨t0, -⟩ := hta 0 (ts[0]'(by omega)) (List.getElem?_eq_getElem (by omega))
  obtain ⟨t1, -⟩ := hta 1 (ts[1]'h1) (List.getElem?_eq_getElem h1)
  rw [← e0] at t0
  rw [← e1] at t1
  rw [Nat.zero_mul] at t0
  rw [Nat.one_mul] at t1
  generalize M.kindAt ts 0 = k0 at *
  generalize M.kindAt ts 1 = k1 at *
  have z1 : (1 : Int) < ((ts.length : Nat) : Int) := by omega
  have z0 : (0 : Int) < ((ts.length : Nat) : Int) := by omega
  have z2 : decide ((1 : Int) < ((ts.length : Nat) : Int)) = true := decide_eq_true z1
  replace ke := Lib.hid ke
  replace h := Lib.hid h
  replace hta := Lib.hid hta
  replace h1 := Lib.hid h1
  clear e0 e1 he
  by_cases hk : k0 = 3
  · have hk1 : (k1 == 10) = false := by rw [beq_eq_false_iff_ne]; exact hn hk
    subst hk
    replace hn := Lib.hid hn
    go_enter Tryz.func26, Tryz.ntmps26
    go_wp2_with fail
    refine (ke.out _ h.out).mono ?_
    rintro en w5 ⟨v, rfl, hv, hP5⟩
    obtain ⟨T, x, rfl⟩ := hv.face
    replace hv := Lib.hid hv
    replace hP5 := Lib.hid hP5
    go_wp2
    go_ret
    exact ⟨_, rfl, hv.out, hP5.out⟩
  · have hk1 : (k0 == 3) = false := by rw [beq_eq_false_iff_ne]; exact hk
    replace hn := Lib.hid hn
    replace hk := Lib.hid hk
    go_enter Tryz.func26, Tryz.ntmps26
    go_wp2_with fail
    refine (ke.out _ h.out).mono ?_
    rintro en w5 ⟨v, rfl, hv, hP5⟩
    obtain ⟨T, x, rfl⟩ := hv.face
    replace hv := Lib.hid hv
    replace hP5 := Lib.hid hP5
    go_wp2
    go_ret
    exact ⟨_, rfl, hv.out, hP5.out⟩

/-- Expressions that are small enough for what is shown here. -/
def Ex.small : Ex → Prop
  | .nums l => l.length < 100000
  | .name _ => True
  | .one _ _ _ r => r.small
  | .two l _ _ _ r => l.small ∧ r.small
  | .pick _ _ => False
theorem flat_any : ∀ e : Ex, e.small → FlatOk e
  | .nums l, h => flat_nums l h
  | .name s, _ => flat_name s
  | .one o f g r, h => flat_one o f g r (flat_any r h)
  | .two l o f g r, h => flat_two l o f g r (flat_any l h.1) (flat_any r h.2)
  | .pick _ _, h => False.elim h
end Go.Proofs.YtaplaoelamnoiaaGreatDoor

/- The call tree.Parse: good words that are an expression. Condition: the library's tables are laid; the words lie. -/
namespace Go.Proofs.YtaplaoelamnoiaaGreatDoor
open Go.RowKit

theorem parseIdle (a b c : Value) (w : World) :
    CallsD Tryz.prog 25 #[a, b, c] .returning w fun e u' w' => e = .returned (.tuple #[]) ∧ u' = .returning ∧ w' = w := by
  refine callsD_of_wpS Tryz.func25 rfl fun c₀ cs hu => ?_
  apply wpS_seq
  generalize hy : (Code.block 0 _) = y
  apply wpS_region
  simp [wpOpsS, go_sem, recoverD, hu, Tryz.ntmps25, Exit.thenS]
  rw [show (#[a, b, c] ++ (Array.replicate 11 undef).setIfInBounds 3 Value.nilIface : Array Value) = #[a, b, c, undef, undef, undef, .nilIface, undef, undef, undef, undef, undef, undef, undef] from rfl]
  subst hy
  refine wpS_of_wp ?_
  go_wp2
  cases c₀
  simp_all [bodyPostS, results, Tryz.results25]

theorem exV_meth {B : Nat} {w : World} {e : Ex} {T : TypeId} {x : Value} (h : ExV B w e (.iface T x)) : ∀ (n : Nat), n ≠ 0 → ∀ W : World, (method n T x "ravelin/tree.flat").run Tryz.prog W = .ok (M.flatFn e, x) W := by
  intro n hn W
  cases e with
  | nums l => obtain ⟨sv, hv, -⟩ := h; cases hv; exact meth_nums n hn _ W
  | name s => cases h; exact meth_name n hn _ W
  | one o f g r => obtain ⟨vr, hv, -⟩ := h; cases hv; exact meth_one n hn _ _ _ _ _ _ W
  | two l o f g r => obtain ⟨vl, vr, hv, -⟩ := h; cases hv; exact meth_two n hn _ _ _ _ _ _ _ W
  | pick e b => obtain ⟨ve, vb, a, c, hv, -⟩ := h; cases hv; exact meth_pick n hn _ _ W

theorem Nds.same {B : Nat} {w w' : World} {v : Value} {l : List Nd} (h : Nds B w v l) (hh : ∀ b, B ≤ b → b < w.heap.size → w'.heap[b]? = w.heap[b]?) : Nds B w' v l := by
  obtain ⟨ls, h1, h2, h3⟩ := h
  exact ⟨ls, h1, ownE_same h2 hh, fun p hp => ownE_same (h3 p hp) hh⟩
theorem Nds.low {B B' : Nat} {w : World} {v : Value} {l : List Nd} (h : Nds B w v l) (hB : B' ≤ B) : Nds B' w v l := by
  obtain ⟨ls, h1, h2, h3⟩ := h
  refine ⟨ls, h1, ?_, fun p hp => (h3 p hp).low hB⟩
  obtain ⟨hl, h⟩ := h2
  refine ⟨hl, ?_⟩
  rcases h with h | ⟨g, cap, cur, hv, hg, hrest⟩
  · exact .inl h
  · exact .inr ⟨g, cap, cur, hv, by omega, hrest⟩

set_option maxRecDepth 20000 in
set_option maxHeartbeats 8000000 in
theorem parse_any (ts : List Tok) (tb tc : Nat) (w : World) (hW : TokAt tb ts w) (hT : Tz w) (h8 : 8 ≤ w.heap.size) (htb : tb < w.heap.size) (htc : ts.length ≤ tc) (hg : ∀ t ∈ ts, t.good) (hl : ts.length < 200) (h1 : 1 < ts.length) (hn : M.kindAt ts 0 = 3 → M.kindAt ts 1 ≠ 10)
    (n : Nat) (e : Ex) (he : M.pExpr ts n 0 = some (e, ts.length)) (hf : FlatOk e) (h4 : (M.flat e).length ≤ 400) :
    Calls Tryz.prog 20 #[.slice (some ⟨tb, 0, none⟩) ts.length tc] w fun en w' => ∃ v, en = .returned (.tuple #[v, .int .i64 0, .nilIface]) ∧ Nds w.heap.size w' v (M.flat e) ∧ Below w.heap.size w w' := by
  obtain ⟨L, hL⟩ : ∃ L, L = M.flat e := ⟨_, rfl⟩
  rw [← hL] at h4 ⊢
  replace hL := Lib.hid hL
  have hmf : ∀ (fn : Fn) (first cap : Array Value) (w : World), (Instr.makeFunc fn first cap).run Tryz.prog w = .ok (.func fn first cap) w := fun _ _ _ _ => rfl
  have hA := boxC_alloc w #[.slice none 0 0] 50
  have hB := boxC_alloc (w.alloc (.cells #[.slice none 0 0] 50)) #[.int .i64 0] 3
  have hC := boxC_alloc ((w.alloc (.cells #[.slice none 0 0] 50)).alloc (.cells #[.int .i64 0] 3)) #[.nilIface] 29
  simp only [World.size_alloc] at hB hC
  obtain ⟨W, hWe⟩ : ∃ W : World, W = ((w.alloc (.cells #[.slice none 0 0] 50)).alloc (.cells #[.int .i64 0] 3)).alloc (.cells #[.nilIface] 29) := ⟨_, rfl⟩
  have hb0 : Below w.heap.size w W := by rw [hWe]; exact (((Below.refl _ w).alloc (Nat.le_refl _) _).alloc (by simp) _).alloc (by simp; omega) _
  have hsW : W.heap.size = w.heap.size + 1 + 1 + 1 := by rw [hWe]; simp
  have hA4 : BoxC w.heap.size [.slice none 0 0] W := hA.same (by rw [hWe]; exact (heap_alloc_old _ _ (by simp; omega)).trans (heap_alloc_old _ _ (by simp)))
  have hB4 : BoxC (w.heap.size + 1) [.int .i64 0] W := hB.same (by rw [hWe]; exact heap_alloc_old _ _ (by simp))
  rw [← hWe] at hC
  have hTW := hW.same (hb0.block tb htb)
  have hTz := hT.below hb0 h8
  have e1 : decide (200 < ((ts.length : Nat) : Int)) = false := decide_eq_false (by omega)
  replace hA4 := Lib.hid hA4
  replace hB4 := Lib.hid hB4
  replace hC := Lib.hid hC
  replace hb0 := Lib.hid hb0
  replace hsW := Lib.hid hsW
  replace hTW := Lib.hid hTW
  replace hTz := Lib.hid hTz
  replace hW := Lib.hid hW
  replace hT := Lib.hid hT
  have hWe' := Lib.hid hWe.symm
  replace hWe := Lib.hid hWe
  replace htc := Lib.hid htc
  clear hA hB
  go_enter_defers Tryz.func20, Tryz.ntmps20
  go_wp2
  rw [hWe'.out]
  go_loopw [16] (fun v wr => ∃ i : Nat, v = .int .i64 i ∧ i ≤ ts.length ∧ Below W.heap.size W wr) (fun v _ => ts.length - (intOf v).toNat)
  case atStart => exact ⟨0, rfl, Nat.zero_le _, Below.refl _ _⟩
  case round =>
    obtain ⟨i, rfl, hi, hb⟩ := hrel
    by_cases hlt : i < ts.length
    case pos =>
      have z1 : ((i : Nat) : Int) < ((ts.length : Nat) : Int) := by omega
      have z2 : ((i : Nat) : Int) + 1 ≤ ((tc : Nat) : Int) := by have := htc.out; omega
      have z3 : (0 : Int) ≤ ((i : Nat) : Int) + 1 := by omega
      have z4 : (0 : Int) ≤ ((i : Nat) : Int) := by omega
      have z5 : (((i : Nat) : Int) + 1).toNat = i + 1 := by omega
      have z6 : i + 1 - i = 1 := by omega
      have ks := fun c => spell_any ts[i] tb (i * 5) c wr (hg _ (List.getElem_mem hlt)) (hTz.out.below hb (by have := hsW.out; omega)) (by have := hb.size; have := hsW.out; omega) (fun j u hj => by
        obtain ⟨a0, a1, a2, a3, a4⟩ := (hTW.out.same (hb.block tb (by have := hsW.out; omega))) i _ (List.getElem?_eq_getElem hlt)
        match j, hj with
        | 0, hj => cases hj; exact a0
        | 1, hj => cases hj; exact a1
        | 2, hj => cases hj; exact a2
        | 3, hj => cases hj; exact a3
        | 4, hj => cases hj; exact a4
        | j + 5, hj => cases hj)
      replace ks := Lib.hid ks
      replace hb := Lib.hid hb
      go_wp2_with fail
      refine (ks.out _).mono ?_
      rintro en w2 ⟨x, rfl, hb2⟩
      replace hb2 := Lib.hid hb2
      go_wp2
      go_roundw
      case rel => exact ⟨i + 1, by simp, hlt, hb.out.trans (hb2.out.mono hb.out.size)⟩
      case measure => simp [intOf]; omega
    case neg =>
      have hie : i = ts.length := by omega
      subst hie
      have hPB := boxC_alloc wr #[.slice (some ⟨tb, 0, none⟩) ts.length tc, .int .i64 0, .int .i64 0] 65
      have hbp : Below wr.heap.size wr (wr.alloc (.cells #[.slice (some ⟨tb, 0, none⟩) ts.length tc, .int .i64 0, .int .i64 0] 65)) := (Below.refl _ wr).alloc (Nat.le_refl _) _
      have hszr := hb.size
      have hbW : Below w.heap.size w wr := hb0.out.trans (hb.mono (by have := hsW.out; omega))
      have htr : tb < wr.heap.size := by have := hsW.out; omega
      have hTr := hTW.out.same (hb.block tb (by have := hsW.out; omega))
      obtain ⟨w4, hw4⟩ : ∃ w4 : World, w4 = wr.alloc (.cells #[.slice (some ⟨tb, 0, none⟩) ts.length tc, .int .i64 0, .int .i64 0] 65) := ⟨_, rfl⟩
      have hs4 : w4.heap.size = wr.heap.size + 1 := by rw [hw4]; simp
      rw [← hw4] at hPB hbp
      have hP : Par wr.heap.size tb tc ts 0 w4 w4 := Par.start ⟨⟨(hPB 0 _ rfl).1, (hPB 1 _ rfl).1, (hPB 2 _ rfl).1⟩, (hPB 1 _ rfl).2⟩ (hTr.same (hbp.block tb htr)) htr (by omega)
      have kl := line_any wr.heap.size tb tc ts w4 hP h1 hn n e _ he
      have A4 : BoxC w.heap.size [.slice none 0 0] w4 := hA4.out.same ((hbp.block _ (by have := hsW.out; omega)).trans (hb.block _ (by have := hsW.out; omega)))
      have B4 : BoxC (w.heap.size + 1) [.int .i64 0] w4 := hB4.out.same ((hbp.block _ (by have := hsW.out; omega)).trans (hb.block _ (by have := hsW.out; omega)))
      have C4 : BoxC (w.heap.size + 1 + 1) [.nilIface] w4 := hC.out.same ((hbp.block _ (by have := hsW.out; omega)).trans (hb.block _ (by have := hsW.out; omega)))
      have hb4 : Below w.heap.size w w4 := hbW.trans (hbp.mono (by have := hsW.out; omega))
      have hgN : w.heap.size + 1 + 1 < wr.heap.size := by have := hsW.out; omega
      have e2 : decide (((ts.length : Nat) : Int) < ((ts.length : Nat) : Int)) = false := decide_eq_false (by omega)
      replace kl := Lib.hid kl
      replace hb := Lib.hid hb
      replace hPB := Lib.hid hPB
      replace hbp := Lib.hid hbp
      replace hbW := Lib.hid hbW
      replace hTr := Lib.hid hTr
      replace hP := Lib.hid hP
      replace A4 := Lib.hid A4
      replace B4 := Lib.hid B4
      replace C4 := Lib.hid C4
      replace hb4 := Lib.hid hb4
      replace hs4 := Lib.hid hs4
      replace hgN := Lib.hid hgN
      replace hszr := Lib.hid hszr
      have hw4' := Lib.hid hw4.symm
      replace hw4 := Lib.hid hw4
      go_wp2_with fail
      rw [hw4'.out]
      refine kl.out.mono ?_
      rintro en w6 ⟨v, rfl, hv, hP6⟩
      obtain ⟨T, x, rfl⟩ := hv.face
      have kf := fun W hb hN => hf (wr.heap.size + 1) w6 W T x (.slice none 0 0) [] hv hb hN (by rw [← hL.out]; simp; omega)
      obtain ⟨⟨⟨p0, p1, p2⟩, q1⟩, -⟩ := id hP6
      have A6 := A4.out.same (hP6.2.2.1 w.heap.size (by have := hs4.out; have := hgN.out; omega) (by have := hgN.out; omega))
      have B6 := B4.out.same (hP6.2.2.1 (w.heap.size + 1) (by have := hs4.out; have := hgN.out; omega) (by have := hgN.out; omega))
      have C6 := C4.out.same (hP6.2.2.1 (w.heap.size + 1 + 1) (by have := hs4.out; have := hgN.out; omega) (by have := hgN.out; omega))
      have hb6 : Below w.heap.size w w6 := hb4.out.trans (hP6.2.2.2.1.mono (by have := hgN.out; omega))
      have hs6 : wr.heap.size < w6.heap.size := hP6.1.lt
      replace hv := Lib.hid hv
      replace kf := Lib.hid kf
      replace hP6 := Lib.hid hP6
      replace A6 := Lib.hid A6
      replace B6 := Lib.hid B6
      replace C6 := Lib.hid C6
      replace hb6 := Lib.hid hb6
      replace hs6 := Lib.hid hs6
      replace hl := Lib.hid hl
      replace he := Lib.hid he
      replace h4 := Lib.hid h4
      replace hf := Lib.hid hf
      cases e with
      | nums l =>
        obtain ⟨sv, hve, -⟩ := hv.out
        cases hve
        have hm := meth_nums
        go_wp2_with fail
        refine (kf.out _ (Below.refl _ _) (Nds.nil _ _)).mono ?_
        rintro en w7 ⟨v7, rfl, N7, F7⟩
        rw [List.nil_append, ← hL.out] at N7
        obtain ⟨av, cv, rfl⟩ := N7.view
        have hs7 := F7.1.size
        obtain ⟨a0, y0⟩ := (A6.out.same (F7.1.block _ (by have := hs6.out; have := hgN.out; omega))) 0 _ rfl
        obtain ⟨a1, y1⟩ := (B6.out.same (F7.1.block _ (by have := hs6.out; have := hgN.out; omega))) 0 _ rfl
        obtain ⟨a2, y2⟩ := (C6.out.same (F7.1.block _ (by have := hs6.out; have := hgN.out; omega))) 0 _ rfl
        have hb7 : Below w.heap.size w w7 := hb6.out.trans (F7.1.mono (by have := hs6.out; have := hgN.out; omega))
        have hg6 : w.heap.size + 1 + 1 < w6.heap.size := by have := hs6.out; have := hgN.out; omega
        clear p0 p1 p2 q1 F7
        replace N7 := Lib.hid N7
        replace hb7 := Lib.hid hb7
        replace hs7 := Lib.hid hs7
        go_wp2
        refine leaves_cons (f := 25) (args := #[.pointer (some ⟨w.heap.size, 0, none⟩), .pointer (some ⟨w.heap.size + 1, 0, none⟩), .pointer (some ⟨w.heap.size + 1 + 1, 0, none⟩)]) (by simp) (by simp [go_sem]) ?_
        refine (parseIdle _ _ _ _).mono ?_
        rintro e u' w'' ⟨rfl, rfl, rfl⟩
        have s0 : (((w7.setCell ⟨w.heap.size, 0, none⟩ (.slice av L.length cv)).setCell ⟨w.heap.size + 1, 0, none⟩ (.int .i64 0)).setCell ⟨w.heap.size + 1 + 1, 0, none⟩ .nilIface).cell? ⟨w.heap.size, 0, none⟩ = some (.slice av L.length cv) := by
          rw [World.cell?_setCell_other _ _ _ _ (by simp), World.cell?_setCell_other _ _ _ _ (by simp)]; exact World.cell?_setCell_same' _ _ _ (by rw [a0]; rfl)
        have s1 : (((w7.setCell ⟨w.heap.size, 0, none⟩ (.slice av L.length cv)).setCell ⟨w.heap.size + 1, 0, none⟩ (.int .i64 0)).setCell ⟨w.heap.size + 1 + 1, 0, none⟩ .nilIface).cell? ⟨w.heap.size + 1, 0, none⟩ = some (.int .i64 0) := by
          rw [World.cell?_setCell_other _ _ _ _ (by simp)]; exact World.cell?_setCell_same' _ _ _ (by rw [World.cell?_setCell_other _ _ _ _ (by simp), a1]; rfl)
        have s2 : (((w7.setCell ⟨w.heap.size, 0, none⟩ (.slice av L.length cv)).setCell ⟨w.heap.size + 1, 0, none⟩ (.int .i64 0)).setCell ⟨w.heap.size + 1 + 1, 0, none⟩ .nilIface).cell? ⟨w.heap.size + 1 + 1, 0, none⟩ = some .nilIface :=
          World.cell?_setCell_same' _ _ _ (by rw [World.cell?_setCell_other _ _ _ _ (by simp), World.cell?_setCell_other _ _ _ _ (by simp), a2]; rfl)
        have hfin : Nds w.heap.size (((w7.setCell ⟨w.heap.size, 0, none⟩ (.slice av L.length cv)).setCell ⟨w.heap.size + 1, 0, none⟩ (.int .i64 0)).setCell ⟨w.heap.size + 1 + 1, 0, none⟩ .nilIface) (.slice av L.length cv) L ∧ Below w.heap.size w (((w7.setCell ⟨w.heap.size, 0, none⟩ (.slice av L.length cv)).setCell ⟨w.heap.size + 1, 0, none⟩ (.int .i64 0)).setCell ⟨w.heap.size + 1 + 1, 0, none⟩ .nilIface) := by
          refine ⟨?_, ((hb7.out.setCell (Nat.le_refl _) _).setCell (Nat.le_succ _) _).setCell (by show w.heap.size ≤ w.heap.size + 1 + 1; omega) _⟩
          refine (N7.out.same fun b h1 h2 => ?_).low (by omega)
          rw [Below.heap_setCell _ _ _ b (by show b ≠ w.heap.size + 1 + 1; omega), Below.heap_setCell _ _ _ b (by show b ≠ w.heap.size + 1; omega), Below.heap_setCell _ _ _ b (by show b ≠ w.heap.size; omega)]
        clear a0 a1 a2 y0 y1 y2 N7 hb7
        generalize ((w7.setCell ⟨w.heap.size, 0, none⟩ (.slice av L.length cv)).setCell ⟨w.heap.size + 1, 0, none⟩ (.int .i64 0)).setCell ⟨w.heap.size + 1 + 1, 0, none⟩ .nilIface = w9 at *
        simp only [Leaves, settle]
        refine ⟨.tuple #[.slice av L.length cv, .int .i64 0, .nilIface], by simp [results, Tryz.results20, go_sem, s0, s1, s2], _, rfl, hfin.1, hfin.2⟩
      | name s =>
        have hve := hv.out
        injection hve with hv1 hv2
        subst hv1
        subst hv2
        have hm := meth_name
        go_wp2_with fail
        refine (kf.out _ (Below.refl _ _) (Nds.nil _ _)).mono ?_
        rintro en w7 ⟨v7, rfl, N7, F7⟩
        rw [List.nil_append, ← hL.out] at N7
        obtain ⟨av, cv, rfl⟩ := N7.view
        have hs7 := F7.1.size
        obtain ⟨a0, y0⟩ := (A6.out.same (F7.1.block _ (by have := hs6.out; have := hgN.out; omega))) 0 _ rfl
        obtain ⟨a1, y1⟩ := (B6.out.same (F7.1.block _ (by have := hs6.out; have := hgN.out; omega))) 0 _ rfl
        obtain ⟨a2, y2⟩ := (C6.out.same (F7.1.block _ (by have := hs6.out; have := hgN.out; omega))) 0 _ rfl
        have hb7 : Below w.heap.size w w7 := hb6.out.trans (F7.1.mono (by have := hs6.out; have := hgN.out; omega))
        have hg6 : w.heap.size + 1 + 1 < w6.heap.size := by have := hs6.out; have := hgN.out; omega
        clear p0 p1 p2 q1 F7
        replace N7 := Lib.hid N7
        replace hb7 := Lib.hid hb7
        replace hs7 := Lib.hid hs7
        go_wp2
        refine leaves_cons (f := 25) (args := #[.pointer (some ⟨w.heap.size, 0, none⟩), .pointer (some ⟨w.heap.size + 1, 0, none⟩), .pointer (some ⟨w.heap.size + 1 + 1, 0, none⟩)]) (by simp) (by simp [go_sem]) ?_
        refine (parseIdle _ _ _ _).mono ?_
        rintro e u' w'' ⟨rfl, rfl, rfl⟩
        have s0 : (((w7.setCell ⟨w.heap.size, 0, none⟩ (.slice av L.length cv)).setCell ⟨w.heap.size + 1, 0, none⟩ (.int .i64 0)).setCell ⟨w.heap.size + 1 + 1, 0, none⟩ .nilIface).cell? ⟨w.heap.size, 0, none⟩ = some (.slice av L.length cv) := by
          rw [World.cell?_setCell_other _ _ _ _ (by simp), World.cell?_setCell_other _ _ _ _ (by simp)]; exact World.cell?_setCell_same' _ _ _ (by rw [a0]; rfl)
        have s1 : (((w7.setCell ⟨w.heap.size, 0, none⟩ (.slice av L.length cv)).setCell ⟨w.heap.size + 1, 0, none⟩ (.int .i64 0)).setCell ⟨w.heap.size + 1 + 1, 0, none⟩ .nilIface).cell? ⟨w.heap.size + 1, 0, none⟩ = some (.int .i64 0) := by
          rw [World.cell?_setCell_other _ _ _ _ (by simp)]; exact World.cell?_setCell_same' _ _ _ (by rw [World.cell?_setCell_other _ _ _ _ (by simp), a1]; rfl)
        have s2 : (((w7.setCell ⟨w.heap.size, 0, none⟩ (.slice av L.length cv)).setCell ⟨w.heap.size + 1, 0, none⟩ (.int .i64 0)).setCell ⟨w.heap.size + 1 + 1, 0, none⟩ .nilIface).cell? ⟨w.heap.size + 1 + 1, 0, none⟩ = some .nilIface :=
          World.cell?_setCell_same' _ _ _ (by rw [World.cell?_setCell_other _ _ _ _ (by simp), World.cell?_setCell_other _ _ _ _ (by simp), a2]; rfl)
        have hfin : Nds w.heap.size (((w7.setCell ⟨w.heap.size, 0, none⟩ (.slice av L.length cv)).setCell ⟨w.heap.size + 1, 0, none⟩ (.int .i64 0)).setCell ⟨w.heap.size + 1 + 1, 0, none⟩ .nilIface) (.slice av L.length cv) L ∧ Below w.heap.size w (((w7.setCell ⟨w.heap.size, 0, none⟩ (.slice av L.length cv)).setCell ⟨w.heap.size + 1, 0, none⟩ (.int .i64 0)).setCell ⟨w.heap.size + 1 + 1, 0, none⟩ .nilIface) := by
          refine ⟨?_, ((hb7.out.setCell (Nat.le_refl _) _).setCell (Nat.le_succ _) _).setCell (by show w.heap.size ≤ w.heap.size + 1 + 1; omega) _⟩
          refine (N7.out.same fun b h1 h2 => ?_).low (by omega)
          rw [Below.heap_setCell _ _ _ b (by show b ≠ w.heap.size + 1 + 1; omega), Below.heap_setCell _ _ _ b (by show b ≠ w.heap.size + 1; omega), Below.heap_setCell _ _ _ b (by show b ≠ w.heap.size; omega)]
        clear a0 a1 a2 y0 y1 y2 N7 hb7
        generalize ((w7.setCell ⟨w.heap.size, 0, none⟩ (.slice av L.length cv)).setCell ⟨w.heap.size + 1, 0, none⟩ (.int .i64 0)).setCell ⟨w.heap.size + 1 + 1, 0, none⟩ .nilIface = w9 at *
        simp only [Leaves, settle]
        refine ⟨.tuple #[.slice av L.length cv, .int .i64 0, .nilIface], by simp [results, Tryz.results20, go_sem, s0, s1, s2], _, rfl, hfin.1, hfin.2⟩
      | one o f q r =>
        obtain ⟨vr, hve, -⟩ := hv.out
        cases hve
        have hm := meth_one
        go_wp2_with fail
        refine (kf.out _ (Below.refl _ _) (Nds.nil _ _)).mono ?_
        rintro en w7 ⟨v7, rfl, N7, F7⟩
        rw [List.nil_append, ← hL.out] at N7
        obtain ⟨av, cv, rfl⟩ := N7.view
        have hs7 := F7.1.size
        obtain ⟨a0, y0⟩ := (A6.out.same (F7.1.block _ (by have := hs6.out; have := hgN.out; omega))) 0 _ rfl
        obtain ⟨a1, y1⟩ := (B6.out.same (F7.1.block _ (by have := hs6.out; have := hgN.out; omega))) 0 _ rfl
        obtain ⟨a2, y2⟩ := (C6.out.same (F7.1.block _ (by have := hs6.out; have := hgN.out; omega))) 0 _ rfl
        have hb7 : Below w.heap.size w w7 := hb6.out.trans (F7.1.mono (by have := hs6.out; have := hgN.out; omega))
        have hg6 : w.heap.size + 1 + 1 < w6.heap.size := by have := hs6.out; have := hgN.out; omega
        clear p0 p1 p2 q1 F7
        replace N7 := Lib.hid N7
        replace hb7 := Lib.hid hb7
        replace hs7 := Lib.hid hs7
        go_wp2
        refine leaves_cons (f := 25) (args := #[.pointer (some ⟨w.heap.size, 0, none⟩), .pointer (some ⟨w.heap.size + 1, 0, none⟩), .pointer (some ⟨w.heap.size + 1 + 1, 0, none⟩)]) (by simp) (by simp [go_sem]) ?_
        refine (parseIdle _ _ _ _).mono ?_
        rintro e u' w'' ⟨rfl, rfl, rfl⟩
        have s0 : (((w7.setCell ⟨w.heap.size, 0, none⟩ (.slice av L.length cv)).setCell ⟨w.heap.size + 1, 0, none⟩ (.int .i64 0)).setCell ⟨w.heap.size + 1 + 1, 0, none⟩ .nilIface).cell? ⟨w.heap.size, 0, none⟩ = some (.slice av L.length cv) := by
          rw [World.cell?_setCell_other _ _ _ _ (by simp), World.cell?_setCell_other _ _ _ _ (by simp)]; exact World.cell?_setCell_same' _ _ _ (by rw [a0]; rfl)
        have s1 : (((w7.setCell ⟨w.heap.size, 0, none⟩ (.slice av L.length cv)).setCell ⟨w.heap.size + 1, 0, none⟩ (.int .i64 0)).setCell ⟨w.heap.size + 1 + 1, 0, none⟩ .nilIface).cell? ⟨w.heap.size + 1, 0, none⟩ = some (.int .i64 0) := by
          rw [World.cell?_setCell_other _ _ _ _ (by simp)]; exact World.cell?_setCell_same' _ _ _ (by rw [World.cell?_setCell_other _ _ _ _ (by simp), a1]; rfl)
        have s2 : (((w7.setCell ⟨w.heap.size, 0, none⟩ (.slice av L.length cv)).setCell ⟨w.heap.size + 1, 0, none⟩ (.int .i64 0)).setCell ⟨w.heap.size + 1 + 1, 0, none⟩ .nilIface).cell? ⟨w.heap.size + 1 + 1, 0, none⟩ = some .nilIface :=
          World.cell?_setCell_same' _ _ _ (by rw [World.cell?_setCell_other _ _ _ _ (by simp), World.cell?_setCell_other _ _ _ _ (by simp), a2]; rfl)
        have hfin : Nds w.heap.size (((w7.setCell ⟨w.heap.size, 0, none⟩ (.slice av L.length cv)).setCell ⟨w.heap.size + 1, 0, none⟩ (.int .i64 0)).setCell ⟨w.heap.size + 1 + 1, 0, none⟩ .nilIface) (.slice av L.length cv) L ∧ Below w.heap.size w (((w7.setCell ⟨w.heap.size, 0, none⟩ (.slice av L.length cv)).setCell ⟨w.heap.size + 1, 0, none⟩ (.int .i64 0)).setCell ⟨w.heap.size + 1 + 1, 0, none⟩ .nilIface) := by
          refine ⟨?_, ((hb7.out.setCell (Nat.le_refl _) _).setCell (Nat.le_succ _) _).setCell (by show w.heap.size ≤ w.heap.size + 1 + 1; omega) _⟩
          refine (N7.out.same fun b h1 h2 => ?_).low (by omega)
          rw [Below.heap_setCell _ _ _ b (by show b ≠ w.heap.size + 1 + 1; omega), Below.heap_setCell _ _ _ b (by show b ≠ w.heap.size + 1; omega), Below.heap_setCell _ _ _ b (by show b ≠ w.heap.size; omega)]
        clear a0 a1 a2 y0 y1 y2 N7 hb7
        generalize ((w7.setCell ⟨w.heap.size, 0, none⟩ (.slice av L.length cv)).setCell ⟨w.heap.size + 1, 0, none⟩ (.int .i64 0)).setCell ⟨w.heap.size + 1 + 1, 0, none⟩ .nilIface = w9 at *
        simp only [Leaves, settle]
        refine ⟨.tuple #[.slice av L.length cv, .int .i64 0, .nilIface], by simp [results, Tryz.results20, go_sem, s0, s1, s2], _, rfl, hfin.1, hfin.2⟩
      | two l' o f q r =>
        obtain ⟨vl, vr, hve, -⟩ := hv.out
        cases hve
        have hm := meth_two
        go_wp2_with fail
        refine (kf.out _ (Below.refl _ _) (Nds.nil _ _)).mono ?_
        rintro en w7 ⟨v7, rfl, N7, F7⟩
        rw [List.nil_append, ← hL.out] at N7
        obtain ⟨av, cv, rfl⟩ := N7.view
        have hs7 := F7.1.size
        obtain ⟨a0, y0⟩ := (A6.out.same (F7.1.block _ (by have := hs6.out; have := hgN.out; omega))) 0 _ rfl
        obtain ⟨a1, y1⟩ := (B6.out.same (F7.1.block _ (by have := hs6.out; have := hgN.out; omega))) 0 _ rfl
        obtain ⟨a2, y2⟩ := (C6.out.same (F7.1.block _ (by have := hs6.out; have := hgN.out; omega))) 0 _ rfl
        have hb7 : Below w.heap.size w w7 := hb6.out.trans (F7.1.mono (by have := hs6.out; have := hgN.out; omega))
        have hg6 : w.heap.size + 1 + 1 < w6.heap.size := by have := hs6.out; have := hgN.out; omega
        clear p0 p1 p2 q1 F7
        replace N7 := Lib.hid N7
        replace hb7 := Lib.hid hb7
        replace hs7 := Lib.hid hs7
        go_wp2
        refine leaves_cons (f := 25) (args := #[.pointer (some ⟨w.heap.size, 0, none⟩), .pointer (some ⟨w.heap.size + 1, 0, none⟩), .pointer (some ⟨w.heap.size + 1 + 1, 0, none⟩)]) (by simp) (by simp [go_sem]) ?_
        refine (parseIdle _ _ _ _).mono ?_
        rintro e u' w'' ⟨rfl, rfl, rfl⟩
        have s0 : (((w7.setCell ⟨w.heap.size, 0, none⟩ (.slice av L.length cv)).setCell ⟨w.heap.size + 1, 0, none⟩ (.int .i64 0)).setCell ⟨w.heap.size + 1 + 1, 0, none⟩ .nilIface).cell? ⟨w.heap.size, 0, none⟩ = some (.slice av L.length cv) := by
          rw [World.cell?_setCell_other _ _ _ _ (by simp), World.cell?_setCell_other _ _ _ _ (by simp)]; exact World.cell?_setCell_same' _ _ _ (by rw [a0]; rfl)
        have s1 : (((w7.setCell ⟨w.heap.size, 0, none⟩ (.slice av L.length cv)).setCell ⟨w.heap.size + 1, 0, none⟩ (.int .i64 0)).setCell ⟨w.heap.size + 1 + 1, 0, none⟩ .nilIface).cell? ⟨w.heap.size + 1, 0, none⟩ = some (.int .i64 0) := by
          rw [World.cell?_setCell_other _ _ _ _ (by simp)]; exact World.cell?_setCell_same' _ _ _ (by rw [World.cell?_setCell_other _ _ _ _ (by simp), a1]; rfl)
        have s2 : (((w7.setCell ⟨w.heap.size, 0, none⟩ (.slice av L.length cv)).setCell ⟨w.heap.size + 1, 0, none⟩ (.int .i64 0)).setCell ⟨w.heap.size + 1 + 1, 0, none⟩ .nilIface).cell? ⟨w.heap.size + 1 + 1, 0, none⟩ = some .nilIface :=
          World.cell?_setCell_same' _ _ _ (by rw [World.cell?_setCell_other _ _ _ _ (by simp), World.cell?_setCell_other _ _ _ _ (by simp), a2]; rfl)
        have hfin : Nds w.heap.size (((w7.setCell ⟨w.heap.size, 0, none⟩ (.slice av L.length cv)).setCell ⟨w.heap.size + 1, 0, none⟩ (.int .i64 0)).setCell ⟨w.heap.size + 1 + 1, 0, none⟩ .nilIface) (.slice av L.length cv) L ∧ Below w.heap.size w (((w7.setCell ⟨w.heap.size, 0, none⟩ (.slice av L.length cv)).setCell ⟨w.heap.size + 1, 0, none⟩ (.int .i64 0)).setCell ⟨w.heap.size + 1 + 1, 0, none⟩ .nilIface) := by
          refine ⟨?_, ((hb7.out.setCell (Nat.le_refl _) _).setCell (Nat.le_succ _) _).setCell (by show w.heap.size ≤ w.heap.size + 1 + 1; omega) _⟩
          refine (N7.out.same fun b h1 h2 => ?_).low (by omega)
          rw [Below.heap_setCell _ _ _ b (by show b ≠ w.heap.size + 1 + 1; omega), Below.heap_setCell _ _ _ b (by show b ≠ w.heap.size + 1; omega), Below.heap_setCell _ _ _ b (by show b ≠ w.heap.size; omega)]
        clear a0 a1 a2 y0 y1 y2 N7 hb7
        generalize ((w7.setCell ⟨w.heap.size, 0, none⟩ (.slice av L.length cv)).setCell ⟨w.heap.size + 1, 0, none⟩ (.int .i64 0)).setCell ⟨w.heap.size + 1 + 1, 0, none⟩ .nilIface = w9 at *
        simp only [Leaves, settle]
        refine ⟨.tuple #[.slice av L.length cv, .int .i64 0, .nilIface], by simp [results, Tryz.results20, go_sem, s0, s1, s2], _, rfl, hfin.1, hfin.2⟩
      | pick e' b' =>
        obtain ⟨ve, vb, pa, pc, hve, -⟩ := hv.out
        cases hve
        have hm := meth_pick
        go_wp2_with fail
        refine (kf.out _ (Below.refl _ _) (Nds.nil _ _)).mono ?_
        rintro en w7 ⟨v7, rfl, N7, F7⟩
        rw [List.nil_append, ← hL.out] at N7
        obtain ⟨av, cv, rfl⟩ := N7.view
        have hs7 := F7.1.size
        obtain ⟨a0, y0⟩ := (A6.out.same (F7.1.block _ (by have := hs6.out; have := hgN.out; omega))) 0 _ rfl
        obtain ⟨a1, y1⟩ := (B6.out.same (F7.1.block _ (by have := hs6.out; have := hgN.out; omega))) 0 _ rfl
        obtain ⟨a2, y2⟩ := (C6.out.same (F7.1.block _ (by have := hs6.out; have := hgN.out; omega))) 0 _ rfl
        have hb7 : Below w.heap.size w w7 := hb6.out.trans (F7.1.mono (by have := hs6.out; have := hgN.out; omega))
        have hg6 : w.heap.size + 1 + 1 < w6.heap.size := by have := hs6.out; have := hgN.out; omega
        clear p0 p1 p2 q1 F7
        replace N7 := Lib.hid N7
        replace hb7 := Lib.hid hb7
        replace hs7 := Lib.hid hs7
        go_wp2
        refine leaves_cons (f := 25) (args := #[.pointer (some ⟨w.heap.size, 0, none⟩), .pointer (some ⟨w.heap.size + 1, 0, none⟩), .pointer (some ⟨w.heap.size + 1 + 1, 0, none⟩)]) (by simp) (by simp [go_sem]) ?_
        refine (parseIdle _ _ _ _).mono ?_
        rintro e u' w'' ⟨rfl, rfl, rfl⟩
        have s0 : (((w7.setCell ⟨w.heap.size, 0, none⟩ (.slice av L.length cv)).setCell ⟨w.heap.size + 1, 0, none⟩ (.int .i64 0)).setCell ⟨w.heap.size + 1 + 1, 0, none⟩ .nilIface).cell? ⟨w.heap.size, 0, none⟩ = some (.slice av L.length cv) := by
          rw [World.cell?_setCell_other _ _ _ _ (by simp), World.cell?_setCell_other _ _ _ _ (by simp)]; exact World.cell?_setCell_same' _ _ _ (by rw [a0]; rfl)
        have s1 : (((w7.setCell ⟨w.heap.size, 0, none⟩ (.slice av L.length cv)).setCell ⟨w.heap.size + 1, 0, none⟩ (.int .i64 0)).setCell ⟨w.heap.size + 1 + 1, 0, none⟩ .nilIface).cell? ⟨w.heap.size + 1, 0, none⟩ = some (.int .i64 0) := by
          rw [World.cell?_setCell_other _ _ _ _ (by simp)]; exact World.cell?_setCell_same' _ _ _ (by rw [World.cell?_setCell_other _ _ _ _ (by simp), a1]; rfl)
        have s2 : (((w7.setCell ⟨w.heap.size, 0, none⟩ (.slice av L.length cv)).setCell ⟨w.heap.size + 1, 0, none⟩ (.int .i64 0)).setCell ⟨w.heap.size + 1 + 1, 0, none⟩ .nilIface).cell? ⟨w.heap.size + 1 + 1, 0, none⟩ = some .nilIface :=
          World.cell?_setCell_same' _ _ _ (by rw [World.cell?_setCell_other _ _ _ _ (by simp), World.cell?_setCell_other _ _ _ _ (by simp), a2]; rfl)
        have hfin : Nds w.heap.size (((w7.setCell ⟨w.heap.size, 0, none⟩ (.slice av L.length cv)).setCell ⟨w.heap.size + 1, 0, none⟩ (.int .i64 0)).setCell ⟨w.heap.size + 1 + 1, 0, none⟩ .nilIface) (.slice av L.length cv) L ∧ Below w.heap.size w (((w7.setCell ⟨w.heap.size, 0, none⟩ (.slice av L.length cv)).setCell ⟨w.heap.size + 1, 0, none⟩ (.int .i64 0)).setCell ⟨w.heap.size + 1 + 1, 0, none⟩ .nilIface) := by
          refine ⟨?_, ((hb7.out.setCell (Nat.le_refl _) _).setCell (Nat.le_succ _) _).setCell (by show w.heap.size ≤ w.heap.size + 1 + 1; omega) _⟩
          refine (N7.out.same fun b h1 h2 => ?_).low (by omega)
          rw [Below.heap_setCell _ _ _ b (by show b ≠ w.heap.size + 1 + 1; omega), Below.heap_setCell _ _ _ b (by show b ≠ w.heap.size + 1; omega), Below.heap_setCell _ _ _ b (by show b ≠ w.heap.size; omega)]
        clear a0 a1 a2 y0 y1 y2 N7 hb7
        generalize ((w7.setCell ⟨w.heap.size, 0, none⟩ (.slice av L.length cv)).setCell ⟨w.heap.size + 1, 0, none⟩ (.int .i64 0)).setCell ⟨w.heap.size + 1 + 1, 0, none⟩ .nilIface = w9 at *
        simp only [Leaves, settle]
        refine ⟨.tuple #[.slice av L.length cv, .int .i64 0, .nilIface], by simp [results, Tryz.results20, go_sem, s0, s1, s2], _, rfl, hfin.1, hfin.2⟩
end Go.Proofs.YtaplaoelamnoiaaGreatDoor
