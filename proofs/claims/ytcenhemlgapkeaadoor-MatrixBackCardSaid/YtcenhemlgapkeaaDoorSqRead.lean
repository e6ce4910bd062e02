/- The call matrix.read: an array's square, or what is wrong with it. Condition: rows that lie as lists of ints of 64 bits. -/
import Derived.Test.YtcenhemlgapkeaaDoorBdQ
import Derived.Test.YtcenhemlgapkeaaDoorSqAlloc
import Derived.Test.YtcenhemlgapkeaaDoorBdT
import Derived.Test.YtcenhemlgapkeaaDoorBdB
import Derived.Test.YtcenhemlgapkeaaDoorWkArr
import Derived.RegionTactic
import Derived.BigRegion
import Derived.Deep.QuietTactic
import Derived.BigQuiet
namespace Go.Proofs.YtcenhemlgapkeaaDoor
open Go.RowKit

theorem results_cell_row1 {P : Program} {fn : Func} {p u : Tmp} {ty : TypeId} (h : fn.results = #[.cell p ty, .tmp u]) (tmps : Array Value) (w : World) (g : Nat) (t : TypeId) (cs : Array Value) (fr : Nat × Nat) (d : TypeDesc)
    (hp : tmps.getD p undef = .pointer (some ⟨g, 0, none⟩)) (hg : w.heap[g]? = some (.cells cs t fr))
    (hu : P.underlying ty = some d) (hd : (match d with | .struct _ | .array _ _ => true | _ => false) = true) (hi : (P.info? ty).map (·.size) = some cs.size) :
    (results fn tmps).run P w = .ok (.tuple #[.agg cs, tmps.getD u undef]) w := by
  have hp' : tmps[p]?.getD undef = .pointer (some ⟨g, 0, none⟩) := by simpa using hp
  simp [results, h, hp', asAddr, Sem.run_bind, run_loadVar_row w g t ty cs fr d hg hu hd hi]

/-- What matrix.read leaves. -/
def SqPost (x : Arr) (w : World) (e : Ending) (w' : World) : Prop :=
  (M.sqFault x 6 = 0 → e = .returned (.tuple #[.agg (sqCells (M.sqN x) (M.sqA (M.sqN x) x.d)), .nilIface]) ∧ M.sqN x ≤ 6) ∧
  (M.sqFault x 6 ≠ 0 → e = .returned (.tuple #[.agg (sqCells 0 zeroM), .iface 34 (.int .i64 (M.sqFault x 6))])) ∧ Below w.heap.size w w'
theorem SqPost.err {x : Arr} {w w' : World} {e : Ending} {n : Int} (h : M.sqFault x 6 = n) (hn : n ≠ 0) (he : e = .returned (.tuple #[.agg (sqCells 0 zeroM), .iface 34 (.int .i64 n)])) (hb : Below w.heap.size w w') : SqPost x w e w' := by
  subst h; exact ⟨fun h => absurd h hn, fun _ => he, hb⟩

/-- The first p cells. -/
def soF (n : Nat) (d : List Int) (p i j : Nat) : Int := if i < n ∧ j < n ∧ i * n + j < p then d.getD (i * n + j) 0 else 0
theorem soF_zero (n : Nat) (d : List Int) : soF n d 0 = zeroM := by funext i j; exact if_neg (by omega)
theorem soF_step {n p : Nat} (d : List Int) (hp : p < n * n) : put (soF n d p) (p / n) (p % n) (d.getD p 0) = soF n d (p + 1) := by
  have hn : 0 < n := Nat.pos_of_ne_zero fun h => by subst h; simp at hp
  have q1 : p / n < n := Nat.div_lt_of_lt_mul hp
  have q2 : p % n < n := Nat.mod_lt _ hn
  have q3 : p / n * n + p % n = p := by rw [Nat.mul_comm]; exact Nat.div_add_mod p n
  funext i j
  unfold put soF
  by_cases h : i = p / n ∧ j = p % n
  · obtain ⟨rfl, rfl⟩ := h
    rw [if_pos ⟨rfl, rfl⟩, q3, if_pos ⟨q1, q2, Nat.lt_succ_self p⟩]
  · rw [if_neg h]
    by_cases h2 : i < n ∧ j < n ∧ i * n + j < p
    · rw [if_pos h2, if_pos ⟨h2.1, h2.2.1, by omega⟩]
    · rw [if_neg h2]
      by_cases h3 : i < n ∧ j < n ∧ i * n + j < p + 1
      · exfalso
        have e : i * n + j = p := by omega
        exact h ((sq_at_index h3.2.1).1 e)
      · rw [if_neg h3]
theorem soF_end (n : Nat) (d : List Int) : soF n d (n * n) = M.sqA n d := by
  funext i j
  unfold soF M.sqA
  by_cases h : i < n ∧ j < n
  · rw [if_pos h, if_pos ⟨h.1, h.2, sq_index_lt h.1 h.2⟩]
  · rw [if_neg h, if_neg (fun k => h ⟨k.1, k.2.1⟩)]
theorem sq_head {W : World} {b : Nat} {e : TypeId} {m : Nat} {A : Nat → Nat → Int} (h : W.heap[b]? = some (.cells (sqCells m A) e (0, 0))) (n : Nat) :
    (W.setCell ⟨b, 0, none⟩ (.int .i64 (n : Int))).heap[b]? = some (.cells (sqCells n A) e (0, 0)) := by
  rw [heap_setCell_same W b _ _ e _ h]
  congr 1

set_option maxRecDepth 20000 in
set_option maxHeartbeats 8000000 in
theorem sqRead_any (ch : Bool) (a b : Option Addr) (s d : List Int) (m c n z : Nat) (w : World) (hs : Row w a s) (hd : Row w b d) (ls : s.length ≤ maxLen) (ld : d.length ≤ maxLen) (hd64 : All64 d) (em : m = s.length) (en : n = d.length) :
    Calls Tryd.prog 47 #[arrV ch a m c b n z] w (SqPost ⟨ch, s, d⟩ w) := by
  subst em
  subst en
  have hcheck := fun w h1 h2 => check_any ch a b s d _ c _ z w h1 h2 ls ld rfl rfl
  have E := (((Env.start w).addRow hd).addRow hs).box ch a s.length c b d.length z
  have E2 := (E.alloc (.cells (sqCells 0 zeroM) 73)).alloc (.cells (sqCells 0 zeroM) 73)
  have Z1 : ((((w.alloc (.cells #[.bool ch, .slice a s.length c, .slice b d.length z] 24)).alloc (.cells (sqCells 0 zeroM) 73)).alloc (.cells (sqCells 0 zeroM) 73))).heap[w.heap.size + 1]? = some (.cells (sqCells 0 zeroM) 73 (0, 0)) := by
    have := heap_alloc2_old (w.alloc (.cells #[.bool ch, .slice a s.length c, .slice b d.length z] 24)) (.cells (sqCells 0 zeroM) 73) (.cells (sqCells 0 zeroM) 73)
    rw [World.size_alloc] at this; exact this
  have Z2 : ((((w.alloc (.cells #[.bool ch, .slice a s.length c, .slice b d.length z] 24)).alloc (.cells (sqCells 0 zeroM) 73)).alloc (.cells (sqCells 0 zeroM) 73))).heap[w.heap.size + 1 + 1]? = some (.cells (sqCells 0 zeroM) 73 (0, 0)) := by
    have := heap_alloc2_new (w.alloc (.cells #[.bool ch, .slice a s.length c, .slice b d.length z] 24)) (.cells (sqCells 0 zeroM) 73) (.cells (sqCells 0 zeroM) 73)
    rw [World.size_alloc] at this; exact this
  have NN : ((((w.alloc (.cells #[.bool ch, .slice a s.length c, .slice b d.length z] 24)).alloc (.cells (sqCells 0 zeroM) 73)).alloc (.cells (sqCells 0 zeroM) 73))).heap.size = w.heap.size + 3 := by simp
  clear E
  replace Z1 := Lib.hid Z1
  replace Z2 := Lib.hid Z2
  replace NN := Lib.hid NN
  replace hcheck := Lib.hid hcheck
  go_enter Tryd.func47, Tryd.ntmps47
  go_wp2_with (first
    | (refine wpList_allocBy rfl 73 rfl (some 2) rfl (w.heap.size + 1) (by simp) (sqCells 0 zeroM) Tryd.zeroSq ?_)
    | (refine wpList_allocBy rfl 73 rfl (some 4) rfl (w.heap.size + 1 + 1) (by simp) (sqCells 0 zeroM) Tryd.zeroSq ?_))
  refine (hcheck.out _ (E2.getRow 1 rfl) (E2.getRow 2 rfl)).mono ?_
  rintro e w1 ⟨rfl, hb⟩
  have E := E2.step hb
  have X1 := (hb.block (w.heap.size + 1) (by rw [NN.out]; omega)).trans Z1.out
  have X2 := (hb.block (w.heap.size + 1 + 1) (by rw [NN.out]; omega)).trans Z2.out
  clear E2 Z1 Z2 NN hb
  have hD := E.getRow 2 rfl
  have hS := E.getRow 1 rfl
  obtain ⟨⟨u0, u1, u2⟩, -, -, -⟩ := E.getBox 0 rfl
  have hbel := E.bel
  have stay : ∀ n wr, n ≠ 0 → M.sqFault ⟨ch, s, d⟩ 6 = n → Below w.heap.size w wr →
      SqPost ⟨ch, s, d⟩ w (.returned (.tuple #[.agg (sqCells 0 zeroM), .iface 34 (.int .i64 n)])) (wr.setRow (w.heap.size + 1) (sqCells 0 zeroM)) := fun n wr hn hf hb => .err hf hn rfl (below_setRow hb _ _ (by omega))
  replace stay := Lib.hid stay
  clear E
  by_cases hf : M.flaw ch s d = 0
  case neg =>
    have hr : M.sqFault ⟨ch, s, d⟩ 6 = M.flaw ch s d := if_pos hf
    rw [errV_ne hf]
    generalize M.flaw ch s d = n at *
    replace hr := Lib.hid hr
    replace hf := Lib.hid hf
    clear u0 u1 u2
    go_wp2_with (first
      | (refine wpList_load_row rfl 73 _ rfl (w.heap.size + 1 + 1) rfl _ _ _ _ X2 Tryd.underlying73 rfl (infoSq' _ _) ?_)
      | (refine wpList_store_row rfl 73 _ _ rfl (w.heap.size + 1) _ rfl rfl _ _ X1 (infoSq' _ _) (sizeSq _ _ _ _) (sq_one _ _) ?_))
    refine bodyPost_ret (v := .tuple #[.agg (sqCells 0 zeroM), .iface 34 (.int .i64 n)]) (results_cell_row1 (p := 2) (u := 3) rfl _ _ (w.heap.size + 1) 73 _ (0, 0) _ rfl (setRow_heap _ _ _ _ _ _ X1) Tryd.underlying73 rfl (infoSq' _ _)) rfl ?_
    exact stay.out n w1 hf.out hr.out hbel
  rw [hf, errV_zero]
  have hr0 : M.sqFault ⟨ch, s, d⟩ 6 = if s.length ≠ 2 then 3 else if s.getD 0 0 ≠ s.getD 1 0 then 4 else if 6 < s.getD 0 0 then 7 else if ch = true then 6 else 0 := if_neg (fun h => h hf)
  have hfl := Lib.hid hf
  clear hf
  by_cases hl : s.length = 2
  case neg =>
    have hr := Lib.hid (hr0.trans (if_pos hl))
    have hb2 : (((s.length : Nat) : Int) != 2) = true := by rw [bne_iff_ne]; omega
    replace hl := Lib.hid hl
    clear hr0
    go_wp2_with (first
      | (refine wpList_load_row rfl 73 _ rfl (w.heap.size + 1 + 1) rfl _ _ _ _ X2 Tryd.underlying73 rfl (infoSq' _ _) ?_)
      | (refine wpList_store_row rfl 73 _ _ rfl (w.heap.size + 1) _ rfl rfl _ _ X1 (infoSq' _ _) (sizeSq _ _ _ _) (sq_one _ _) ?_))
    refine bodyPost_ret (v := .tuple #[.agg (sqCells 0 zeroM), .iface 34 (.int .i64 3)]) (results_cell_row1 (p := 2) (u := 3) rfl _ _ (w.heap.size + 1) 73 _ (0, 0) _ rfl (setRow_heap _ _ _ _ _ _ X1) Tryd.underlying73 rfl (infoSq' _ _)) rfl ?_
    exact stay.out 3 w1 (by decide) hr.out hbel
  rw [if_neg (fun h => h hl)] at hr0
  obtain ⟨x, y, rfl⟩ : ∃ x y, s = [x, y] := by
    match s, hl with
    | [x, y], _ => exact ⟨x, y, rfl⟩
  obtain ⟨bs, os, rfl, hc0⟩ := hS 0 (by simp)
  obtain ⟨bs', os', e, hc1⟩ := hS 1 (by simp)
  cases e
  simp only [List.getD_cons_zero, List.getD_cons_succ, Nat.add_zero, List.length_cons, List.length_nil, Nat.zero_add, Nat.reduceAdd] at hc0 hc1 hr0 u1 ⊢
  clear hl
  by_cases hxy : x = y
  case neg =>
    have hr := Lib.hid (hr0.trans (if_pos hxy))
    have hb2 : (x != y) = true := by rw [bne_iff_ne]; exact hxy
    replace hxy := Lib.hid hxy
    clear hr0
    go_wp2
    go_quiet (fail)
    go_wp2_with (first
      | (refine wpList_load_row rfl 73 _ rfl (w.heap.size + 1 + 1) rfl _ _ _ _ X2 Tryd.underlying73 rfl (infoSq' _ _) ?_)
      | (refine wpList_store_row rfl 73 _ _ rfl (w.heap.size + 1) _ rfl rfl _ _ X1 (infoSq' _ _) (sizeSq _ _ _ _) (sq_one _ _) ?_))
    refine bodyPost_ret (v := .tuple #[.agg (sqCells 0 zeroM), .iface 34 (.int .i64 4)]) (results_cell_row1 (p := 2) (u := 3) rfl _ _ (w.heap.size + 1) 73 _ (0, 0) _ rfl (setRow_heap _ _ _ _ _ _ X1) Tryd.underlying73 rfl (infoSq' _ _)) rfl ?_
    exact stay.out 4 (w1.drewN _) (by decide) hr.out (below_drewN hbel _)
  subst hxy
  rw [if_neg (fun h => h rfl)] at hr0
  have hxx : (x != x) = false := by rw [bne_eq_false_iff_eq]
  by_cases hg : 6 < x
  case pos =>
    have hr := Lib.hid (hr0.trans (if_pos hg))
    have hb2 : decide (6 < x) = true := decide_eq_true hg
    replace hg := Lib.hid hg
    clear hr0
    go_wp2
    go_quiet (fail)
    go_wp2_with (first
      | (refine wpList_load_row rfl 73 _ rfl (w.heap.size + 1 + 1) rfl _ _ _ _ X2 Tryd.underlying73 rfl (infoSq' _ _) ?_)
      | (refine wpList_store_row rfl 73 _ _ rfl (w.heap.size + 1) _ rfl rfl _ _ X1 (infoSq' _ _) (sizeSq _ _ _ _) (sq_one _ _) ?_))
    refine bodyPost_ret (v := .tuple #[.agg (sqCells 0 zeroM), .iface 34 (.int .i64 7)]) (results_cell_row1 (p := 2) (u := 3) rfl _ _ (w.heap.size + 1) 73 _ (0, 0) _ rfl (setRow_heap _ _ _ _ _ _ X1) Tryd.underlying73 rfl (infoSq' _ _)) rfl ?_
    exact stay.out 7 (w1.drewN _) (by decide) hr.out (below_drewN hbel _)
  rw [if_neg hg] at hr0
  have hb2 : decide (6 < x) = false := decide_eq_false hg
  cases ch with
  | true =>
    have hr := Lib.hid (hr0.trans (if_pos rfl))
    replace hg := Lib.hid hg
    clear hr0
    go_wp2
    go_quiet (fail)
    go_wp2_with (first
      | (refine wpList_load_row rfl 73 _ rfl (w.heap.size + 1 + 1) rfl _ _ _ _ X2 Tryd.underlying73 rfl (infoSq' _ _) ?_)
      | (refine wpList_store_row rfl 73 _ _ rfl (w.heap.size + 1) _ rfl rfl _ _ X1 (infoSq' _ _) (sizeSq _ _ _ _) (sq_one _ _) ?_))
    refine bodyPost_ret (v := .tuple #[.agg (sqCells 0 zeroM), .iface 34 (.int .i64 6)]) (results_cell_row1 (p := 2) (u := 3) rfl _ _ (w.heap.size + 1) 73 _ (0, 0) _ rfl (setRow_heap _ _ _ _ _ _ X1) Tryd.underlying73 rfl (infoSq' _ _)) rfl ?_
    exact stay.out 6 (w1.drewN _) (by decide) hr.out (below_drewN hbel _)
  | false =>
    rw [if_neg (by decide)] at hr0
    obtain ⟨q0, hq0, hlen⟩ := flaw_parts hfl.out
    have hx0 := ((M.count_ok hq0).2.1 x (by simp)).1
    have hqq := (M.count_ok hq0).2.2.1
    obtain ⟨n, rfl⟩ : ∃ n : Nat, x = n := ⟨x.toNat, by omega⟩
    have hdl : d.length = n * n := by
      rw [hqq] at hlen
      simp only [M.prod, Int.mul_one] at hlen
      exact_mod_cast hlen
    have hN : M.sqN ⟨false, [(n : Int), (n : Int)], d⟩ = n := rfl
    have hn : n ≤ 6 := by omega
    clear hq0 hqq hx0 hlen hg
    have Y2 := sq_head X2 n
    rw [← soF_zero n d] at Y2
    have Y1 := (Below.heap_setCell w1 ⟨w.heap.size + 1 + 1, 0, none⟩ (.int .i64 (n : Int)) (w.heap.size + 1) (by simp)).trans X1
    have hb3 := hbel.setCell (p := ⟨w.heap.size + 1 + 1, 0, none⟩) (by show w.heap.size ≤ w.heap.size + 1 + 1; omega) (.int .i64 (n : Int))
    have c0 := sq_cell0 X2
    have f0 := frozen_of_row w1 (w.heap.size + 1 + 1) 0 _ 73 X2
    replace Y1 := Lib.hid Y1
    replace Y2 := Lib.hid Y2
    replace X1 := Lib.hid X1
    replace X2 := Lib.hid X2
    replace hdl := Lib.hid hdl
    replace hN := Lib.hid hN
    replace hr0 := Lib.hid hr0
    replace hd64 := Lib.hid hd64
    have u2' := (World.cell?_setCell_other w1 ⟨w.heap.size + 1 + 1, 0, none⟩ ⟨w.heap.size, 2, none⟩ (.int .i64 (n : Int)) (by simp)).trans u2
    go_wp2
    go_quiet (fail)
    go_wp2
    go_loopw [54] (fun v wr => ∃ p : Nat, p ≤ d.length ∧ v = .int .i64 p ∧
        wr.heap[w.heap.size + 1 + 1]? = some (.cells (sqCells n (soF n d p)) 73 (0, 0)) ∧ wr.heap[w.heap.size + 1]? = some (.cells (sqCells 0 zeroM) 73 (0, 0)) ∧ Below w.heap.size w wr) (fun v _ => d.length - (intOf v).toNat)
    case atStart => exact ⟨0, Nat.zero_le _, rfl, Y2.out, Y1.out, below_drewN hb3 _⟩
    case round =>
      obtain ⟨p, hp, rfl, hh, hz, hb⟩ := hrel
      clear X1 X2 Y1 Y2 hc0 hc1 u0 u1 u2 u2' hD hS c0 f0 hb3 hbel
      unfold maxLen at ld
      by_cases hlt : p < d.length
      · obtain ⟨bd, od, rfl, hc⟩ := hd.below hb p hlt
        have hget : d.getD p 0 = d[p] := by simp [hlt]
        have hpn : p < n * n := by rw [← hdl.out]; exact hlt
        have hstep := soF_step d hpn
        have hw64 : wrap64 (d.getD p 0) = d.getD p 0 := wrap_id (by rw [hget]; exact hd64.out _ (List.getElem_mem hlt))
        have hn1 : 1 ≤ n := Nat.pos_of_ne_zero fun h0 => by rw [h0] at hpn; simp at hpn
        have q0 : ((p : Int) / (n : Int)) = ((p / n : Nat) : Int) := by simp
        have q1 : wrap64 ((p : Int) / (n : Int)) = ((p / n : Nat) : Int) := by
          rw [q0]
          have h1 := Nat.div_le_self p n
          generalize p / n = k at h1 ⊢
          exact IntWalk.wrap64_in _ (by omega)
        have q2 : (p : Int) % (n : Int) = ((p % n : Nat) : Int) := by simp
        clear q0
        have q3 : p / n < n := Nat.div_lt_of_lt_mul hpn
        have q4 : p % n < n := Nat.mod_lt _ hn1
        generalize p / n = qq at *
        generalize p % n = rr at *
        have c0 := sq_cell0 hh
        have c2 := sq_cell hh (i := qq) (j := rr) (by omega) (by omega)
        have f2 := frozen_of_row wr (w.heap.size + 1 + 1) (1 + qq * 6 + rr) _ 73 hh
        have hset := sq_set hh (i := qq) (j := rr) (by omega) (by omega) (d.getD p 0)
        rw [hstep, hw64, hget] at hset
        have hn0 : ((n : Int) == 0) = false := by rw [beq_eq_false_iff_ne]; omega
        have i1 : (qq : Int) < 6 := by omega
        have i2 : (rr : Int) < 6 := by omega
        replace hset := Lib.hid hset
        replace hh := Lib.hid hh
        replace hz := Lib.hid hz
        clear hget hstep hw64
        go_wp2
        go_region
        go_wp2
        go_roundw
        case rel =>
          refine ⟨p + 1, by omega, by go_num, ?_, ?_, (hb.setCell (p := ⟨w.heap.size + 1 + 1, 1 + qq * 6 + rr, none⟩) (by simp; omega) _).drew⟩
          · exact hset.out
          · have := Below.heap_setCell wr ⟨w.heap.size + 1 + 1, 1 + qq * 6 + rr, none⟩ (.int .i64 d[p]) (w.heap.size + 1) (by simp)
            exact this.trans hz.out
        case measure => simp [intOf]; omega
      · obtain rfl : p = d.length := by omega
        rw [hdl.out, soF_end] at hh
        go_wp2_with (first
          | (refine wpList_load_row rfl 73 _ rfl (w.heap.size + 1 + 1) rfl _ _ _ _ hh Tryd.underlying73 rfl (infoSq' _ _) ?_)
          | (refine wpList_store_row rfl 73 _ _ rfl (w.heap.size + 1) _ rfl rfl _ _ hz (infoSq' _ _) (sizeSq _ _ _ _) (sq_one _ _) ?_))
        refine bodyPost_ret (v := .tuple #[.agg (sqCells n (M.sqA n d)), .nilIface]) (results_cell_row1 (p := 2) (u := 3) rfl _ _ (w.heap.size + 1) 73 _ (0, 0) _ rfl (setRow_heap _ _ _ _ _ _ hz) Tryd.underlying73 rfl (infoSq' _ _)) rfl ?_
        exact ⟨fun _ => ⟨rfl, by rw [hN.out]; exact hn⟩, fun h => absurd hr0.out h, below_setRow hb _ _ (by omega)⟩

end Go.Proofs.YtcenhemlgapkeaaDoor
