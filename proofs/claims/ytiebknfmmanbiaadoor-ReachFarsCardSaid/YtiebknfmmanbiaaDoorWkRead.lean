/- The call reach.read: an array's relation, bit by bit, or what is wrong with it. Condition: rows that lie as lists of ints. -/
import Derived.Test.YtiebknfmmanbiaaDoorWkClosed
import Derived.Test.YtiebknfmmanbiaaDoorBdB
import Derived.Test.YtiebknfmmanbiaaDoorWkArr
import Derived.Deep.QuietTactic
import Derived.BigQuiet
namespace Go.Proofs.YtiebknfmmanbiaaDoor
open Go.RowKit

namespace M
/-- What is wrong with an array that should be a relation. -/
def relFault (x : Arr) : Int :=
  if flaw x.ch x.s x.d ≠ 0 then flaw x.ch x.s x.d
  else if x.s.length ≠ 2 then 3
  else if x.s.getD 0 0 ≠ x.s.getD 1 0 then 4
  else if 24 < x.s.getD 0 0 then 7
  else if x.ch = true then 6
  else if x.d.all (fun c => c == 0 || c == 1) = true then 0 else 6

/-- How many things. -/
def relN (x : Arr) : Nat := (x.s.getD 0 0).toNat
/-- Does i lead to j? -/
def relE (x : Arr) (i j : Nat) : Bool := decide (i < relN x ∧ j < relN x) && (x.d.getD (i * relN x + j) 0 == 1)
end M

theorem results_cell_row2 {P : Program} {fn : Func} {p u v : Tmp} {ty : TypeId} (h : fn.results = #[.cell p ty, .tmp u, .tmp v]) (tmps : Array Value) (w : World) (g : Nat) (t : TypeId) (cs : Array Value) (fr : Nat × Nat) (d : TypeDesc)
    (hp : tmps.getD p undef = .pointer (some ⟨g, 0, none⟩)) (hg : w.heap[g]? = some (.cells cs t fr))
    (hu : P.underlying ty = some d) (hd : (match d with | .struct _ | .array _ _ => true | _ => false) = true) (hi : (P.info? ty).map (·.size) = some cs.size) :
    (results fn tmps).run P w = .ok (.tuple #[.agg cs, tmps.getD u undef, tmps.getD v undef]) w := by
  have hp' : tmps[p]?.getD undef = .pointer (some ⟨g, 0, none⟩) := by simpa using hp
  simp [results, h, hp', asAddr, Sem.run_bind, run_loadVar_row w g t ty cs fr d hg hu hd hi]

/-- What reach.read leaves. -/
def ReadPost (x : Arr) (w : World) (e : Ending) (w' : World) : Prop :=
  (M.relFault x = 0 → ∃ T, e = .returned (.tuple #[.agg (maskCells T), .int .i64 (M.relN x : Nat), .nilIface]) ∧ Masks T ∧ (∀ i j, bitE T i j = M.relE x i j) ∧ M.relN x ≤ 24) ∧
  (M.relFault x ≠ 0 → ∃ T, e = .returned (.tuple #[.agg (maskCells T), .int .i64 0, .iface 39 (.int .i64 (M.relFault x))]) ∧ Masks T) ∧ Below w.heap.size w w'

theorem ReadPost.err {x : Arr} {w w' : World} {e : Ending} {n : Int} {T : List Nat} (h : M.relFault x = n) (hn : n ≠ 0) (he : e = .returned (.tuple #[.agg (maskCells T), .int .i64 0, .iface 39 (.int .i64 n)])) (hM : Masks T) (hb : Below w.heap.size w w') : ReadPost x w e w' := by
  subst h; exact ⟨fun h => absurd h hn, fun _ => ⟨T, he, hM⟩, hb⟩

/-- The bits so far: the first p cells. -/
def SoFar (x : Arr) (p : Nat) (T : List Nat) : Prop := ∀ i j, bitE T i j = (decide (i < M.relN x ∧ j < M.relN x ∧ i * M.relN x + j < p) && (x.d.getD (i * M.relN x + j) 0 == 1))

theorem soFar_zero (x : Arr) : SoFar x 0 zeros24 := fun i j => by
  rw [bitE_zero, decide_eq_false (by omega)]; rfl

theorem index_lt {n i j : Nat} (hi : i < n) (hj : j < n) : i * n + j < n * n := by
  have : (i + 1) * n ≤ n * n := Nat.mul_le_mul_right n hi
  rw [Nat.add_mul, Nat.one_mul] at this; omega

theorem soFar_all {x : Arr} {T : List Nat} (h : SoFar x (M.relN x * M.relN x) T) : ∀ i j, bitE T i j = M.relE x i j := fun i j => by
  rw [h i j]
  unfold M.relE
  congr 1
  rw [Bool.eq_iff_iff]
  simp only [decide_eq_true_eq]
  exact ⟨fun h => ⟨h.1, h.2.1⟩, fun h => ⟨h.1, h.2, index_lt h.1 h.2⟩⟩

theorem at_index {n p i j : Nat} (hj : j < n) : i * n + j = p ↔ i = p / n ∧ j = p % n := by
  constructor
  · intro h
    subst h
    rw [Nat.mul_comm, Nat.mul_add_div (by omega), Nat.div_eq_of_lt hj, Nat.mul_add_mod, Nat.mod_eq_of_lt hj]
    exact ⟨rfl, rfl⟩
  · rintro ⟨rfl, rfl⟩
    rw [Nat.mul_comm]; exact Nat.div_add_mod p n

theorem soFar_skip {x : Arr} {p : Nat} {T : List Nat} (h : SoFar x p T) (hc : x.d.getD p 0 ≠ 1) : SoFar x (p + 1) T := fun i j => by
  rw [h i j]
  by_cases e : i * M.relN x + j = p
  · rw [e]
    have : (x.d.getD p 0 == 1) = false := by rw [beq_eq_false_iff_ne]; exact hc
    rw [this, Bool.and_false, Bool.and_false]
  · congr 1
    rw [Bool.eq_iff_iff]
    simp only [decide_eq_true_eq]
    omega

theorem soFar_bit {x : Arr} {p : Nat} {T : List Nat} (h : SoFar x p T) (hT : T.length = 24) (hn : M.relN x ≤ 24) (hp : p < M.relN x * M.relN x) (hc : x.d.getD p 0 = 1) :
    SoFar x (p + 1) (T.set (p / M.relN x) (T.getD (p / M.relN x) 0 ||| 2 ^ (p % M.relN x))) := fun i j => by
  have hpos : 0 < M.relN x := Nat.pos_of_ne_zero fun h0 => by rw [h0] at hp; simp at hp
  have hq : p / M.relN x < M.relN x := Nat.div_lt_of_lt_mul hp
  have hr : p % M.relN x < M.relN x := Nat.mod_lt _ hpos
  unfold bitE
  rw [getD_set (by omega)]
  have h1 := h i j
  unfold bitE at h1
  by_cases ei : i = p / M.relN x
  · subst ei
    rw [if_pos rfl, Nat.testBit_or, h1, Nat.testBit_two_pow]
    by_cases ej : j = p % M.relN x
    · subst ej
      have e := (at_index (i := p / M.relN x) hr).2 ⟨rfl, rfl⟩
      rw [e, hc, decide_eq_true rfl, Bool.or_true, decide_eq_true ⟨hq, hr, Nat.lt_succ_self p⟩]; rfl
    · rw [show decide (p % M.relN x = j) = false from decide_eq_false (fun h => ej h.symm), Bool.or_false]
      congr 1
      rw [Bool.eq_iff_iff]
      simp only [decide_eq_true_eq]
      constructor
      · rintro ⟨a, b, c⟩; exact ⟨a, b, by omega⟩
      · rintro ⟨a, b, c⟩
        refine ⟨a, b, ?_⟩
        have : p / M.relN x * M.relN x + j ≠ p := fun h => ej ((at_index b).1 h).2
        omega
  · rw [if_neg ei, h1]
    congr 1
    rw [Bool.eq_iff_iff]
    simp only [decide_eq_true_eq]
    constructor
    · rintro ⟨a, b, c⟩; exact ⟨a, b, by omega⟩
    · rintro ⟨a, b, c⟩
      refine ⟨a, b, ?_⟩
      have : i * M.relN x + j ≠ p := fun h => ei ((at_index b).1 h).1
      omega

theorem all01 {d : List Int} (h : ∀ p, p < d.length → d.getD p 0 = 0 ∨ d.getD p 0 = 1) : d.all (fun c => c == 0 || c == 1) = true := by
  rw [List.all_eq_true]
  intro c hc
  obtain ⟨p, hp, rfl⟩ := List.getElem_of_mem hc
  have := h p hp
  simp only [List.getD_eq_getElem?_getD, List.getElem?_eq_getElem hp, Option.getD_some] at this
  rcases this with h | h <;> simp [h]

theorem not01 {d : List Int} {p : Nat} (hp : p < d.length) (h0 : d[p] ≠ 0) (h1 : d[p] ≠ 1) : d.all (fun c => c == 0 || c == 1) ≠ true := by
  intro h
  rw [List.all_eq_true] at h
  have := h d[p] (List.getElem_mem hp)
  simp [h0, h1] at this

set_option maxHeartbeats 8000000 in
theorem read_any (ch : Bool) (a b : Option Addr) (s d : List Int) (m c n z : Nat) (w : World) (hs : Row w a s) (hd : Row w b d) (ls : s.length ≤ maxLen) (ld : d.length ≤ maxLen) (em : m = s.length) (en : n = d.length) :
    Calls Tryd.prog 70 #[arrV ch a m c b n z] w (ReadPost ⟨ch, s, d⟩ w) := by
  subst em
  subst en
  have hcheck := fun w h1 h2 => check_any ch a b s d _ c _ z w h1 h2 ls ld rfl rfl
  have E := (((Env.start w).addRow hd).addRow hs).box ch a s.length c b d.length z
  have E2 := (E.alloc (.cells (maskCells zeros24) 79)).alloc (.cells (maskCells zeros24) 79)
  have hi : ∀ T, Masks T → (Tryd.prog.info? 79).map (·.size) = some (maskCells T).size := fun T h => by rw [mask_size, h.1]; exact Tryd.infoThings
  have hsz : ∀ T, Masks T → (maskCells zeros24).size = (maskCells T).size := fun T h => by rw [mask_size, mask_size, h.1]; rfl
  replace hi := Lib.hid hi
  replace hsz := Lib.hid hsz
  replace hcheck := Lib.hid hcheck
  have Z1 : ((((w.alloc (.cells #[.bool ch, .slice a s.length c, .slice b d.length z] 24)).alloc (.cells (maskCells zeros24) 79)).alloc (.cells (maskCells zeros24) 79))).heap[w.heap.size + 1]? = some (.cells (maskCells zeros24) 79 (0, 0)) := by
    have := heap_alloc2_old (w.alloc (.cells #[.bool ch, .slice a s.length c, .slice b d.length z] 24)) (.cells (maskCells zeros24) 79) (.cells (maskCells zeros24) 79)
    rw [World.size_alloc] at this; exact this
  have Z2 : ((((w.alloc (.cells #[.bool ch, .slice a s.length c, .slice b d.length z] 24)).alloc (.cells (maskCells zeros24) 79)).alloc (.cells (maskCells zeros24) 79))).heap[w.heap.size + 1 + 1]? = some (.cells (maskCells zeros24) 79 (0, 0)) := by
    have := heap_alloc2_new (w.alloc (.cells #[.bool ch, .slice a s.length c, .slice b d.length z] 24)) (.cells (maskCells zeros24) 79) (.cells (maskCells zeros24) 79)
    rw [World.size_alloc] at this; exact this
  have NN : ((((w.alloc (.cells #[.bool ch, .slice a s.length c, .slice b d.length z] 24)).alloc (.cells (maskCells zeros24) 79)).alloc (.cells (maskCells zeros24) 79))).heap.size = w.heap.size + 3 := by simp
  rw [zeros_cells] at E2 Z1 Z2 NN
  clear E
  replace Z1 := Lib.hid Z1
  replace Z2 := Lib.hid Z2
  replace NN := Lib.hid NN
  go_enter Tryd.func70, Tryd.ntmps70
  go_wp2_with fail
  refine (hcheck.out _ (E2.getRow 1 rfl) (E2.getRow 2 rfl)).mono ?_
  rintro e w1 ⟨rfl, hb⟩
  have E := E2.step hb
  have X1 := (hb.block (w.heap.size + 1) (by rw [NN.out]; omega)).trans Z1.out
  have X2 := (hb.block (w.heap.size + 1 + 1) (by rw [NN.out]; omega)).trans Z2.out
  rw [← zeros_cells] at X1 X2
  clear E2 Z1 Z2 NN hb
  have hD := E.getRow 2 rfl
  have hS := E.getRow 1 rfl
  obtain ⟨⟨u0, u1, u2⟩, -, -, -⟩ := E.getBox 0 rfl
  have hbel := E.bel
  have stay : ∀ n T wr, Masks T → n ≠ 0 → M.relFault ⟨ch, s, d⟩ = n → wr.heap[w.heap.size + 1]? = some (.cells (maskCells zeros24) 79 (0, 0)) → Below w.heap.size w wr →
      ReadPost ⟨ch, s, d⟩ w (.returned (.tuple #[.agg (maskCells T), .int .i64 0, .iface 39 (.int .i64 n)])) (wr.setRow (w.heap.size + 1) (maskCells T)) := fun n T wr hM hn hf _ hb => .err hf hn rfl hM (below_setRow hb _ _ (by omega))
  replace stay := Lib.hid stay
  clear E
  by_cases hf : M.flaw ch s d = 0
  case neg =>
    have hr : M.relFault ⟨ch, s, d⟩ = M.flaw ch s d := if_pos hf
    rw [errV_ne hf]
    generalize M.flaw ch s d = n at *
    replace hr := Lib.hid hr
    replace hf := Lib.hid hf
    clear u0 u1 u2
    go_wp2_with (first
      | (refine wpList_load_row rfl 79 _ rfl (w.heap.size + 1 + 1) rfl _ _ _ _ X2 Tryd.underlying79 rfl (hi.out _ masks_zero) ?_)
      | (refine wpList_store_row rfl 79 _ _ rfl (w.heap.size + 1) _ rfl rfl _ _ X1 (hi.out _ masks_zero) (hsz.out _ masks_zero) (mask_one _) ?_))
    refine bodyPost_ret (v := .tuple #[.agg (maskCells zeros24), .int .i64 0, .iface 39 (.int .i64 n)]) (results_cell_row2 (p := 2) (u := 3) (v := 4) rfl _ _ (w.heap.size + 1) 79 _ (0, 0) _ rfl (setRow_heap _ _ _ _ _ _ X1) Tryd.underlying79 rfl (hi.out _ masks_zero)) rfl ?_
    exact stay.out n zeros24 w1 masks_zero hf.out hr.out X1 hbel
  rw [hf, errV_zero]
  have hr0 : M.relFault ⟨ch, s, d⟩ = if s.length ≠ 2 then 3 else if s.getD 0 0 ≠ s.getD 1 0 then 4 else if 24 < s.getD 0 0 then 7 else if ch = true then 6 else if d.all (fun c => c == 0 || c == 1) = true then 0 else 6 := if_neg (fun h => h hf)
  have hfl := Lib.hid hf
  clear hf
  by_cases hl : s.length = 2
  case neg =>
    have hr := Lib.hid (hr0.trans (if_pos hl))
    have hb2 : (((s.length : Nat) : Int) != 2) = true := by rw [bne_iff_ne]; omega
    replace hl := Lib.hid hl
    clear hr0
    go_wp2_with (first
      | (refine wpList_load_row rfl 79 _ rfl (w.heap.size + 1 + 1) rfl _ _ _ _ X2 Tryd.underlying79 rfl (hi.out _ masks_zero) ?_)
      | (refine wpList_store_row rfl 79 _ _ rfl (w.heap.size + 1) _ rfl rfl _ _ X1 (hi.out _ masks_zero) (hsz.out _ masks_zero) (mask_one _) ?_))
    refine bodyPost_ret (v := .tuple #[.agg (maskCells zeros24), .int .i64 0, .iface 39 (.int .i64 3)]) (results_cell_row2 (p := 2) (u := 3) (v := 4) rfl _ _ (w.heap.size + 1) 79 _ (0, 0) _ rfl (setRow_heap _ _ _ _ _ _ X1) Tryd.underlying79 rfl (hi.out _ masks_zero)) rfl ?_
    exact stay.out 3 zeros24 w1 masks_zero (by decide) hr.out X1 hbel
  rw [if_neg (fun h => h hl)] at hr0
  obtain ⟨x, y, rfl⟩ : ∃ x y, s = [x, y] := by
    match s, hl with
    | [x, y], _ => exact ⟨x, y, rfl⟩
  obtain ⟨bs, os, rfl, hc0⟩ := hS 0 (by simp)
  obtain ⟨bs', os', e, hc1⟩ := hS 1 (by simp)
  cases e
  simp only [List.getD_cons_zero, List.getD_cons_succ, Nat.add_zero, List.length_cons, List.length_nil, Nat.zero_add, Nat.reduceAdd] at hc0 hc1 hr0 u1 ⊢
  clear hl
  by_cases hxy : x = y
  case neg =>
    have hr := Lib.hid (hr0.trans (if_pos hxy))
    have hb2 : (x != y) = true := by rw [bne_iff_ne]; exact hxy
    replace hxy := Lib.hid hxy
    clear hr0
    go_wp2
    go_quiet (fail)
    go_wp2_with (first
      | (refine wpList_load_row rfl 79 _ rfl (w.heap.size + 1 + 1) rfl _ _ _ _ X2 Tryd.underlying79 rfl (hi.out _ masks_zero) ?_)
      | (refine wpList_store_row rfl 79 _ _ rfl (w.heap.size + 1) _ rfl rfl _ _ X1 (hi.out _ masks_zero) (hsz.out _ masks_zero) (mask_one _) ?_))
    refine bodyPost_ret (v := .tuple #[.agg (maskCells zeros24), .int .i64 0, .iface 39 (.int .i64 4)]) (results_cell_row2 (p := 2) (u := 3) (v := 4) rfl _ _ (w.heap.size + 1) 79 _ (0, 0) _ rfl (setRow_heap _ _ _ _ _ _ X1) Tryd.underlying79 rfl (hi.out _ masks_zero)) rfl ?_
    exact stay.out 4 zeros24 (w1.drewN _) masks_zero (by decide) hr.out X1 (below_drewN hbel _)
  subst hxy
  rw [if_neg (fun h => h rfl)] at hr0
  have hxx : (x != x) = false := by rw [bne_eq_false_iff_eq]
  by_cases hg : 24 < x
  case pos =>
    have hr := Lib.hid (hr0.trans (if_pos hg))
    have hb2 : decide (24 < x) = true := decide_eq_true hg
    replace hg := Lib.hid hg
    clear hr0
    go_wp2
    go_quiet (fail)
    go_wp2_with (first
      | (refine wpList_load_row rfl 79 _ rfl (w.heap.size + 1 + 1) rfl _ _ _ _ X2 Tryd.underlying79 rfl (hi.out _ masks_zero) ?_)
      | (refine wpList_store_row rfl 79 _ _ rfl (w.heap.size + 1) _ rfl rfl _ _ X1 (hi.out _ masks_zero) (hsz.out _ masks_zero) (mask_one _) ?_))
    refine bodyPost_ret (v := .tuple #[.agg (maskCells zeros24), .int .i64 0, .iface 39 (.int .i64 7)]) (results_cell_row2 (p := 2) (u := 3) (v := 4) rfl _ _ (w.heap.size + 1) 79 _ (0, 0) _ rfl (setRow_heap _ _ _ _ _ _ X1) Tryd.underlying79 rfl (hi.out _ masks_zero)) rfl ?_
    exact stay.out 7 zeros24 (w1.drewN _) masks_zero (by decide) hr.out X1 (below_drewN hbel _)
  rw [if_neg hg] at hr0
  have hb2 : decide (24 < x) = false := decide_eq_false hg
  cases ch with
  | true =>
    have hr := Lib.hid (hr0.trans (if_pos rfl))
    replace hg := Lib.hid hg
    clear hr0
    go_wp2
    go_quiet (fail)
    go_wp2_with (first
      | (refine wpList_load_row rfl 79 _ rfl (w.heap.size + 1 + 1) rfl _ _ _ _ X2 Tryd.underlying79 rfl (hi.out _ masks_zero) ?_)
      | (refine wpList_store_row rfl 79 _ _ rfl (w.heap.size + 1) _ rfl rfl _ _ X1 (hi.out _ masks_zero) (hsz.out _ masks_zero) (mask_one _) ?_))
    refine bodyPost_ret (v := .tuple #[.agg (maskCells zeros24), .int .i64 0, .iface 39 (.int .i64 6)]) (results_cell_row2 (p := 2) (u := 3) (v := 4) rfl _ _ (w.heap.size + 1) 79 _ (0, 0) _ rfl (setRow_heap _ _ _ _ _ _ X1) Tryd.underlying79 rfl (hi.out _ masks_zero)) rfl ?_
    exact stay.out 6 zeros24 (w1.drewN _) masks_zero (by decide) hr.out X1 (below_drewN hbel _)
  | false =>
    rw [if_neg (by decide)] at hr0
    obtain ⟨q0, hq0, hlen⟩ := flaw_parts hfl.out
    have hx0 := ((M.count_ok hq0).2.1 x (by simp)).1
    have hqq := (M.count_ok hq0).2.2.1
    obtain ⟨n, rfl⟩ : ∃ n : Nat, x = n := ⟨x.toNat, by omega⟩
    have hdl : d.length = n * n := by
      rw [hqq] at hlen
      simp only [M.prod, Int.mul_one] at hlen
      exact_mod_cast hlen
    have hN : M.relN ⟨false, [(n : Int), (n : Int)], d⟩ = n := rfl
    have hn : n ≤ 24 := by omega
    clear hq0 hqq hx0 hlen hg
    replace hdl := Lib.hid hdl
    replace hN := Lib.hid hN
    replace hr0 := Lib.hid hr0
    go_wp2
    go_quiet (fail)
    go_wp2
    go_loopw [55] (fun v wr => ∃ (p : Nat) (T : List Nat), p ≤ d.length ∧ v = .int .i64 p ∧ Masks T ∧ SoFar ⟨false, [(n : Int), (n : Int)], d⟩ p T ∧ (∀ k, k < p → d.getD k 0 = 0 ∨ d.getD k 0 = 1) ∧
        wr.heap[w.heap.size + 1 + 1]? = some (.cells (maskCells T) 79 (0, 0)) ∧ wr.heap[w.heap.size + 1]? = some (.cells (maskCells zeros24) 79 (0, 0)) ∧ Below w.heap.size w wr) (fun v _ => d.length - (intOf v).toNat)
    case atStart => exact ⟨0, zeros24, Nat.zero_le _, rfl, masks_zero, soFar_zero _, fun k hk => absurd hk (Nat.not_lt_zero _), X2, X1, below_drewN hbel _⟩
    case round =>
      obtain ⟨p, T, hp, rfl, hM, hSo, h01, hh, hz, hb⟩ := hrel
      clear X1 X2 hc0 hc1 u0 u1 u2 hD hS
      unfold maxLen at ld
      by_cases hlt : p < d.length
      · obtain ⟨bd, od, rfl, hc⟩ := hd.below hb p hlt
        have hget : d.getD p 0 = d[p] := by simp [hlt]
        by_cases z0 : d[p] = 0
        · have e0 : (d[p] == 0) = true := by rw [beq_iff_eq]; exact z0
          have n1 := Lib.hid (soFar_skip hSo (by show d.getD p 0 ≠ 1; rw [hget, z0]; decide))
          have n2 := Lib.hid (show ∀ k, k < p + 1 → d.getD k 0 = 0 ∨ d.getD k 0 = 1 from fun k hk => by
            by_cases e : k = p
            · subst e; rw [hget]; exact .inl z0
            · exact h01 k (by omega))
          replace z0 := Lib.hid z0
          replace hM := Lib.hid hM
          replace hh := Lib.hid hh
          replace hz := Lib.hid hz
          clear hSo h01 hget
          go_wp2
          go_roundw
          case rel => exact ⟨p + 1, T, by omega, by go_num, hM.out, n1.out, n2.out, hh.out, hz.out, hb⟩
          case measure => simp [intOf]; omega
        · have e0 : (d[p] == 0) = false := by rw [beq_eq_false_iff_ne]; exact z0
          by_cases z1 : d[p] = 1
          · have e1 : (d[p] == 1) = true := by rw [beq_iff_eq]; exact z1
            have hpn : p < n * n := by rw [← hdl.out]; exact hlt
            have n1 := soFar_bit hSo hM.1 (by rw [hN.out]; exact hn) (by rw [hN.out]; exact hpn) (by show d.getD p 0 = 1; rw [hget, z1])
            rw [hN.out] at n1
            have n2 := Lib.hid (show ∀ k, k < p + 1 → d.getD k 0 = 0 ∨ d.getD k 0 = 1 from fun k hk => by
              by_cases e : k = p
              · subst e; rw [hget]; exact .inr z1
              · exact h01 k (by omega))
            have hn1 : 1 ≤ n := Nat.pos_of_ne_zero fun h0 => by rw [h0] at hpn; simp at hpn
            have q0 : ((p : Int) / (n : Int)) = ((p / n : Nat) : Int) := by simp
            have q1 : wrap64 ((p : Int) / (n : Int)) = ((p / n : Nat) : Int) := by
              rw [q0]
              have h1 := Nat.div_le_self p n
              generalize p / n = k at h1 ⊢
              exact IntWalk.wrap64_in _ (by omega)
            have q2 : (p : Int) % (n : Int) = ((p % n : Nat) : Int) := by simp
            clear q0
            have q3 : p / n < n := Nat.div_lt_of_lt_mul hpn
            have q4 : p % n < n := Nat.mod_lt _ hn1
            generalize p / n = qq at *
            generalize p % n = rr at *
            have q5 : IntKind.u32.wrap ((2 : Int) ^ rr) = (2 : Int) ^ rr := by
              have h1 : 2 ^ rr < 4294967296 := Nat.lt_of_lt_of_le (Nat.pow_lt_pow_right (by decide) (show rr < 24 by omega)) (by decide)
              have := u32_in (2 ^ rr) h1
              simpa using this
            have hr32 : 2 ^ rr < 4294967296 := Nat.lt_of_lt_of_le (Nat.pow_lt_pow_right (by decide) (show rr < 24 by omega)) (by decide)
            have c2 := mask_cell hh (k := qq) (by have := hM.1; omega)
            have f2 := frozen_of_row wr (w.heap.size + 1 + 1) qq _ 79 hh
            have b2 := hM.get qq
            have hset := Lib.hid (mask_set hh qq (T.getD qq 0 ||| 2 ^ rr))
            have hM2 := Lib.hid (hM.set qq _ (or_lt32 b2 hr32))
            have ho : bits .or .u32 ((T.getD qq 0 : Nat) : Int) ((2 : Int) ^ rr) = ((T.getD qq 0 ||| 2 ^ rr : Nat) : Int) := by
              have := bits_or32 b2 hr32
              rw [← this]; simp
            have hn0 : ((n : Int) == 0) = false := by rw [beq_eq_false_iff_ne]; omega
            have i1 : (qq : Int) < 24 := by omega
            have i2 : (rr : Int) ≤ 32 := by omega
            replace n1 := Lib.hid n1
            generalize T.getD qq 0 = A at *
            replace z0 := Lib.hid z0
            replace z1 := Lib.hid z1
            replace hM := Lib.hid hM
            replace hh := Lib.hid hh
            replace hz := Lib.hid hz
            clear hSo h01 hget
            go_wp2
            go_region
            go_wp2
            go_roundw
            case rel =>
              refine ⟨p + 1, _, by omega, by go_num, hM2.out, n1.out, n2.out, ?_, ?_, (hb.setCell (p := ⟨w.heap.size + 1 + 1, qq, none⟩) (by simp; omega) _).drew⟩
              · exact hset.out
              · have := Below.heap_setCell wr ⟨w.heap.size + 1 + 1, qq, none⟩ (.int .u32 ((A ||| 2 ^ rr : Nat) : Int)) (w.heap.size + 1) (by simp)
                exact this.trans hz.out
            case measure => simp [intOf]; omega
          · have e1 : (d[p] == 1) = false := by rw [beq_eq_false_iff_ne]; exact z1
            have hr := Lib.hid (hr0.out.trans (if_neg (not01 hlt z0 z1)))
            replace z0 := Lib.hid z0
            replace z1 := Lib.hid z1
            replace hM := Lib.hid hM
            clear hSo h01 hget
            go_wp2_with (first
              | (refine wpList_load_row rfl 79 _ rfl (w.heap.size + 1 + 1) rfl _ _ _ _ hh Tryd.underlying79 rfl (hi.out _ hM.out) ?_)
              | (refine wpList_store_row rfl 79 _ _ rfl (w.heap.size + 1) _ rfl rfl _ _ hz (hi.out _ hM.out) (hsz.out _ hM.out) (mask_one _) ?_))
            refine bodyPost_ret (v := .tuple #[.agg (maskCells T), .int .i64 0, .iface 39 (.int .i64 6)]) (results_cell_row2 (p := 2) (u := 3) (v := 4) rfl _ _ (w.heap.size + 1) 79 _ (0, 0) _ rfl (setRow_heap _ _ _ _ _ _ hz) Tryd.underlying79 rfl (hi.out _ hM.out)) rfl ?_
            exact stay.out 6 T wr hM.out (by decide) hr.out hz hb
      · obtain rfl : p = d.length := by omega
        have hr := Lib.hid (hr0.out.trans (if_pos (all01 h01)))
        have hall := Lib.hid (soFar_all (x := ⟨false, [(n : Int), (n : Int)], d⟩) (T := T) (by rw [hN.out, ← hdl.out]; exact hSo))
        replace hM := Lib.hid hM
        clear hSo h01
        go_wp2_with (first
          | (refine wpList_load_row rfl 79 _ rfl (w.heap.size + 1 + 1) rfl _ _ _ _ hh Tryd.underlying79 rfl (hi.out _ hM.out) ?_)
          | (refine wpList_store_row rfl 79 _ _ rfl (w.heap.size + 1) _ rfl rfl _ _ hz (hi.out _ hM.out) (hsz.out _ hM.out) (mask_one _) ?_))
        refine bodyPost_ret (v := .tuple #[.agg (maskCells T), .int .i64 (n : Int), .nilIface]) (results_cell_row2 (p := 2) (u := 3) (v := 4) rfl _ _ (w.heap.size + 1) 79 _ (0, 0) _ rfl (setRow_heap _ _ _ _ _ _ hz) Tryd.underlying79 rfl (hi.out _ hM.out)) rfl ?_
        exact ⟨fun _ => ⟨T, rfl, hM.out, hall.out, by rw [hN.out]; exact hn⟩, fun h => absurd hr.out h, below_setRow hb _ _ (by omega)⟩

end Go.Proofs.YtiebknfmmanbiaaDoor
