/- The call shape.At returns M.atp of the lengths and the place, in new memory; nothing that was there turns. Condition: the slice reads as a list of ints. -/
import Derived.Test.YtldhklbpmfckcaaDoorWkFromLast
import Derived.Test.YtldhklbpmfckcaaDoorWkCount
import Derived.Test.YtldhklbpmfckcaaDoorAt
import Derived.Test.YtldhklbpmfckcaaDoorPlainShape
namespace Go.Proofs.YtldhklbpmfckcaaDoor
open Go.RowKit Go.Shelf
attribute [local go_sem] Oper.semAt_some

/-- n zeros, as cells. -/
def zeroCells (n : Nat) : Array Value := (List.replicate n (Value.int .i64 0)).toArray

theorem run_make_ints (n : Nat) (hb : n < 17592186044416) (W : World) :
    (Instr.makeSlice 37 (.int .i64 (n : Int)) (.int .i64 (n : Int))).run Tryd.prog W = .ok (.slice (some ⟨W.heap.size, 0, none⟩) n n) (W.alloc (.cells (zeroCells n) 3)) := by
  obtain ⟨i0, hi, hz0, hz1, hz2⟩ := info_parts Tryd.infoInt
  have h := run_make (P := Tryd.prog) W 37 3 i0 (.int .i64 0) Tryd.underlying37 hi hz0 .i64 .i64 n n (by omega) (Int.le_refl _) (by rw [hz2]; omega) (by omega)
  rw [hz1, Int.toNat_natCast, Nat.mul_one] at h
  rw [h]
  have e : madeCells (Value.int .i64 0).cells n = zeroCells n := by
    apply Array.toList_inj.1
    exact (toList_madeCells_one _ _).trans rfl
  rw [e]

/-- One axis more: the state (what the slice holds, what is left of the place). -/
def stp (s : List Int) (σ : List Int × Int) (i : Fin s.length) : List Int × Int := (σ.1.set i (σ.2 % s.getD i 0), σ.2 / s.getD i 0)
def st (s : List Int) (p : Int) (pre : List (Fin s.length)) : List Int × Int := pre.foldl (stp s) (List.replicate s.length 0, p)

theorem st_snoc (s : List Int) (p : Int) (pre : List (Fin s.length)) (i : Fin s.length) : st s p (pre ++ [i]) = stp s (st s p pre) i := by simp [st]

theorem st_down (s : List Int) (p : Int) : ∀ d k : Nat, k + d = s.length → st s p (downTo s.length k) = (atSoFar s p k, (M.coords (s.drop k) p).2)
  | 0, k, h => by
    have : k = s.length := by omega
    subst this
    rw [downTo_none, atSoFar_start]; simp [st, M.coords]
  | d + 1, k, h => by
    have hk : k < s.length := by omega
    rw [downTo_step _ _ hk, st_snoc, st_down s p d (k + 1) (by omega), stp]
    simp only [atSoFar_step p hk]
    rw [drop_coords p hk]

/-- A block of ints. -/
def cellsOf (ys : List Int) : Array Value := (ys.map (Value.int .i64)).toArray

theorem block_cell {W : World} {b : Nat} {e : TypeId} {ys : List Int} (h : W.heap[b]? = some (.cells (cellsOf ys) e (0, 0))) {k : Nat} (hk : k < ys.length) :
    W.cell? ⟨b, k, none⟩ = some (.int .i64 (ys.getD k 0)) := by
  rw [cell_of_row W b k _ e (0, 0) h]
  simp [cellsOf, hk]

theorem block_set {W : World} {b : Nat} {e : TypeId} {ys : List Int} (h : W.heap[b]? = some (.cells (cellsOf ys) e (0, 0))) (k : Nat) (v : Int) :
    (W.setCell ⟨b, k, none⟩ (.int .i64 v)).heap[b]? = some (.cells (cellsOf (ys.set k v)) e (0, 0)) := by
  rw [heap_setCell_same W b k _ e _ h]
  congr 2
  apply Array.toList_inj.1
  simp [cellsOf]

theorem own_of_block {W : World} {b B n : Nat} {ys : List Int} (h : W.heap[b]? = some (.cells (cellsOf ys) 3 (0, 0))) (hb : B ≤ b) (hn : n = ys.length) (hm : ys.length ≤ maxLen) :
    Own W B (.slice (some ⟨b, 0, none⟩) n n) ys := by
  subst hn
  exact ⟨by simp, .inr ⟨b, _, _, rfl, hb, h, Nat.le_refl _, hm, by simp [cellsOf], List.take_of_length_le (by simp [cellsOf])⟩⟩

/-- What the body of the loop keeps in memory. -/
def AtInv (s : List Int) (p : Int) (w : World) (pre : List (Fin s.length)) (W : World) : Prop :=
  (W.cell? ⟨w.heap.size, 0, none⟩ = some (.int .i64 (st s p pre).2) ∧ W.frozen? ⟨w.heap.size, 0, none⟩ = false ∧
    W.heap[w.heap.size + 1]? = some (.cells (cellsOf (st s p pre).1) 3 (0, 0)) ∧
    W.cell? ⟨w.heap.size + 1 + 1, 0, none⟩ = some (.slice (some ⟨w.heap.size + 1, 0, none⟩) s.length s.length) ∧
    ((st s p pre).1.length = s.length ∧ 0 ≤ (st s p pre).2 ∧ (st s p pre).2 ≤ p)) ∧ Below w.heap.size w W

theorem keep_b {n₀ Bs : Nat} {w : World} (hn : n₀ ≤ w.heap.size) (hBs : Bs < w.heap.size) (W : World) (l : Nat) (o o' : Obj) (hl : w.heap.size ≤ l) (h : W.heap[l]? = some o) (hc : o.isCells = false) (hw : o.isWalk = false) :
    Keep n₀ Bs W (W.putObj l o') :=
  ⟨belowK_b hn W l o o' hl h hc hw, (grownBy_putObj' W l o').block Bs (by have := (Array.getElem?_eq_some_iff.1 h).1; omega) (fun e => by cases e; omega)⟩

theorem kept_block {A B : World} {row : Option Nat} {b : Nat} {c : Array Value} {e : TypeId} {f : Nat × Nat} (hc : A.heap[b]? = some (.cells c e f)) (hg : A.grownBy B row)
    (hr : ∀ r, row = some r → ∃ o : Obj, A.heap[r]? = some o ∧ o.isCells = false) : B.heap[b]? = some (.cells c e f) := by
  rw [hg.block b (Array.getElem?_eq_some_iff.1 hc).1 (fun e' => by
    obtain ⟨o, ho, hn⟩ := hr b e'.symm
    rw [hc] at ho
    cases ho
    cases hn)]
  exact hc

theorem at_round {s : List Int} {p : Int} {w W : World} {pre : List (Fin s.length)} {σ : List Int × Int} {k : Nat} {hk : k < s.length} {n : Int}
    (hst : st s p (pre ++ [⟨k, hk⟩]) = (σ.1.set k (σ.2 % n), σ.2 / n)) (hn : 1 ≤ n)
    (hc0 : W.cell? ⟨w.heap.size, 0, none⟩ = some (.int .i64 σ.2)) (hf0 : W.frozen? ⟨w.heap.size, 0, none⟩ = false)
    (hblk : W.heap[w.heap.size + 1]? = some (.cells (cellsOf σ.1) 3 (0, 0)))
    (hc2 : W.cell? ⟨w.heap.size + 1 + 1, 0, none⟩ = some (.slice (some ⟨w.heap.size + 1, 0, none⟩) s.length s.length))
    (hl : σ.1.length = s.length) (hq0 : 0 ≤ σ.2) (hqp : σ.2 ≤ p) (hB : Below w.heap.size w W) :
    KeepsOthers W ((W.setCell ⟨w.heap.size + 1, k, none⟩ (.int .i64 (σ.2 % n))).setCell ⟨w.heap.size, 0, none⟩ (.int .i64 (σ.2 / n))).drew ∧
    Keep w.heap.size (w.heap.size + 1 + 1 + 1) W ((W.setCell ⟨w.heap.size + 1, k, none⟩ (.int .i64 (σ.2 % n))).setCell ⟨w.heap.size, 0, none⟩ (.int .i64 (σ.2 / n))).drew ∧
    AtInv s p w (pre ++ [⟨k, hk⟩]) ((W.setCell ⟨w.heap.size + 1, k, none⟩ (.int .i64 (σ.2 % n))).setCell ⟨w.heap.size, 0, none⟩ (.int .i64 (σ.2 / n))).drew := by
  refine ⟨((KeepsOthers.setCell _ _ _).trans (KeepsOthers.setCell _ _ _)).trans (KeepsOthers.drew _),
    ⟨(((Below.refl _ W).setCell (p := ⟨w.heap.size + 1, k, none⟩) (by simp) _).setCell (p := ⟨w.heap.size, 0, none⟩) (by simp) _).drew, ?_⟩, ?_⟩
  · show (((W.setCell _ _).setCell _ _)).heap[_]? = _
    rw [Below.heap_setCell _ _ _ _ (by simp <;> omega), Below.heap_setCell _ _ _ _ (by simp <;> omega)]
  · unfold AtInv
    rw [hst]
    refine ⟨⟨?_, ?_, ?_, ?_, by simpa using hl, Int.ediv_nonneg hq0 (by omega), Int.le_trans (Int.ediv_le_self _ hq0) hqp⟩, ((hB.setCell (p := ⟨w.heap.size + 1, k, none⟩) (by simp) _).setCell (p := ⟨w.heap.size, 0, none⟩) (by simp) _).drew⟩
    · rw [World.cell?_drew]
      exact World.cell?_setCell_same _ _ _ ((World.cell?_setCell_other _ _ _ _ (by simp)).trans hc0)
    · rw [World.frozen?_drew, World.frozen?_setCell, World.frozen?_setCell]; exact hf0
    · show ((W.setCell _ _).setCell _ _).heap[_]? = _
      rw [Below.heap_setCell _ _ _ _ (by simp)]
      exact block_set hblk k _
    · rw [World.cell?_drew]
      rw [World.cell?_setCell_other _ _ _ _ (by simp <;> omega), World.cell?_setCell_other _ _ _ _ (by simp <;> omega)]
      exact hc2

theorem atInv_own (s : List Int) (p : Int) (w : World) (B : Nat) (hB : w.heap.size + 1 + 1 < B) : OwnFrom B (AtInv s p w) := by
  intro pre A C row hs hg hr
  obtain ⟨⟨h1, h2, h3, h4, h5⟩, hb⟩ := hs
  have hr' : ∀ r, row = some r → ∃ o : Obj, A.heap[r]? = some o ∧ o.isCells = false := fun r e => (hr r e).2
  exact ⟨⟨cell_kept h1 hg hr', (frozen_kept h1 hg hr').trans h2, kept_block h3 hg hr', cell_kept h4 hg hr', h5⟩, ownFrom_below (by omega) (by omega) pre A C row hb hg hr⟩

theorem atInv_start (s : List Int) (a : Option Addr) (c : Nat) (p : Int) (w : World) (hp : 0 ≤ p) : AtInv s p w []
    ((((w.alloc (.cells #[.int .i64 p] 3)).alloc (.cells (zeroCells s.length) 3)).alloc (.cells #[.slice (some ⟨w.heap.size + 1, 0, none⟩) s.length s.length] 37)).alloc (.cells #[.slice a s.length c] 37)) := by
  have e : st s p [] = (List.replicate s.length 0, p) := rfl
  unfold AtInv
  rw [e]
  refine ⟨⟨?_, ?_, ?_, ?_, by simp, hp, Int.le_refl _⟩, ((((Below.refl _ w).alloc (Nat.le_refl _) _).alloc (by simp) _).alloc (by simp; omega) _).alloc (by simp; omega) _⟩
  · rw [World.cell?_alloc_old _ _ _ (by simp <;> omega), World.cell?_alloc_old _ _ _ (by simp <;> omega), World.cell?_alloc_old _ _ _ (by simp <;> omega)]
    simp
  · rw [World.frozen?_alloc_old _ _ _ (by simp <;> omega), World.frozen?_alloc_old _ _ _ (by simp <;> omega), World.frozen?_alloc_old _ _ _ (by simp <;> omega)]
    simp
  · rw [Below.heap_alloc _ _ _ (by simp), Below.heap_alloc _ _ _ (by simp)]
    have := heap_alloc_new (w.alloc (.cells #[.int .i64 p] 3)) (.cells (zeroCells s.length) 3)
    rw [World.size_alloc] at this
    rw [this]
    simp [zeroCells, cellsOf]
  · rw [World.cell?_alloc_old _ _ _ (by simp)]
    have := World.cell?_alloc_new ((w.alloc (.cells #[.int .i64 p] 3)).alloc (.cells (zeroCells s.length) 3)) #[.slice (some ⟨w.heap.size + 1, 0, none⟩) s.length s.length] 37 0
    simp only [World.size_alloc] at this
    rw [this]; rfl

set_option maxHeartbeats 1000000 in
theorem at_ok (a : Option Addr) (s : List Int) (c : Nat) (p q : Int) (w : World) (hs : Row w a s) (hc : M.count s = .ok q) (hp0 : 0 ≤ p) (hpq : p < q) :
    CallsIn Fence.wide 6 Tryd.prog 28 #[.slice a s.length c, .int .i64 p] w fun e w' => ∃ v, e = .returned (.tuple #[v, .nilIface]) ∧ Own w' w.heap.size v (M.coords s p).1 ∧ Below w.heap.size w w' := by
  obtain ⟨h6, hb, hq, hq0, hq1⟩ := M.count_ok hc
  have hm : s.length ≤ maxLen := by unfold maxLen; omega
  have hcall := fun w' (h : Row w' a s) => count_any a s _ c w' h hm rfl
  simp only [hc, resI] at hcall
  replace hcall := Lib.hid hcall
  replace hc := Lib.hid hc
  replace hq := Lib.hid hq
  have hmk := run_make_ints s.length (by omega)
  refine callsIn_of_wp_marks Tryd.func28 rfl trivial ?_ rfl
  simp only [Tryd.ntmps28, List.size_toArray, List.length_cons, List.length_nil, Nat.reduceAdd, Nat.reduceSub, Array.replicate_succ, Array.replicate_zero, List.push_toArray, List.append_toArray, List.nil_append, List.cons_append]
  gi_wp2_with (first
    | (refine ⟨trivial, ?_⟩; gi_at_call 18; refine (callsIn_wide.2 (hcall.out _ (hs.alloc _))).mono ?_; rintro e w' ⟨rfl, rfl⟩)
    | (refine ⟨trivial, ?_⟩; gi_at_call 35; refine (fromLast_in _ _ _ _ _).mono ?_; rintro e w' ⟨rfl, rfl⟩))
  have hlow : ∀ b off, a = some ⟨b, off, none⟩ → 0 < s.length → b < w.heap.size := by
    intro b off e hne
    obtain ⟨b', o', e', hc'⟩ := hs 0 hne
    rw [e] at e'
    simp only [Option.some.injEq, Addr.mk.injEq, and_true] at e'
    rw [e'.1]
    exact World.block_lt_of_cell? w _ hc'
  have hB0 : Below w.heap.size w ((((w.alloc (.cells #[.int .i64 p] 3)).alloc (.cells (zeroCells s.length) 3)).alloc (.cells #[.slice (some ⟨w.heap.size + 1, 0, none⟩) s.length s.length] 37)).alloc (.cells #[.slice a s.length c] 37)) :=
    ((((Below.refl _ w).alloc (Nat.le_refl _) _).alloc (by simp) _).alloc (by simp; omega) _).alloc (by simp; omega) _
  have hpos : ∀ k, k < s.length → 1 ≤ s.getD k 0 ∧ s.getD k 0 ≤ 4096 := by
    intro k hk
    have hm := List.getElem_mem hk
    have e : s.getD k 0 = s[k] := by simp [hk]
    rw [e]
    refine ⟨?_, (hb _ hm).2⟩
    have h0 := (hb _ hm).1
    rcases Int.lt_or_le 0 s[k] with h | h
    · exact h
    · have hz : s[k] = 0 := by omega
      have := M.prod_zero (hz ▸ hm)
      have := hq.out
      omega
  have hsz : w.heap.size + 1 + 1 + 1 < ((((w.alloc (.cells #[.int .i64 p] 3)).alloc (.cells (zeroCells s.length) 3)).alloc (.cells #[.slice (some ⟨w.heap.size + 1, 0, none⟩) s.length s.length] 37)).alloc (.cells #[.slice a s.length c] 37)).heap.size := by simp
  have hbox : ((((w.alloc (.cells #[.int .i64 p] 3)).alloc (.cells (zeroCells s.length) 3)).alloc (.cells #[.slice (some ⟨w.heap.size + 1, 0, none⟩) s.length s.length] 37)).alloc (.cells #[.slice a s.length c] 37)).cell? ⟨w.heap.size + 1 + 1 + 1, 0, none⟩ = some (.slice a s.length c) := by
    have := World.cell?_alloc_new (((w.alloc (.cells #[.int .i64 p] 3)).alloc (.cells (zeroCells s.length) 3)).alloc (.cells #[.slice (some ⟨w.heap.size + 1, 0, none⟩) s.length s.length] 37)) #[.slice a s.length c] 37 0
    simp only [World.size_alloc] at this
    rw [this]; rfl
  refine wpIn_rangeFunc_ownF rfl (by decide) (gf := 43) (lb := #[.pointer (some ⟨w.heap.size + 1 + 1 + 1, 0, none⟩)]) rfl trivial (enters_of Tryd.func43 (by kernel_rfl) rfl)
    (fromLast_stops 5 (by decide) (w.heap.size + 1 + 1 + 1) w.heap.size c a s hm _ hsz hbox (hs.below hB0) hlow) (fun h k => h.trans k) (keep_b (by simp; omega) (by simp)) (Below.refl _ _) (fun _ => rfl)
    (AtInv s p w) (fun _ _ _ => False) (atInv_own s p w _ (by simp)) (fun _ _ _ _ _ hs _ _ => hs) (atInv_start s a c p w hp0)
    (fun x => { tmps := #[.slice a s.length c, .int .i64 p, undef, .pointer (some ⟨w.heap.size, 0, none⟩), .slice none 0 0, .nilIface, .int .i64 q, .nilIface, .pointer (some ⟨w.heap.size + 1 + 1, 0, none⟩),
      .int .i64 ((x : Nat) : Int), .int .i64 s[(x : Nat)], .tuple #[.int .i64 q, .nilIface], .slice a s.length c, .tuple #[.int .i64 q, .nilIface], .int .i64 q, .nilIface,
      .nilIface, .bool false, undef, .int .i64 p, .bool (decide (p < 0)), .bool (decide (p < 0)), .int .i64 p, .int .i64 q, .bool (decide (q ≤ p)), .bool (decide (p < 0) || decide (q ≤ p)), undef, .slice a s.length c,
      .int .i64 (s.length : Int), .slice (some ⟨w.heap.size + 1, 0, none⟩) s.length s.length, .slice a s.length c, .func (.func 43) #[] #[.pointer (some ⟨w.heap.size + 1 + 1 + 1, 0, none⟩)],
      .int .i64 ((x : Nat) : Int), .int .i64 s[(x : Nat)], undef, undef, undef, undef, undef, undef, undef, undef, undef, undef], defers := [] }) ?assign ?body ?done ?stop
  case assign =>
    intro l x W K hK
    have he : encs s x = #[.int .i64 ((x : Nat) : Int), .int .i64 s[(x : Nat)]] := by simp [encs]
    rw [he]
    gi_wp2
    exact hK
  case body =>
    rintro l pre x W ⟨⟨hc0, hf0, hblk, hc2, hl, hq0, hqp⟩, hB⟩ _
    have hst := st_snoc s p pre x
    generalize st s p pre = σ at *
    obtain ⟨k, hk⟩ := x
    obtain ⟨hx1, hx2⟩ := hpos k hk
    have e0 : s.getD k 0 = s[k] := by simp [hk]
    rw [e0] at hx1 hx2
    have hmx : Tryd.prog.follows .mixedOrders = true := by kernel_rfl
    have hck := block_cell hblk (show k < σ.1.length by omega)
    have hfk := frozen_of_row W (w.heap.size + 1) k _ 3 hblk
    have hst' : Hid (st s p (pre ++ [⟨k, hk⟩]) = (σ.1.set k (σ.2 % s[k]), σ.2 / s[k])) := Lib.hid (by rw [hst]; simp only [stp, e0])
    clear hst
    replace hblk := Lib.hid hblk
    replace hl := Lib.hid hl
    have z0 : (s[k] == 0) = false := by rw [beq_eq_false_iff_ne]; omega
    simp only []
    gi_wp2
    gi_region_o
    all_goals gi_wp2
    all_goals exact at_round hst'.out hx1 hc0 hf0 hblk.out hc2 hl.out hq0 hqp hB
  case done =>
    rintro D ys W hD rfl ⟨⟨hc0, hf0, hblk, hc2, hl, hq0, hqp⟩, hB⟩ hK
    rw [st_down s p s.length 0 (by omega), atSoFar_end] at hblk hl
    replace hblk := Lib.hid hblk
    replace hl := Lib.hid hl
    gi_wp2
    have hblk' := kept_block hblk.out (grownBy_putObj' W D (.deferred none)) (fun r e => by cases e; exact ⟨_, hK, rfl⟩)
    refine ⟨by simp, .inl ⟨_, _, rfl, run_takeDeferred hK, ?_⟩⟩
    exact ⟨_, results_tmp2 rfl _ _ _, ⟨_, rfl, own_of_block hblk' (by omega) hl.out.symm (by rw [hl.out]; exact hm), hB.trans (belowK_b (w := w) (Nat.le_refl _) W D _ _ (by simp at hD; omega) hK rfl rfl)⟩⟩
  case stop =>
    rintro D c pre W _ _ h _
    exact h.elim

/-- What shape.At tells: the indices in new memory, or an error. -/
def AtPost (s : List Int) (p : Int) (w : World) (e : Ending) (w' : World) : Prop :=
  (∀ n, M.atp s p = .error n → e = .returned (.tuple #[.slice none 0 0, .iface 23 (.int .i64 n)])) ∧
  (∀ c, M.atp s p = .ok c → ∃ v, e = .returned (.tuple #[v, .nilIface]) ∧ Own w' w.heap.size v c) ∧ Below w.heap.size w w'

set_option maxHeartbeats 1000000 in
theorem at_any (a : Option Addr) (s : List Int) (n c : Nat) (p : Int) (w : World) (hs : Row w a s) (hm : s.length ≤ maxLen) (hn : n = s.length) :
    Calls Tryd.prog 28 #[.slice a n c, .int .i64 p] w (AtPost s p w) := by
  subst hn
  have hcall := fun w' (h : Row w' a s) => count_any a s _ c w' h hm rfl
  cases hc : M.count s with
  | error e0 =>
    simp only [hc, resI] at hcall
    replace hcall := Lib.hid hcall
    have hf := Lib.hid (show M.atp s p = .error e0 by rw [M.atp, hc])
    clear hc
    go_enter Tryd.func28, Tryd.ntmps28
    go_wp2_with (go_at_call 18; refine (hcall.out _ (hs.alloc _)).mono ?_; rintro e w' ⟨rfl, rfl⟩)
    go_ret2
    exact ⟨fun n h => by rw [hf.out] at h; cases h; rfl, fun c h => (by rw [hf.out] at h; cases h), (Below.refl _ w).alloc (Nat.le_refl _) _⟩
  | ok q =>
    by_cases h : p < 0 ∨ q ≤ p
    · simp only [hc, resI] at hcall
      replace hcall := Lib.hid hcall
      have hf := Lib.hid (show M.atp s p = .error 5 by rw [M.atp, hc]; exact if_pos h)
      clear hc
      by_cases h0 : p < 0
      · clear h
        go_enter Tryd.func28, Tryd.ntmps28
        go_wp2_with (go_at_call 18; refine (hcall.out _ (hs.alloc _)).mono ?_; rintro e w' ⟨rfl, rfl⟩)
        go_ret2
        exact ⟨fun n h => by rw [hf.out] at h; cases h; rfl, fun c h => (by rw [hf.out] at h; cases h), (Below.refl _ w).alloc (Nat.le_refl _) _⟩
      · have h1 : q ≤ p := by omega
        clear h
        go_enter Tryd.func28, Tryd.ntmps28
        go_wp2_with (go_at_call 18; refine (hcall.out _ (hs.alloc _)).mono ?_; rintro e w' ⟨rfl, rfl⟩)
        go_ret2
        exact ⟨fun n h => by rw [hf.out] at h; cases h; rfl, fun c h => (by rw [hf.out] at h; cases h), (Below.refl _ w).alloc (Nat.le_refl _) _⟩
    · have hf : M.atp s p = .ok (M.coords s p).1 := by rw [M.atp, hc]; exact if_neg h
      refine (callsIn_wide.1 (at_ok a s c p q w hs hc (by omega) (by omega))).mono ?_
      rintro e w' ⟨v, rfl, ho, hb⟩
      exact ⟨fun n h => (by rw [hf] at h; cases h), fun c h => (by rw [hf] at h; cases h; exact ⟨v, rfl, ho⟩), hb⟩

end Go.Proofs.YtldhklbpmfckcaaDoor
