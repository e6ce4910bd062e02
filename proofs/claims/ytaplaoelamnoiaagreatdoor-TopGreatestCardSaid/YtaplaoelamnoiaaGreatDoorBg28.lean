/- Texts that lie in one file: what is plain, rows, boxes, squares, and what is known of a world. No condition. -/
import Derived.RangeFuncBox
import Derived.RangeFuncLeaves
import Derived.RangeFuncNested
import Derived.RangeFuncBound
import Derived.RangeFuncCalls
import Derived.Shelf.Abstract
import Derived.Shelf.RegionOpen
import Derived.WalkKit
import Derived.OwnWalkIn
import Derived.TacticsInMore
import Derived.LoopNIn
import Derived.LoopIn
import Derived.Deep.RegionHeld
import Derived.Test.YtaplaoelamnoiaaGreatDoorBg01
import Derived.Test.YtaplaoelamnoiaaGreatDoorBg04
/- The library's slices.Backward at ints: the contract of its iterator value, for loop bodies that keep all cells but those of some blocks. Condition: a row of ints of 64 bits. -/
namespace Go.Proofs.YtaplaoelamnoiaaGreatDoor
open Go.RowKit Go.Shelf
attribute [local go_sem] Oper.semAt_some

/-- All cells but those of some blocks are as they were. -/
def KeepsBut (X : Nat → Prop) (W W' : World) : Prop := ∀ (p : Addr) (v : Value), ¬ X p.block → W.cell? p = some v → W'.cell? p = some v
theorem KeepsBut.refl (X : Nat → Prop) (W : World) : KeepsBut X W W := fun _ _ _ h => h
theorem KeepsBut.trans {X : Nat → Prop} {A B C : World} (h : KeepsBut X A B) (k : KeepsBut X B C) : KeepsBut X A C := fun p v hp hc => k p v hp (h p v hp hc)
theorem KeepsBut.setCell {X : Nat → Prop} (W : World) (q : Addr) (u : Value) (hq : X q.block) : KeepsBut X W (W.setCell q u) := fun p v hp hc => by
  rw [World.cell?_setCell_far _ _ _ _ (fun e => hp (e ▸ hq))]; exact hc
theorem keepsBut_b {X : Nat → Prop} (W : World) (l : Nat) (o o' : Obj) (h : W.heap[l]? = some o) (hc : o.isCells = false) : KeepsBut X W (W.putObj l o') := fun p v hp hv =>
  cell_kept hv (grownBy_putObj' W l o') (fun r e => by cases e; exact ⟨o, h, hc⟩)

/-- An index and a number of 64 bits. -/
abbrev E64 := { p : Int × Int // I64 p.2 }
theorem getD_i64 {zs : List Int} (h : All64 zs) (k : Nat) : I64 (zs.getD k 0) := by
  rw [List.getD_eq_getElem?_getD]
  cases e : zs[k]? with
  | none => show I64 0; unfold I64; omega
  | some v => exact h _ (List.mem_of_getElem? e)
/-- What comes in round k. -/
def bk (zs : List Int) (h : All64 zs) (k : Nat) : E64 := ⟨((((zs.length : Nat) : Int) - 1 - k), zs.getD (zs.length - 1 - k) 0), getD_i64 h _⟩
/-- What has come when k rounds are over. -/
def bks (zs : List Int) (h : All64 zs) (k : Nat) : List E64 := (List.range k).map (bk zs h)
theorem bks_succ (zs : List Int) (h : All64 zs) (k : Nat) : bks zs h (k + 1) = bks zs h k ++ [bk zs h k] := by simp [bks, List.range_succ]
theorem bks_length (zs : List Int) (h : All64 zs) (k : Nat) : (bks zs h k).length = k := by simp [bks]

set_option maxRecDepth 100000 in
set_option maxHeartbeats 4000000 in
theorem back1_in (F : Fence) (n : Nat) (hg : F.fn 228) (hro : F.round = none) (hn : 1 ≤ n) (l Bs : Nat) (X : Nat → Prop) (a : Option Addr) (cap : Nat) (zs : List Int) (h64 : All64 zs) (hlen : zs.length ≤ maxLen) (hX : ¬ X Bs) (hXa : ∀ p, a = some p → ¬ X p.block)
    (J Jx : List E64 → World → Prop)
    (hY : ∀ pre x W, J pre W → pre.length < zs.length → YieldAt F (n - 1) Tryz.prog l #[.int .i64 x.1.1, .int .i64 x.1.2] W fun e W' =>
      (e = .returned (.bool true) ∧ J (pre ++ [x]) W' ∧ KeepsBut X W W') ∨ (e = .returned (.bool false) ∧ Jx (pre ++ [x]) W'))
    (W : World) (hBs : W.cell? ⟨Bs, 0, none⟩ = some (.slice a zs.length cap)) (hc : Row W a zs) (h0 : J [] W) :
    CallsIn F n Tryz.prog 228 #[.func (.yield l) #[] #[], .pointer (some ⟨Bs, 0, none⟩)] W fun e W' => (∃ v, e = .returned v) ∧
      ((∃ ys, ys = bks zs h64 zs.length ∧ J ys W') ∨ (∃ pre, (∃ k, k ≤ zs.length ∧ pre = bks zs h64 k) ∧ Jx pre W')) := by
  unfold maxLen at hlen
  refine callsIn_of_wp Tryz.func228 rfl hg ?_ hro
  simp only [Tryz.ntmps228, List.size_toArray, List.length_cons, List.length_nil, Nat.reduceAdd, Nat.reduceSub, Array.replicate_succ, Array.replicate_zero, List.push_toArray, List.append_toArray, List.nil_append, List.cons_append]
  gi_wp2
  gi_loopw [3] (fun i wr => ∃ k : Nat, k ≤ zs.length ∧ i = .int .i64 (((zs.length : Nat) : Int) - 1 - k) ∧ J (bks zs h64 k) wr ∧ KeepsBut X W wr)
    (fun i _ => ((intOf i) + 1).toNat)
  case atStart => exact ⟨0, Nat.zero_le _, by simp, h0, KeepsBut.refl _ _⟩
  case round =>
    obtain ⟨k, hk, rfl, hJs, hnx⟩ := hrel
    have hBs' := hnx _ _ hX hBs
    by_cases hlt : k < zs.length
    · obtain ⟨b, o, rfl, hc1⟩ := hc (zs.length - 1 - k) (by omega)
      have hcx := hnx ⟨b, o + (zs.length - 1 - k), none⟩ _ (hXa ⟨b, o, none⟩ rfl) hc1
      have hix : ((zs.length : Nat) : Int) - 1 - (k : Int) = ((zs.length - 1 - k : Nat) : Int) := by omega
      obtain ⟨fn, tmps, assign, body, hy, hR⟩ := hY _ (bk zs h64 k) wr hJs (by rw [bks_length]; exact hlt)
      dsimp only [bk] at hy
      have hnew := bks_succ zs h64 k
      generalize bk zs h64 k = x at *
      have hil : zs.length - 1 - k < zs.length := by omega
      rw [hix] at hy ⊢
      generalize zs.length - 1 - k = q at *
      generalize zs.getD q 0 = v at *
      gi_wp2
      refine hR.mono ?_
      rintro e W3 (⟨rfl, hJ3, hk3⟩ | ⟨rfl, hJx3⟩)
      · gi_wp2
        go_roundw
        case rel => exact ⟨k + 1, by omega, by rw [← hix]; go_num, by rw [hnew]; exact hJ3, hnx.trans hk3⟩
        case measure => (simp [intOf]; try omega)
      · gi_wp2
        refine bodyPost_ret (results_none rfl _ _ _) rfl ?_
        exact ⟨⟨_, rfl⟩, .inr ⟨_, ⟨k + 1, by omega, hnew.symm⟩, hJx3⟩⟩
    · obtain rfl : k = zs.length := by omega
      gi_wp2
      go_end0
      exact ⟨⟨_, rfl⟩, .inl ⟨_, rfl, hJs⟩⟩

set_option maxHeartbeats 1000000 in
theorem backward_in (F : Fence) (n : Nat) (h5 : F.fn 192) (hro : F.round = none) (a : Option Addr) (len cap : Nat) (w : World) :
    CallsIn F n Tryz.prog 192 #[.slice a len cap] w fun e w' => e = .returned (.func (.func 228) #[] #[.pointer (some ⟨w.heap.size, 0, none⟩)]) ∧ w' = w.alloc (.cells #[.slice a len cap] 22) := by
  refine callsIn_of_wp Tryz.func192 rfl h5 ?_ hro
  simp only [Tryz.ntmps192, List.size_toArray, List.length_cons, List.length_nil, Nat.reduceAdd, Nat.reduceSub, Array.replicate_succ, Array.replicate_zero, List.push_toArray, List.append_toArray, List.nil_append, List.cons_append]
  gi_wp2
  go_ret
  exact ⟨rfl, rfl⟩

theorem back_stops (F : Fence) (n : Nat) (hg : F.fn 228) (hro : F.round = none) (hn : 1 ≤ n) (Bs : Nat) (X : Nat → Prop) (a : Option Addr) (cap : Nat) (zs : List Int) (h64 : All64 zs) (hlen : zs.length ≤ maxLen) (hX : ¬ X Bs) (hXa : ∀ p, a = some p → ¬ X p.block) (w : World)
    (hc : w.cell? ⟨Bs, 0, none⟩ = some (.slice a zs.length cap)) (hI : Row w a zs) :
    SeqStopsK F n Tryz.prog 228 #[.pointer (some ⟨Bs, 0, none⟩)] (fun x : E64 => #[Value.int .i64 x.1.1, Value.int .i64 x.1.2]) (KeepsBut X) (fun ys => ys = bks zs h64 zs.length) (fun pre => ∃ k, k ≤ zs.length ∧ pre = bks zs h64 k) zs.length w := fun l J Jx W hW _ _ hY h0 =>
  back1_in F n hg hro hn l Bs X a cap zs h64 hlen hX hXa J Jx hY W ((hW.cell (World.block_lt_of_cell? _ _ hc)).trans hc) (hI.below hW) h0

end Go.Proofs.YtaplaoelamnoiaaGreatDoor

/- The call fold.Of: what a line folds to, from its end on. Condition: a row of ints of 64 bits. -/
namespace Go.Proofs.YtaplaoelamnoiaaGreatDoor
open Go.RowKit Go.Shelf
attribute [local go_sem] Oper.semAt_some

namespace M
/-- What a line folds to. -/
def foldL (f : Int) : List Int → Except Int Int
  | [] => neutral f
  | [x] => .ok x
  | x :: y :: r => match foldL f (y :: r) with | .ok n => two f x n | .error e => .error e
end M

theorem foldL_cons {f x : Int} {r : List Int} (h : r ≠ []) : M.foldL f (x :: r) = match M.foldL f r with | .ok n => M.two f x n | .error e => .error e := by
  cases r with
  | nil => exact absurd rfl h
  | cons y r => rfl
/-- So far: number by number. -/
def accE (f n : Int) (pre : List E64) : Except Int Int := pre.foldl (fun r x => match r with | .ok n => M.two f x.1.2 n | .error e => .error e) (.ok n)
theorem accE_snoc (f n : Int) (pre : List E64) (x : E64) : accE f n (pre ++ [x]) = match accE f n pre with | .ok n => M.two f x.1.2 n | .error e => .error e := by
  simp [accE, List.foldl_append]
theorem accE_drop (f : Int) (zs : List Int) (h : All64 zs) (z : Int) : ∀ k, k ≤ zs.length → accE f z (bks zs h k) = M.foldL f ((zs ++ [z]).drop (zs.length - k)) := by
  intro k
  induction k with
  | zero => intro _; rw [Nat.sub_zero, List.drop_append_of_le_length (Nat.le_refl _), List.drop_length]; rfl
  | succ k ih =>
    intro hk
    rw [bks_succ, accE_snoc, ih (by omega)]
    have e1 : (zs ++ [z]).drop (zs.length - (k + 1)) = zs.getD (zs.length - 1 - k) 0 :: (zs ++ [z]).drop (zs.length - k) := by
      rw [List.drop_eq_getElem_cons (by simp; omega)]
      have e2 : zs.length - (k + 1) + 1 = zs.length - k := by omega
      rw [e2]
      congr 1
      rw [List.getElem_append_left (by omega), List.getD_eq_getElem?_getD, List.getElem?_eq_getElem (by omega), Option.getD_some]
      congr 1; omega
    rw [e1, foldL_cons (by intro h0; have := congrArg List.length h0; simp at this; omega)]
    rfl
theorem foldL_error {f e : Int} {l : List Int} : ∀ {j : Nat}, j < l.length → M.foldL f (l.drop j) = .error e → M.foldL f l = .error e := by
  intro j
  induction j generalizing l with
  | zero => intro _ h; exact h
  | succ j ih =>
    intro hj h
    cases l with
    | nil => simp at hj
    | cons x r =>
      rw [List.drop_succ_cons] at h
      have h1 := ih (l := r) (by simpa using hj) h
      rw [foldL_cons (by intro h0; subst h0; simp at hj), h1]
theorem foldL_i64 {f : Int} (hf : ∀ n, M.neutral f = .ok n → I64 n) : ∀ {l : List Int}, All64 l → ∀ n, M.foldL f l = .ok n → I64 n := by
  intro l
  induction l with
  | nil => intro _ n h; exact hf n h
  | cons x r ih =>
    intro ha n h
    by_cases hr : r = []
    · subst hr; cases h; exact ha _ (by simp)
    · rw [foldL_cons hr] at h
      have hx : I64 x := ha _ (by simp)
      cases hq : M.foldL f r with
      | error e => rw [hq] at h; cases h
      | ok m =>
        rw [hq] at h
        exact I64_two hx (ih (fun y hy => ha y (by simp [hy])) m hq) h
theorem keepsOthers_drewN (W : World) (n : Nat) : KeepsOthers W (W.drewN n) := by
  induction n with
  | zero => exact KeepsOthers.refl _
  | succ n ih => exact ih.trans (KeepsOthers.drew _)
theorem neutral_i64 {f n : Int} (h : M.neutral f = .ok n) : I64 n := by
  unfold M.neutral at h
  repeat' split at h
  all_goals first | cases h | skip
  all_goals (unfold I64; omega)

set_option maxRecDepth 100000 in
set_option maxHeartbeats 8000000 in
theorem foldOf_any (f : Int) (a : Option Addr) (xs : List Int) (len cap : Nat) (w : World) (hr : Row w a xs) (h64 : All64 xs) (hl : xs.length ≤ maxLen) (hcap : xs.length ≤ cap) (en : len = xs.length) :
    Calls Tryz.prog 140 #[.int .i64 f, .slice a len cap] w fun e w' => e = .returned (resI (M.foldL f xs)) ∧ Below w.heap.size w w' := by
  subst en
  unfold maxLen at hl
  by_cases h0 : xs = []
  · subst h0
    have hn := fun w => neutral_any f w
    have hres := Lib.hid (show M.foldL f [] = M.neutral f from rfl)
    cases hq : M.neutral f with
    | ok n =>
      simp only [hq, resI] at hn
      replace hn := Lib.hid hn
      replace hq := Lib.hid hq
      go_enter Tryz.func140, Tryz.ntmps140
      go_wp2_with fail
      refine (hn.out _).mono ?_
      rintro e w1 ⟨rfl, rfl⟩
      go_wp2
      refine bodyPost_ret (v := .tuple #[.int .i64 n, .nilIface]) (by simp [results, Tryz.results140, go_sem]) rfl ?_
      exact ⟨by rw [hres.out, hq.out]; rfl, (((Below.refl _ w).alloc (Nat.le_refl _) _).alloc (by simp) _).alloc (by simp; omega) _⟩
    | error n =>
      simp only [hq, resI] at hn
      replace hn := Lib.hid hn
      replace hq := Lib.hid hq
      go_enter Tryz.func140, Tryz.ntmps140
      go_wp2_with fail
      refine (hn.out _).mono ?_
      rintro e w1 ⟨rfl, rfl⟩
      go_wp2
      refine bodyPost_ret (v := .tuple #[.int .i64 0, .iface 46 (.int .i64 n)]) (by simp [results, Tryz.results140, go_sem]) rfl ?_
      exact ⟨by rw [hres.out, hq.out]; rfl, (((Below.refl _ w).alloc (Nat.le_refl _) _).alloc (by simp) _).alloc (by simp; omega) _⟩
  · obtain ⟨zs, z, rfl⟩ : ∃ zs z, xs = zs ++ [z] := ⟨xs.dropLast, xs.getLast h0, (List.dropLast_concat_getLast h0).symm⟩
    have hz64 : All64 zs := fun x hx => h64 x (by simp [hx])
    have hz : I64 z := h64 z (by simp)
    have hL : (zs ++ [z]).length = zs.length + 1 := by simp
    rw [hL] at hl hcap ⊢
    have hcap1 : (zs.length : Int) ≤ (cap : Int) := by omega
    obtain ⟨b, o, rfl, hcz⟩ := hr zs.length (by rw [hL]; omega)
    rw [show (zs ++ [z]).getD zs.length 0 = z by simp] at hcz
    have hzr : Row w (some ⟨b, o, none⟩) zs := fun i hi => by
      obtain ⟨b', o', e, hc⟩ := hr i (by rw [hL]; omega)
      cases e
      refine ⟨b, o, rfl, hc.trans ?_⟩
      rw [List.getD_eq_getElem?_getD, List.getElem?_append_left hi, ← List.getD_eq_getElem?_getD]
    have hbw := World.block_lt_of_cell? _ _ hcz
    have hb0 := (((Below.refl _ w).alloc (Nat.le_refl _) (.cells #[.int .i64 f] 72)).alloc (by simp) (.cells #[.int .i64 0] 3)).alloc (by simp; omega) (.cells #[.nilIface] 29)
    have hcz3 := (hb0.cell (p := ⟨b, o + zs.length, none⟩) hbw).trans hcz
    have e0 : (((zs.length : Nat) : Int) + 1 == 0) = false := by rw [beq_eq_false_iff_ne]; omega
    refine (callsIn_wide (n := 3)).1 ?_
    refine callsIn_of_wp_marks Tryz.func140 rfl trivial ?_ rfl
    simp only [Tryz.ntmps140, List.size_toArray, List.length_cons, List.length_nil, Nat.reduceAdd, Nat.reduceSub, Array.replicate_succ, Array.replicate_zero, List.push_toArray, List.append_toArray, List.nil_append, List.cons_append]
    gi_wp2_with (refine ⟨trivial, ?_⟩; gi_at_call 192; refine (backward_in Fence.wide _ trivial rfl _ _ _ _).mono ?_; rintro e w' ⟨rfl, rfl⟩)
    have bI := Boxed.new (((w.alloc (.cells #[.int .i64 f] 72)).alloc (.cells #[.int .i64 0] 3)).alloc (.cells #[.nilIface] 29)) 3 (.int .i64 z)
    have b0 := Boxed.new w 72 (.int .i64 f)
    have b1 := Boxed.new (w.alloc (.cells #[.int .i64 f] 72)) 3 (.int .i64 0)
    have b2 := Boxed.new ((w.alloc (.cells #[.int .i64 f] 72)).alloc (.cells #[.int .i64 0] 3)) 29 .nilIface
    have bS := Boxed.new ((((w.alloc (.cells #[.int .i64 f] 72)).alloc (.cells #[.int .i64 0] 3)).alloc (.cells #[.nilIface] 29)).alloc (.cells #[.int .i64 z] 3)) 22 (.slice (some ⟨b, o, none⟩) zs.length cap)
    simp only [World.size_alloc] at bI b1 b2 bS
    have hB0 : Below w.heap.size w (((((w.alloc (.cells #[.int .i64 f] 72)).alloc (.cells #[.int .i64 0] 3)).alloc (.cells #[.nilIface] 29)).alloc (.cells #[.int .i64 z] 3)).alloc (.cells #[.slice (some ⟨b, o, none⟩) zs.length cap] 22)) :=
      (hb0.alloc (by simp; omega) _).alloc (by simp; omega) _
    clear hcz3
    refine wpIn_rangeFunc_ownG rfl (by omega) (gf := 228) (lb := #[.pointer (some ⟨w.heap.size + 1 + 1 + 1 + 1, 0, none⟩)]) rfl trivial (enters_of Tryz.func228 (by kernel_rfl) rfl)
      (back_stops Fence.wide _ trivial rfl (by omega) (w.heap.size + 1 + 1 + 1 + 1) (fun k => k = w.heap.size + 1 ∨ k = w.heap.size + 1 + 1 ∨ k = w.heap.size + 1 + 1 + 1) (some ⟨b, o, none⟩) cap zs hz64 (by unfold maxLen; omega) (by omega) (fun p e => by cases e; show ¬ (b = _ ∨ b = _ ∨ b = _); omega) _ bS.cell (hzr.below hB0))
      KeepsBut.trans (fun W l o o' _ h hc _ => keepsBut_b W l o o' h hc) (Below.refl _ _) (fun _ => rfl)
      (fun pre W => (∃ m, accE f z pre = .ok m ∧ I64 m ∧ W.cell? ⟨w.heap.size + 1 + 1 + 1, 0, none⟩ = some (.int .i64 m) ∧ W.frozen? ⟨w.heap.size + 1 + 1 + 1, 0, none⟩ = false ∧ W.cell? ⟨w.heap.size, 0, none⟩ = some (.int .i64 f) ∧
        W.cell? ⟨w.heap.size + 1, 0, none⟩ = some (.int .i64 0) ∧ W.frozen? ⟨w.heap.size + 1, 0, none⟩ = false ∧ W.cell? ⟨w.heap.size + 1 + 1, 0, none⟩ = some .nilIface ∧ W.frozen? ⟨w.heap.size + 1 + 1, 0, none⟩ = false) ∧ Below w.heap.size w W)
      (fun c pre W => (c = .ret ∧ ∃ e, accE f z pre = .error e ∧ W.cell? ⟨w.heap.size + 1, 0, none⟩ = some (.int .i64 0) ∧ W.cell? ⟨w.heap.size + 1 + 1, 0, none⟩ = some (.iface 46 (.int .i64 e))) ∧ Below w.heap.size w W)
      (OwnFrom.and (Own.from (fun s A B row hs hg hr => by
        obtain ⟨m, h1, h2, h3, h4, h5, h6, h7, h8, h9⟩ := hs
        exact ⟨m, h1, h2, cell_kept h3 hg hr, (frozen_kept h3 hg hr).trans h4, cell_kept h5 hg hr, cell_kept h6 hg hr, (frozen_kept h6 hg hr).trans h7, cell_kept h8 hg hr, (frozen_kept h8 hg hr).trans h9⟩) _) (ownFrom_below (Nat.le_refl _) (by simp; omega)))
      (fun c => OwnFrom.and (Own.from (fun s A B row hs hg hr => by
        obtain ⟨h1, e, h2, h3, h4⟩ := hs
        exact ⟨h1, e, h2, cell_kept h3 hg hr, cell_kept h4 hg hr⟩) _) (ownFrom_below (Nat.le_refl _) (by simp; omega)))
      ⟨⟨z, rfl, hz, (bI.alloc _).cell, (bI.alloc _).frozen, ((((b0.alloc _).alloc _).alloc _).alloc _).cell, (((b1.alloc _).alloc _).alloc _).cell, (((b1.alloc _).alloc _).alloc _).frozen, ((b2.alloc _).alloc _).cell, ((b2.alloc _).alloc _).frozen⟩, hB0⟩
      (fun x => { tmps := #[.int .i64 f, .slice (some ⟨b, o, none⟩) (zs.length + 1) cap, .pointer (some ⟨w.heap.size, 0, none⟩), undef, .pointer (some ⟨w.heap.size + 1, 0, none⟩), .pointer (some ⟨w.heap.size + 1 + 1, 0, none⟩), .pointer (some ⟨w.heap.size + 1 + 1 + 1, 0, none⟩), undef, .int .i64 x.1.2, undef, undef,
        .slice (some ⟨b, o, none⟩) (zs.length + 1) cap, .int .i64 ((zs.length : Int) + 1), .bool false, undef, undef, undef, undef, .slice (some ⟨b, o, none⟩) (zs.length + 1) cap, .slice (some ⟨b, o, none⟩) (zs.length + 1) cap, .int .i64 ((zs.length : Int) + 1), .int .i64 (zs.length : Int), .pointer (some ⟨b, o + zs.length, none⟩), .int .i64 z,
        .slice (some ⟨b, o, none⟩) (zs.length + 1) cap, .slice (some ⟨b, o, none⟩) (zs.length + 1) cap, .int .i64 ((zs.length : Int) + 1), .int .i64 (zs.length : Int), .slice (some ⟨b, o, none⟩) zs.length cap, .func (.func 228) #[] #[.pointer (some ⟨w.heap.size + 1 + 1 + 1 + 1, 0, none⟩)], .int .i64 x.1.1, .int .i64 x.1.2,
        undef, undef, undef, undef, undef, undef, undef, undef, undef, undef, undef, undef], defers := [] }) ?assign ?body ?done ?stop
    case assign =>
      intro l x W K hK
      gi_wp2
      exact hK
    case body =>
      rintro l pre x W ⟨⟨m, h1, h2, h3, h4, h5, h6, h7, h8, h9⟩, hB⟩ _
      have hct := cellTwo_any f x.1.2 m W x.2 h2
      have hsn := accE_snoc f z pre x
      rw [h1] at hsn
      dsimp only at hsn
      cases hq : M.two f x.1.2 m with
      | ok v =>
        rw [hq] at hct hsn
        simp only [resI] at hct
        have hv := I64_two x.2 h2 hq
        replace hq := Lib.hid hq
        replace hct := Lib.hid hct
        replace hsn := Lib.hid hsn
        replace h1 := Lib.hid h1
        gi_wp2_with (refine ⟨trivial, ?_⟩; gi_at_call 188; refine (CallsIn.inRound l (callsIn_wide.2 hct.out)).mono ?_; rintro e w' ⟨rfl, n1, rfl⟩)
        refine ⟨(KeepsOthers.trans (keepsOthers_drewN W n1) (KeepsOthers.setCell _ _ _)).from _, KeepsBut.setCell (X := fun k => k = w.heap.size + 1 ∨ k = w.heap.size + 1 + 1 ∨ k = w.heap.size + 1 + 1 + 1) (W.drewN n1) ⟨w.heap.size + 1 + 1 + 1, 0, none⟩ _ (Or.inr (Or.inr rfl)), ⟨v, hsn.out, hv, World.cell?_setCell_same' _ _ _ (by show (W.cell? _).isSome = true; rw [h3]; rfl), by rw [World.frozen?_setCell]; exact h4, ?_, ?_, ?_, ?_, ?_⟩, (below_drewN hB n1).setCell (by show w.heap.size ≤ w.heap.size + 1 + 1 + 1; omega) _⟩
        · rw [World.cell?_setCell_far _ _ _ _ (by show w.heap.size + 1 + 1 + 1 ≠ w.heap.size; omega)]; exact h5
        · rw [World.cell?_setCell_far _ _ _ _ (by show w.heap.size + 1 + 1 + 1 ≠ w.heap.size + 1; omega)]; exact h6
        · rw [World.frozen?_setCell]; exact h7
        · rw [World.cell?_setCell_far _ _ _ _ (by show w.heap.size + 1 + 1 + 1 ≠ w.heap.size + 1 + 1; omega)]; exact h8
        · rw [World.frozen?_setCell]; exact h9
      | error v =>
        rw [hq] at hct hsn
        simp only [resI] at hct
        replace hq := Lib.hid hq
        replace hct := Lib.hid hct
        replace hsn := Lib.hid hsn
        replace h1 := Lib.hid h1
        gi_wp2_with (refine ⟨trivial, ?_⟩; gi_at_call 188; refine (CallsIn.inRound l (callsIn_wide.2 hct.out)).mono ?_; rintro e w' ⟨rfl, n1, rfl⟩)
        refine ⟨(KeepsOthers.trans (keepsOthers_drewN W n1) ((KeepsOthers.setCell _ _ _).trans (KeepsOthers.setCell _ _ _))).from _, ⟨rfl, v, hsn.out, ?_, ?_⟩, ((below_drewN hB n1).setCell (by show w.heap.size ≤ w.heap.size + 1; omega) _).setCell (by show w.heap.size ≤ w.heap.size + 1 + 1; omega) _⟩
        · rw [World.cell?_setCell_far _ _ _ _ (by show w.heap.size + 1 + 1 ≠ w.heap.size + 1; omega)]
          exact World.cell?_setCell_same' _ _ _ (by show (W.cell? _).isSome = true; rw [h6]; rfl)
        · refine World.cell?_setCell_same' _ _ _ ?_
          rw [World.cell?_setCell_far _ _ _ _ (by show w.heap.size + 1 ≠ w.heap.size + 1 + 1; omega)]
          show (W.cell? _).isSome = true; rw [h8]; rfl
    case done =>
      rintro D ys W hD rfl ⟨⟨m, h1, h2, h3, h4, h5, h6, h7, h8, h9⟩, hB⟩ hK
      have hfin := accE_drop f zs hz64 z zs.length (Nat.le_refl _)
      rw [h1, Nat.sub_self, List.drop_zero] at hfin
      replace hfin := Lib.hid hfin
      replace h1 := Lib.hid h1
      gi_wp2
      have hK1 := (KeepsOthers.setCell W ⟨w.heap.size + 1, 0, none⟩ (.int .i64 m)).same D _ hK rfl
      have hK2 := (KeepsOthers.setCell _ ⟨w.heap.size + 1 + 1, 0, none⟩ .nilIface).same D _ hK1 rfl
      have c1 : ((W.setCell ⟨w.heap.size + 1, 0, none⟩ (.int .i64 m)).setCell ⟨w.heap.size + 1 + 1, 0, none⟩ .nilIface).cell? ⟨w.heap.size + 1, 0, none⟩ = some (.int .i64 m) := by
        rw [World.cell?_setCell_far _ _ _ _ (by show w.heap.size + 1 + 1 ≠ w.heap.size + 1; omega)]
        exact World.cell?_setCell_same' _ _ _ (by rw [h6]; rfl)
      have c2 : ((W.setCell ⟨w.heap.size + 1, 0, none⟩ (.int .i64 m)).setCell ⟨w.heap.size + 1 + 1, 0, none⟩ .nilIface).cell? ⟨w.heap.size + 1 + 1, 0, none⟩ = some .nilIface := by
        refine World.cell?_setCell_same' _ _ _ ?_
        rw [World.cell?_setCell_far _ _ _ _ (by show w.heap.size + 1 ≠ w.heap.size + 1 + 1; omega), h8]; rfl
      have hB2 := (hB.setCell (p := ⟨w.heap.size + 1, 0, none⟩) (by show w.heap.size ≤ w.heap.size + 1; omega) (.int .i64 m)).setCell (p := ⟨w.heap.size + 1 + 1, 0, none⟩) (by show w.heap.size ≤ w.heap.size + 1 + 1; omega) .nilIface
      refine ⟨by simp, .inl ⟨_, _, rfl, run_takeDeferred hK2, ?_⟩⟩
      have hc3 := cell_kept c1 (grownBy_putObj' _ D (.deferred none)) (fun r e => by cases e; exact ⟨_, hK2, rfl⟩)
      have hc4 := cell_kept c2 (grownBy_putObj' _ D (.deferred none)) (fun r e => by cases e; exact ⟨_, hK2, rfl⟩)
      refine ⟨.tuple #[.int .i64 m, .nilIface], ?_, by rw [← hfin.out]; rfl, hB2.trans (belowK_b (w := w) (Nat.le_refl _) _ D _ _ (by simp at hD; omega) hK2 rfl rfl)⟩
      simp [results, Tryz.results140, go_sem, hc3, hc4]
    case stop =>
      rintro D c pre W hD ⟨k, hk, rfl⟩ ⟨⟨rfl, e, h2, h3, h4⟩, hB⟩ hK
      have hfin := accE_drop f zs hz64 z k hk
      rw [h2] at hfin
      have hfin2 := Lib.hid (foldL_error (by rw [hL]; omega) hfin.symm)
      clear hfin
      replace h2 := Lib.hid h2
      gi_wp2
      refine ⟨by simp, .inl ⟨_, _, rfl, run_takeDeferred hK, ?_⟩⟩
      have hc3 := cell_kept h3 (grownBy_putObj' _ D (.deferred none)) (fun r e => by cases e; exact ⟨_, hK, rfl⟩)
      have hc4 := cell_kept h4 (grownBy_putObj' _ D (.deferred none)) (fun r e => by cases e; exact ⟨_, hK, rfl⟩)
      refine ⟨.tuple #[.int .i64 0, .iface 46 (.int .i64 e)], ?_, by rw [hfin2.out]; rfl, hB.trans (belowK_b (w := w) (Nat.le_refl _) W D _ _ (by simp at hD; omega) hK rfl rfl)⟩
      simp [results, Tryz.results140, go_sem, hc3, hc4]

end Go.Proofs.YtaplaoelamnoiaaGreatDoor
