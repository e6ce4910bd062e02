/- Texts that lie in one file: what is plain, rows, boxes, squares, and what is known of a world. No condition. -/
import Derived.Test.YtaplaoelamnoiaaGreatDoorBg15
import Derived.Test.YtaplaoelamnoiaaGreatDoorBg04
import Derived.Test.YtaplaoelamnoiaaGreatDoorBg07
import Derived.Deep.RegionHeld3
import Derived.Tactics
import Derived.Tactics2
import Derived.Defers
import Derived.Recover
import Derived.Laws.Pointers
import Derived.Test.YtaplaoelamnoiaaGreatDoorBg13
import Derived.Test.YtaplaoelamnoiaaGreatDoorBg12
/- The call eval.Check at names with values that are sound, all names other. Condition: the names and values, and the library's tables lie. -/
namespace Go.Proofs.YtaplaoelamnoiaaGreatDoor
open Go.RowKit

/-- A name with its value. -/
structure Bd where
  name : ByteArray
  x : Arr
/-- Names with values, in a row. -/
def WsAt (A : Option Addr) (l : List Bd) (w : World) : Prop := ∀ (i : Nat) (b : Bd), l[i]? = some b → ∃ (wb : Nat) (a : Option Addr) (c : Nat) (a' : Option Addr) (c' : Nat), A = some ⟨wb, 0, none⟩ ∧
  w.cell? ⟨wb, i * 4, none⟩ = some (.string b.name) ∧ w.cell? ⟨wb, i * 4 + 1, none⟩ = some (.bool b.x.ch) ∧ w.cell? ⟨wb, i * 4 + 2, none⟩ = some (.slice a b.x.s.length c) ∧ w.cell? ⟨wb, i * 4 + 3, none⟩ = some (.slice a' b.x.d.length c') ∧ Row w a b.x.s ∧ Row w a' b.x.d ∧ b.x.d.length ≤ c'
theorem WsAt.below {A : Option Addr} {l : List Bd} {w W : World} (h : WsAt A l w) (hb : Below w.heap.size w W) : WsAt A l W := by
  intro i b hi
  obtain ⟨wb, a, c, a', c', h0, h1, h2, h3, h4, h5, h6, h7⟩ := h i b hi
  have k : ∀ {p : Addr} {v : Value}, w.cell? p = some v → W.cell? p = some v := fun h => (hb.cell (World.block_lt_of_cell? w _ h)).trans h
  exact ⟨wb, a, c, a', c', h0, k h1, k h2, k h3, k h4, h5.below hb, h6.below hb, h7⟩
/-- Names that may be names, no two alike; values that may be. -/
def WsOk (l : List Bd) : Prop := l.length ≤ 20 ∧ (∀ b ∈ l, M.nameOk b.name ∧ b.name.size ≤ 100 ∧ M.flaw b.x.ch b.x.s b.x.d = 0) ∧ ∀ (i j : Nat) (b b' : Bd), l[i]? = some b → l[j]? = some b' → i < j → nameKey b.name ≠ nameKey b'.name
theorem Row.offNew {w : World} {a : Option Addr} {xs : List Int} (h : Row w a xs) {g : Nat} (hg : w.heap.size ≤ g) : Off g a xs := by
  intro hx p e
  obtain ⟨b, off, e2, hc⟩ := h 0 (List.length_pos_iff.2 hx)
  rw [e2] at e
  cases e
  have := World.block_lt_of_cell? w _ hc
  show b ≠ g
  have h2 : b < w.heap.size := this
  omega
theorem zeroInt (w : World) : (zeroValue 3).run Tryz.prog w = .ok (.int .i64 0) w := by kernel_rfl

set_option maxRecDepth 20000 in
set_option maxHeartbeats 8000000 in
theorem wsCheck_any (A : Option Addr) (l : List Bd) (cp : Nat) (w : World) (hW : WsAt A l w) (hok : WsOk l) (hT : Tz w) (h8 : 8 ≤ w.heap.size) :
    Calls Tryz.prog 28 #[.slice A l.length cp] w fun en w' => en = .returned .nilIface ∧ Below w.heap.size w w' := by
  have hmm := @run_makeMap Tryz.prog
  obtain ⟨h20, hgood, hdis⟩ := hok
  have hb1 : Below w.heap.size w (w.alloc (.map #[] 0)) := push (start w) _
  have hown1 : (w.alloc (.map #[] 0)).ownsMap Tryz.prog 9 (plainElem (H := Value) Tryz.prog 3) w.heap.size 0 (.map []) := World.ownsMap_made _ _ _ _
  have sW : (w.alloc (.map #[] 0)).heap.size = w.heap.size + 1 := by simp
  obtain ⟨W, hWe⟩ : ∃ W : World, W = w.alloc (.map #[] 0) := ⟨_, rfl⟩
  rw [← hWe] at hb1 hown1 sW
  have hWW := hW.below hb1
  have hTW := hT.below hb1 h8
  obtain ⟨nl, hnl⟩ : ∃ nl, nl = l.length := ⟨_, rfl⟩
  rw [← hnl] at h20
  rw [← hnl]
  have e0 : decide (20 < ((nl : Nat) : Int)) = false := decide_eq_false (by omega)
  have hWe' := Lib.hid hWe.symm
  replace hWe := Lib.hid hWe
  replace hb1 := Lib.hid hb1
  replace hown1 := Lib.hid hown1
  replace sW := Lib.hid sW
  replace hW := Lib.hid hW
  replace hT := Lib.hid hT
  clear hWW hTW
  replace hnl := Lib.hid hnl
  replace hgood := Lib.hid hgood
  replace hdis := Lib.hid hdis
  go_enter Tryz.func28, Tryz.ntmps28
  go_wp2
  rw [hWe'.out]
  go_loopw [18] (fun v wr => ∃ (i : Nat) (D : DataW Value), v = .int .i64 i ∧ i ≤ nl ∧ wr.ownsMap Tryz.prog 9 (plainElem Tryz.prog 3) w.heap.size i D ∧ (∀ (j : Nat) (b : Bd), i ≤ j → l[j]? = some b → Maps.has D (nameKey b.name) = false) ∧ Below w.heap.size w wr ∧ w.heap.size < wr.heap.size) (fun v _ => nl - (intOf v).toNat)
  case atStart => exact ⟨0, .map [], rfl, Nat.zero_le _, hown1.out, fun _ _ _ _ => rfl, hb1.out, by have := sW.out; omega⟩
  case round =>
    obtain ⟨i, D, rfl, hi, hown, hno, hb, hsz⟩ := hrel
    by_cases hlt : i < nl
    case neg =>
      have hie : i = nl := by omega
      subst hie
      replace hb := Lib.hid hb
      replace hown := Lib.hid hown
      replace hno := Lib.hid hno
      have e1 : decide (((i : Nat) : Int) < ((i : Nat) : Int)) = false := decide_eq_false (by omega)
      go_wp2
      go_ret
      exact ⟨rfl, hb.out⟩
    case pos =>
      have hil : i < l.length := by rw [← hnl.out]; exact hlt
      have hbi : l[i]? = some l[i] := List.getElem?_eq_getElem hil
      obtain ⟨g1, g2, g3⟩ := hgood.out _ (List.getElem_mem hil)
      generalize l[i] = bd at *
      obtain ⟨nm, ⟨ch, s, d⟩⟩ := bd
      dsimp only at g1 g2 g3
      obtain ⟨wb, a, c, a', c', rfl, c0, c1, c2, c3, r1, r2, -⟩ := hW.out i _ hbi
      dsimp only at c0 c1 c2 c3 r1 r2
      have of1 := Lib.hid (r1.offNew (Nat.le_refl _))
      have of2 := Lib.hid (r2.offNew (Nat.le_refl _))
      have kcell : ∀ {p : Addr} {v : Value}, w.cell? p = some v → wr.cell? p = some v := fun h => (hb.cell (World.block_lt_of_cell? w _ h)).trans h
      replace c0 := kcell c0
      replace c1 := kcell c1
      replace c2 := kcell c2
      replace c3 := kcell c3
      replace r1 := r1.below hb
      replace r2 := r2.below hb
      clear kcell
      have hno0 := hno i _ (Nat.le_refl _) hbi
      have hno1 : ∀ (j : Nat) (b : Bd), i + 1 ≤ j → l[j]? = some b → ∀ y, Maps.has (D.put (nameKey nm) y) (nameKey b.name) = false := fun j b hj hb y => by
        rw [Go.Maps.has_put_other (fun e => hdis.out i j _ _ hbi hb (by omega) e.symm)]
        exact hno j b (by omega) hb
      have hTr : Tz wr := hT.out.below hb h8
      have kc := fun W h1 h2 => check_any ch a a' s d s.length c d.length c' W h1 h2 (by have := (flaw_len g3).2; simp only [maxLen]; omega) (by have := (flaw_len g3).1; simp only [maxLen]; omega) rfl rfl
      rw [g3] at kc
      have hb1 : Below wr.heap.size wr ((wr.alloc (.cells #[.string nm, .bool ch, .slice a s.length c, .slice a' d.length c'] 33)).alloc (.cells #[.int .i64 3, .int .i64 0, .int .i64 0, .string nm, .int .i64 0] 82)) := push (push (start wr) _) _
      have bT := boxC_alloc (wr.alloc (.cells #[.string nm, .bool ch, .slice a s.length c, .slice a' d.length c'] 33)) #[.int .i64 3, .int .i64 0, .int .i64 0, .string nm, .int .i64 0] 82
      rw [World.size_alloc] at bT
      have bN : BoxC wr.heap.size [.string nm, .bool ch, .slice a s.length c, .slice a' d.length c'] ((wr.alloc (.cells #[.string nm, .bool ch, .slice a s.length c, .slice a' d.length c'] 33)).alloc (.cells #[.int .i64 3, .int .i64 0, .int .i64 0, .string nm, .int .i64 0] 82)) := (boxC_alloc wr #[.string nm, .bool ch, .slice a s.length c, .slice a' d.length c'] 33).same (heap_alloc_old _ _ (by simp))
      obtain ⟨w2, hw2⟩ : ∃ w2 : World, w2 = (wr.alloc (.cells #[.string nm, .bool ch, .slice a s.length c, .slice a' d.length c'] 33)).alloc (.cells #[.int .i64 3, .int .i64 0, .int .i64 0, .string nm, .int .i64 0] 82) := ⟨_, rfl⟩
      have sw2 : w2.heap.size = wr.heap.size + 1 + 1 := by rw [hw2]; simp
      rw [← hw2] at hb1 bT bN
      have ks := spell_any ⟨3, 0, 0, nm, 0⟩ (wr.heap.size + 1) 0 1 w2 (.inr (.inl ⟨rfl, rfl, rfl, g1⟩)) (hTr.below hb1 (by omega)) (by omega) (fun j u hj => by rw [Nat.zero_add]; exact (bT j u hj).1)
      have hown2 := hown.kept (⟨hb1.os, hb1.tape, hb1.output, hb1.size, fun k hk _ => hb1.block k hk⟩ : wr.grownBy w2 none) (by simp)
      have hkey : keyOf Tryz.prog 9 (.string nm) = some (nameKey nm) := Go.WideMaps.keyOf_string_mk Tryz.underlying9 (by simp only [maxLen]; omega)
      have z0 : (0 : Int) ≤ ((i : Nat) : Int) := by omega
      have z1 : ((i : Nat) : Int) < ((nl : Nat) : Int) := by omega
      have zz : ((i : Nat) : Int).toNat = i := by simp
      have hw2' := Lib.hid hw2.symm
      have r12 := Lib.hid (r1.below hb1)
      have r22 := Lib.hid (r2.below hb1)
      replace hw2 := Lib.hid hw2
      replace hown2 := Lib.hid hown2
      replace bN := Lib.hid bN
      replace hb1 := Lib.hid hb1
      replace ks := Lib.hid ks
      replace kc := Lib.hid kc
      replace hno1 := Lib.hid hno1
      replace hb := Lib.hid hb
      replace hbi := Lib.hid hbi
      replace sw2 := Lib.hid sw2
      replace hsz := Lib.hid hsz
      clear hown hno bT r1 r2 hTr g1 g3
      go_wp2_with fail
      rw [hw2'.out]
      refine ks.out.mono ?_
      rintro en w3 ⟨xs, rfl, hb3⟩
      clear c0 c1 c2 c3
      have bN3 := bN.out.same (hb3.block _ (by have := sw2.out; omega))
      have hown3 := hown2.out.kept (⟨hb3.os, hb3.tape, hb3.output, hb3.size, fun k hk _ => hb3.block k hk⟩ : w2.grownBy w3 none) (by simp)
      have r13 := Lib.hid (r12.out.below hb3)
      have r23 := Lib.hid (r22.out.below hb3)
      have hb13 := Lib.hid (hb1.out.trans (hb3.mono hb1.out.size))
      have hs3 : Hid (wr.heap.size < w3.heap.size) := Lib.hid (by have := hb3.size; have := sw2.out; omega)
      obtain ⟨y0, -⟩ := bN3 0 _ rfl
      obtain ⟨y1, -⟩ := bN3 1 _ rfl
      obtain ⟨y2, -⟩ := bN3 2 _ rfl
      obtain ⟨y3, -⟩ := bN3 3 _ rfl
      replace bN3 := Lib.hid bN3
      replace hown3 := Lib.hid hown3
      clear hb3 r12 r22
      go_wp2_with (first
        | (at_lookup; refine wpList_lookup_own_ok_int _ rfl _ _ 91 rfl 9 3 .i64 nameLaw Tryz.underlying91 Tryz.underlying3 (zeroInt _) w.heap.size i D rfl hown3.out _ _ rfl hkey ?_; rw [hno0]; intro cv _ _)
        | (at_mapUpdate; refine wpList_mapUpdate_own _ rfl _ _ _ 91 rfl 9 3 nameLaw Tryz.underlying91 _ w.heap.size i D rfl hown3.out (by simp only [maxLen]; omega) _ _ _ rfl rfl hkey _ [] (plainElem_int Tryz.underlying3 (WalkArith.wf_i64 (by omega))) ?_; intro w4 hown4 hg4; obtain ⟨y1', -⟩ := (bN3.out.same (hg4.block wr.heap.size (by have := hs3.out; omega) (by simp; have := hsz.out; omega))) 1 _ rfl; obtain ⟨y2', -⟩ := (bN3.out.same (hg4.block wr.heap.size (by have := hs3.out; omega) (by simp; have := hsz.out; omega))) 2 _ rfl; obtain ⟨y3', -⟩ := (bN3.out.same (hg4.block wr.heap.size (by have := hs3.out; omega) (by simp; have := hsz.out; omega))) 3 _ rfl; have hown4 := Lib.hid hown4; have hg4 := Lib.hid hg4)
        | fail)
      have hbut : But w.heap.size w3 w4 := fun b hb hne => hg4.out.block b hb (by simp; exact hne)
      refine (kc.out _ (r13.out.but hbut of1.out) (r23.out.but hbut of2.out)).mono ?_
      rintro en w5 ⟨rfl, hb5⟩
      have hb35 : Below w.heap.size w w5 := ((hb.out.trans (hb13.out.mono (by have := hsz.out; omega))).grown hg4.out (by have := hs3.out; have := hsz.out; omega) (by intro k hk; cases hk; exact Nat.le_refl _)).trans (hb5.mono (by have := hs3.out; have := hsz.out; have := hg4.out.size; omega))
      have hown5 := Lib.hid (hown4.out.kept (⟨hb5.os, hb5.tape, hb5.output, hb5.size, fun k hk _ => hb5.block k hk⟩ : w4.grownBy w5 none) (by simp))
      have hs5 : Hid (w.heap.size < w5.heap.size) := Lib.hid (by have := hsz.out; have := hs3.out; have := hg4.out.size; have := hb5.size; omega)
      replace hb35 := Lib.hid hb35
      clear y1' y2' y3' y0 y1 y2 y3 hbut hb5
      rw [errV_zero]
      go_wp2
      go_roundw
      case rel => exact ⟨i + 1, _, by simp, hlt, hown5.out, fun j b hj hb => hno1.out j b hj hb _, hb35.out, hs5.out⟩
      case measure => simp [intOf]; omega
end Go.Proofs.YtaplaoelamnoiaaGreatDoor

/- The call eval.fresh: an array copied. Condition: rows that lie as lists of ints, not too long. -/
namespace Go.Proofs.YtaplaoelamnoiaaGreatDoor
open Go.RowKit

theorem heldA {w w' : World} {N : Nat} {x y z : Value} (hb : Below w.heap.size w w') (h : w.cell? ⟨N, 0, none⟩ = some x ∧ w.cell? ⟨N, 1, none⟩ = some y ∧ w.cell? ⟨N, 2, none⟩ = some z) : w'.cell? ⟨N, 0, none⟩ = some x ∧ w'.cell? ⟨N, 1, none⟩ = some y ∧ w'.cell? ⟨N, 2, none⟩ = some z := held3 hb h
theorem heldA_set {w : World} {N M : Nat} {x y z p q r : Value} (hN : M ≠ N) (h : w.cell? ⟨N, 0, none⟩ = some x ∧ w.cell? ⟨N, 1, none⟩ = some y ∧ w.cell? ⟨N, 2, none⟩ = some z) :
    (((w.setCell ⟨M, 0, none⟩ p).setCell ⟨M, 1, none⟩ q).setCell ⟨M, 2, none⟩ r).cell? ⟨N, 0, none⟩ = some x ∧ (((w.setCell ⟨M, 0, none⟩ p).setCell ⟨M, 1, none⟩ q).setCell ⟨M, 2, none⟩ r).cell? ⟨N, 1, none⟩ = some y ∧ (((w.setCell ⟨M, 0, none⟩ p).setCell ⟨M, 1, none⟩ q).setCell ⟨M, 2, none⟩ r).cell? ⟨N, 2, none⟩ = some z := by
  have k : ∀ {o : Nat} {v : Value}, w.cell? ⟨N, o, none⟩ = some v → (((w.setCell ⟨M, 0, none⟩ p).setCell ⟨M, 1, none⟩ q).setCell ⟨M, 2, none⟩ r).cell? ⟨N, o, none⟩ = some v := by
    intro o v h
    have e : ∀ j, (⟨M, j, none⟩ : Addr) ≠ ⟨N, o, none⟩ := fun j h => by cases h; omega
    rw [World.cell?_setCell_other _ _ _ _ (e 2), World.cell?_setCell_other _ _ _ _ (e 1), World.cell?_setCell_other _ _ _ _ (e 0)]
    exact h
  exact ⟨k h.1, k h.2.1, k h.2.2⟩

set_option maxRecDepth 20000 in
set_option maxHeartbeats 4000000 in
theorem fresh_any (x : Arr) (a : Option Addr) (c : Nat) (b : Option Addr) (k : Nat) (w : World) (hs : Row w a x.s) (hd : Row w b x.d) (l1 : x.s.length ≤ 100000) (l2 : x.d.length ≤ 100000) :
    Calls Tryz.prog 43 #[arrV x.ch a x.s.length c b x.d.length k] w fun en w' => VecPostF x w en w' := by
  obtain ⟨ch, s, d⟩ := x
  dsimp only at hs hd l1 l2 ⊢
  have hb0 : Below w.heap.size w ((w.alloc (.cells #[.bool ch, .slice a s.length c, .slice b d.length k] 24)).alloc (.cells #[.bool false, .slice none 0 0, .slice none 0 0] 24)).drew := (push (push (start w) _) _).drew
  have bA : BoxC w.heap.size [.bool ch, .slice a s.length c, .slice b d.length k] ((w.alloc (.cells #[.bool ch, .slice a s.length c, .slice b d.length k] 24)).alloc (.cells #[.bool false, .slice none 0 0, .slice none 0 0] 24)).drew := (boxC_alloc w #[.bool ch, .slice a s.length c, .slice b d.length k] 24).same (heap_alloc_old _ _ (by simp))
  have bB := boxC_alloc (w.alloc (.cells #[.bool ch, .slice a s.length c, .slice b d.length k] 24)) #[.bool false, .slice none 0 0, .slice none 0 0] 24
  rw [World.size_alloc] at bB
  obtain ⟨W, hW⟩ : ∃ W : World, W = (w.alloc (.cells #[.bool ch, .slice a s.length c, .slice b d.length k] 24)).alloc (.cells #[.bool false, .slice none 0 0, .slice none 0 0] 24) := ⟨_, rfl⟩
  have sW : W.drew.heap.size = w.heap.size + 1 + 1 := by rw [hW]; simp
  rw [← hW] at hb0 bA bB
  have bB : BoxC (w.heap.size + 1) [.bool false, .slice none 0 0, .slice none 0 0] W.drew := bB
  have SS : W.drew.cell? ⟨w.heap.size, 0, none⟩ = some (.bool ch) ∧ W.drew.cell? ⟨w.heap.size, 1, none⟩ = some (.slice a s.length c) ∧ W.drew.cell? ⟨w.heap.size, 2, none⟩ = some (.slice b d.length k) := ⟨(bA 0 _ rfl).1, (bA 1 _ rfl).1, (bA 2 _ rfl).1⟩
  have k1 := fun W hs => clone_any a s s.length c W hs (by omega) rfl
  have k2 := fun W hd => clone_any b d d.length k W hd (by omega) rfl
  have rs := Lib.hid (hs.below hb0)
  have rd := Lib.hid (hd.below hb0)
  have nn : w.heap.size + 1 ≠ w.heap.size := by omega
  obtain ⟨m, hm⟩ : ∃ m, m = s.length := ⟨_, rfl⟩
  obtain ⟨n, hn⟩ : ∃ n, n = d.length := ⟨_, rfl⟩
  rw [← hm] at SS k1
  rw [← hn] at SS k2
  rw [← hm, ← hn] at hW
  rw [← hm, ← hn]
  have hW' := Lib.hid hW.symm
  replace hW := Lib.hid hW
  replace k1 := Lib.hid k1
  replace k2 := Lib.hid k2
  replace hb0 := Lib.hid hb0
  replace bB := Lib.hid bB
  replace sW := Lib.hid sW
  replace hm := Lib.hid hm
  replace hn := Lib.hid hn
  clear hs hd l1 l2 bA
  go_enter Tryz.func43, Tryz.ntmps43
  go_upto_region 1 with fail
  rw [hW'.out]
  go_region_held3 (fun W => W.cell? ⟨w.heap.size, 0, none⟩ = some (.bool ch) ∧ W.cell? ⟨w.heap.size, 1, none⟩ = some (.slice a m c) ∧ W.cell? ⟨w.heap.size, 2, none⟩ = some (.slice b n k))
    (first | (with_reducible assumption) | (exact heldA hb1 (by with_reducible assumption)) | (exact heldA hb2 (by with_reducible assumption)) | (exact heldA_set nn (by with_reducible assumption)) | go_keep)
    (first
      | (go_at_call_of 72 (Value.slice a m c); refine (k1.out _ rs.out).mono ?_; rintro en w1 ⟨v1, rfl, o1, hb1⟩; obtain ⟨a1, c1, rfl, hc1, -, -⟩ := o1.view; rw [← hm.out] at hc1 ⊢)
      | (go_at_call_of 72 (Value.slice b n k); refine (k2.out _ (rd.out.below hb1)).mono ?_; rintro en w2 ⟨v2, rfl, o2, hb2⟩; obtain ⟨a2, c2, rfl, -, -, -⟩ := o2.view; rw [← hn.out]; obtain ⟨t0, u0⟩ := ((bB.out.same (hb1.block _ (by have := sW.out; omega))).same (hb2.block _ (by have := sW.out; have := hb1.size; omega))) 0 _ rfl; obtain ⟨t1, u1⟩ := ((bB.out.same (hb1.block _ (by have := sW.out; omega))).same (hb2.block _ (by have := sW.out; have := hb1.size; omega))) 1 _ rfl; obtain ⟨t2, u2⟩ := ((bB.out.same (hb1.block _ (by have := sW.out; omega))).same (hb2.block _ (by have := sW.out; have := hb1.size; omega))) 2 _ rfl))
  have hs1 : W.drew.heap.size ≤ w1.heap.size := hb1.size
  have q1 : Row w1 a1 s := by
    obtain ⟨a', c', he, -, -, h⟩ := o1.view
    injection he with he1 _ _
    rw [he1]; exact h
  have q2 : Row w2 a2 d := by
    obtain ⟨a', c', he, -, -, h⟩ := o2.view
    injection he with he1 _ _
    rw [he1]; exact h
  have f1 : ∀ p, a1 = some p → w.heap.size + 1 + 1 ≤ p.block := fun p e => by have := own_fresh o1 p e; have := sW.out; omega
  have f2 : ∀ p, a2 = some p → w.heap.size + 1 + 1 ≤ p.block := fun p e => by have := own_fresh o2 p e; have := sW.out; omega
  have g1 := Lib.hid (q1.below hb2)
  have hbb := Lib.hid ((hb0.out.trans (hb1.mono (by have := sW.out; omega))).trans (hb2.mono (by have := sW.out; omega)))
  replace q2 := Lib.hid q2
  replace f1 := Lib.hid f1
  replace f2 := Lib.hid f2
  clear SS o1 o2 q1 hb1 hb2
  go_wp2
  refine bodyPost_ret (v := arrV ch a1 m c1 a2 n c2) (by simp [results, Tryz.results43, go_sem, cell?_set_same, arrV, t0, t1, t2]) rfl ?_
  refine ⟨a1, c1, a2, c2, by rw [hm.out, hn.out], g1.out.but (g := w.heap.size + 1) (But.set3 _ _ _ _ _ _) (fun _ p e => by have := f1.out p e; omega), q2.out.but (g := w.heap.size + 1) (But.set3 _ _ _ _ _ _) (fun _ p e => by have := f2.out p e; omega), fun p e => by have := f1.out p e; omega, fun p e => by have := f2.out p e; omega, by rw [← hm.out]; exact hc1, set3 hbb.out (Nat.le_succ _) _ _ _⟩
end Go.Proofs.YtaplaoelamnoiaaGreatDoor

/- The call eval.valueOf: the worth of an expression, copied. Condition: names with values, a tree and the library's tables lie. -/
namespace Go.Proofs.YtaplaoelamnoiaaGreatDoor
open Go.RowKit

theorem ofIdle (a b c : Value) (w : World) :
    CallsD Tryz.prog 40 #[a, b, c] .returning w fun e u' w' => e = .returned (.tuple #[]) ∧ u' = .returning ∧ w' = w := by
  refine callsD_of_wpS Tryz.func40 rfl fun c₀ cs hu => ?_
  apply wpS_seq
  generalize hy : (Code.block 0 _) = y
  apply wpS_region
  simp [wpOpsS, go_sem, recoverD, hu, Tryz.ntmps40, Exit.thenS]
  rw [show (#[a, b, c] ++ (Array.replicate 12 undef).setIfInBounds 3 Value.nilIface : Array Value) = #[a, b, c, undef, undef, undef, .nilIface, undef, undef, undef, undef, undef, undef, undef, undef] from rfl]
  subst hy
  refine wpS_of_wp ?_
  go_wp2
  cases c₀
  simp_all [bodyPostS, results, Tryz.results40]

set_option maxRecDepth 20000 in
set_option maxHeartbeats 4000000 in
theorem step_raw (g mb fuel : Nat) (w : World) (h : Fuel g mb (fuel + 1) w) (hf : fuel < 20000) :
    Calls Tryz.prog 42 #[.pointer (some ⟨g, 0, none⟩)] w fun en w' => en = .returned (.tuple #[]) ∧ w' = w.setCell ⟨g, 1, none⟩ (.int .i64 fuel) := by
  obtain ⟨⟨c0, c1⟩, f1⟩ := id h
  obtain ⟨u, hu⟩ : ∃ u : Int, u = ((fuel + 1 : Nat) : Int) := ⟨_, rfl⟩
  rw [← hu] at c1
  have e1 : decide (u ≤ 0) = false := decide_eq_false (by omega)
  have e2 : u - 1 = ((fuel : Nat) : Int) := by omega
  have b1 : 0 < u := by omega
  have b2 : u ≤ 20000 := by omega
  replace hu := Lib.hid hu
  replace e2 := Lib.hid e2
  clear h
  go_enter Tryz.func42, Tryz.ntmps42
  go_wp2
  refine bodyPost_end (results_none rfl _ _ _) rfl ?_
  exact ⟨rfl, by rw [e2.out]⟩

/-- A statement that neither panics nor leaves: what would be then does not matter. -/
theorem wp_dead {P : Program} {s : Code} {K : Act → World → Prop} {Q' : Exit → Act → World → Prop} {a : Act} {w : World} (h : s.wp P (Exit.then K fun _ _ _ => False) a w) : s.wp P (Exit.then K Q') a w := by
  refine Code.wp_mono ?_ h
  intro e a' w' hq
  cases e with
  | normal => exact hq
  | exit id => exact False.elim hq
  | goto l => exact False.elim hq
  | ret => exact False.elim hq
  | panic ch => exact False.elim hq
  | outgrown => exact False.elim hq
/-- The value that a name has. -/
def envOf (l : List Bd) (s : ByteArray) : Option Arr := (l.find? fun b => decide (b.name.data.toList = s.data.toList)).map Bd.x
/-- What the names' map holds behind k rounds. -/
def Held (w0 : World) (l : List Bd) (k : Nat) (D : DataW Value) : Prop := ∀ (i : Nat) (b : Bd), i < k → l[i]? = some b → ∃ (a : Option Addr) (c : Nat) (a' : Option Addr) (c' : Nat),
  (∀ z, D.atKey (nameKey b.name) z = .held (arrV b.x.ch a b.x.s.length c a' b.x.d.length c')) ∧ Maps.has D (nameKey b.name) = true ∧ Row w0 a b.x.s ∧ Row w0 a' b.x.d ∧ b.x.d.length ≤ c'
theorem Row.low {w : World} {a : Option Addr} {xs : List Int} (h : Row w a xs) {g : Nat} (hg : w.heap.size ≤ g) : Low g a xs := by
  intro hx p e
  obtain ⟨b, off, e2, hc⟩ := h 0 (List.length_pos_iff.2 hx)
  rw [e2] at e
  cases e
  have h2 : b < w.heap.size := World.block_lt_of_cell? w _ hc
  show b < g
  omega
theorem keyLit (s : ByteArray) : WideAt.IsKeyLit (nameKey s) := by unfold WideAt.IsKeyLit; exact trivial
theorem held_put {w0 : World} {l : List Bd} {k : Nat} {D : DataW Value} (h : Held w0 l k D) (hD : Go.Maps.IsMap D) (hdis : ∀ (i j : Nat) (b b' : Bd), l[i]? = some b → l[j]? = some b' → i < j → nameKey b.name ≠ nameKey b'.name)
    {b : Bd} (hb : l[k]? = some b) {a : Option Addr} {c : Nat} {a' : Option Addr} {c' : Nat} (r1 : Row w0 a b.x.s) (r2 : Row w0 a' b.x.d) (r3 : b.x.d.length ≤ c') : Held w0 l (k + 1) (D.put (nameKey b.name) (.held (arrV b.x.ch a b.x.s.length c a' b.x.d.length c'))) := by
  intro i b1 hi hb1
  by_cases hik : i = k
  · subst hik
    rw [hb] at hb1
    cases hb1
    exact ⟨a, c, a', c', fun z => Go.Maps.atKey_put_same hD (keyLit b.name) _ z, Go.Maps.has_put_same hD (keyLit b.name) _, r1, r2, r3⟩
  · obtain ⟨a1, c1, a1', c1', h1, h2, h3, h4, h5⟩ := h i b1 (by omega) hb1
    have hne := hdis i k b1 b hb1 hb (by omega)
    exact ⟨a1, c1, a1', c1', fun z => by rw [Go.Maps.atKey_put_other hne]; exact h1 z, by rw [Go.Maps.has_put_other hne]; exact h2, h3, h4, h5⟩
theorem env_held {w0 w : World} {l : List Bd} {D : DataW Value} {g mb n : Nat} (h : Held w0 l l.length D) (hok : WsOk l) (hown : w.ownsMap Tryz.prog 9 heldElem mb n D) (hg : w0.heap.size ≤ g) (hm : mb ≠ g) (hb : Below w0.heap.size w0 w) : EnvAt g mb (envOf l) w := by
  refine ⟨hm, n, D, hown, fun s x hs => ?_⟩
  unfold envOf at hs
  obtain ⟨b, hf, hx⟩ := Option.map_eq_some_iff.1 hs
  subst hx
  have hmem := List.mem_of_find?_eq_some hf
  have hkey : nameKey b.name = nameKey s := congrArg Lit.string (by have := List.find?_some hf; simpa using this)
  obtain ⟨i, hi, hbi⟩ := List.mem_iff_getElem.1 hmem
  obtain ⟨a, c, a', c', h1, h2, h3, h4, h5⟩ := h i b hi (by rw [List.getElem?_eq_getElem hi, hbi])
  rw [hkey] at h1 h2
  refine ⟨?_, a, c, a', c', h1, h2, h3.below hb, h4.below hb, h3.low hg, h4.low hg, h5⟩
  have e1 : b.name.size = s.size := by
    injection hkey with hk
    have := congrArg List.length hk
    simpa using this
  have := (hok.2.1 b hmem).2.1
  rw [← e1]
  simp only [maxLen]
  omega

set_option maxRecDepth 20000 in
set_option maxHeartbeats 8000000 in
theorem valueOf_any (A : Option Addr) (l : List Bd) (cp : Nat) (tb tc : Nat) (T : List Nd) (e : Ex) (x : Arr) (fuel : Nat) (w : World) (hW : WsAt A l w) (hok : WsOk l) (hN : ∀ g, w.heap.size ≤ g → NdAt g tb T w)
    (hT : T = M.flat e) (h4 : T.length ≤ 1000) (hv : ValOk (envOf l) e x) (hst : M.steps e < fuel) (hf : fuel ≤ 20000) (l1 : x.s.length ≤ 100000) (l2 : x.d.length ≤ 100000) :
    Calls Tryz.prog 30 #[.slice A l.length cp, .slice (some ⟨tb, 0, none⟩) T.length tc, .int .i64 fuel] w fun en w' => ∃ (left : Int) (a : Option Addr) (c : Nat) (b : Option Addr) (k : Nat), en = .returned (.tuple #[arrV x.ch a x.s.length c b x.d.length k, .int .i64 left, .nilIface]) ∧ Row w' a x.s ∧ Row w' b x.d ∧ Fresh w a ∧ Fresh w b ∧ x.s.length ≤ c ∧ Below w.heap.size w w' := by
  have hmf : ∀ (fn : Fn) (first cap : Array Value) (w : World), (Instr.makeFunc fn first cap).run Tryz.prog w = .ok (.func fn first cap) w := fun _ _ _ _ => rfl
  have hmm := @run_makeMap Tryz.prog
  obtain ⟨W3, hW3⟩ : ∃ W : World, W = ((w.alloc (.cells #[.bool false, .slice none 0 0, .slice none 0 0] 24)).alloc (.cells #[.int .i64 0] 3)).alloc (.cells #[.nilIface] 29) := ⟨_, rfl⟩
  obtain ⟨bA, bB, bC, sW3⟩ := three_boxes _ _ _ _ _ _ _ W3 hW3
  have hb3 : Below w.heap.size w W3 := by rw [hW3]; exact push (push (push (start w) _) _) _
  obtain ⟨W4, hW4⟩ : ∃ W : World, W = W3.alloc (.map #[] 0) := ⟨_, rfl⟩
  have sW4 : W4.heap.size = W3.heap.size + 1 := by rw [hW4]; simp
  have hown4 : W4.ownsMap Tryz.prog 9 heldElem W3.heap.size 0 (.map []) := by rw [hW4]; exact World.ownsMap_made _ _ _ _
  obtain ⟨W5, hW5⟩ : ∃ W : World, W = W4.alloc (.cells #[.map (some W3.heap.size), .int .i64 fuel] 98) := ⟨_, rfl⟩
  have sW5 : W5.heap.size = W4.heap.size + 1 := by rw [hW5]; simp
  have bE : BoxC W4.heap.size [.map (some W3.heap.size), .int .i64 fuel] W5 := by rw [hW5]; exact boxC_alloc W4 _ _
  have hown5 : W5.ownsMap Tryz.prog 9 heldElem W3.heap.size 0 (.map []) := by rw [hW5]; exact hown4.alloc _
  have b34 : Below W3.heap.size W3 W4 := by rw [hW4]; exact push (start W3) _
  have b45 : Below W4.heap.size W4 W5 := by rw [hW5]; exact push (start W4) _
  have b35 : Below W3.heap.size W3 W5 := b34.trans (b45.mono (by omega))
  have b05 : Below w.heap.size w W5 := hb3.trans (b35.mono (by omega))
  have cA := bA.same (b35.block _ (by omega))
  have cB := bB.same (b35.block _ (by omega))
  have cC := bC.same (b35.block _ (by omega))
  have hWx : (((w.alloc (.cells #[.bool false, .slice none 0 0, .slice none 0 0] 24)).alloc (.cells #[.int .i64 0] 3)).alloc (.cells #[.nilIface] 29)).alloc (.map #[] 0) = W4 := by rw [hW4, hW3]
  have hWy : ((((w.alloc (.cells #[.bool false, .slice none 0 0, .slice none 0 0] 24)).alloc (.cells #[.int .i64 0] 3)).alloc (.cells #[.nilIface] 29)).alloc (.map #[] 0)).alloc (.cells #[.map (some (w.heap.size + 1 + 1 + 1)), .int .i64 fuel] 98) = W5 := by rw [hWx, hW5, sW3]
  obtain ⟨nl, hnl⟩ : ∃ nl, nl = l.length := ⟨_, rfl⟩
  rw [← hnl]
  replace hWx := Lib.hid hWx
  replace hWy := Lib.hid hWy
  replace hW3 := Lib.hid hW3
  replace hW4 := Lib.hid hW4
  replace hW5 := Lib.hid hW5
  replace sW3 := Lib.hid sW3
  replace sW4 := Lib.hid sW4
  replace sW5 := Lib.hid sW5
  replace hW := Lib.hid hW
  replace hok := Lib.hid hok
  replace hN := Lib.hid hN
  replace hT := Lib.hid hT
  replace hv := Lib.hid hv
  replace hst := Lib.hid hst
  replace hnl := Lib.hid hnl
  replace bE := Lib.hid bE
  replace hown5 := Lib.hid hown5
  replace b05 := Lib.hid b05
  replace cA := Lib.hid cA
  replace cB := Lib.hid cB
  replace cC := Lib.hid cC
  replace l1 := Lib.hid l1
  replace l2 := Lib.hid l2
  replace h4 := Lib.hid h4
  clear hown4 b34 b45 b35 hb3 bA bB bC
  go_enter_defers Tryz.func30, Tryz.ntmps30
  go_wp2
  rw [hWy.out]
  go_loopw [19] (fun v wr => ∃ (i : Nat) (D : DataW Value), v = .int .i64 i ∧ i ≤ nl ∧ wr.ownsMap Tryz.prog 9 heldElem (w.heap.size + 1 + 1 + 1) i D ∧ Held w l i D ∧ Below w.heap.size w wr ∧ But (w.heap.size + 1 + 1 + 1) W5 wr ∧ W5.heap.size ≤ wr.heap.size) (fun v _ => nl - (intOf v).toNat)
  case atStart => exact ⟨0, .map [], rfl, Nat.zero_le _, by rw [← sW3.out]; exact hown5.out, fun i b h _ => absurd h (Nat.not_lt_zero _), b05.out, But.refl _ _, Nat.le_refl _⟩
  case round =>
    obtain ⟨i, D, rfl, hi, hown, hheld, hb, hbut, hsz⟩ := hrel
    by_cases hlt : i < nl
    case neg =>
      have hie : i = nl := by omega
      subst hie
      have hgl : w.heap.size + 1 + 1 + 1 + 1 < W5.heap.size := by have := sW3.out; have := sW4.out; have := sW5.out; omega
      obtain ⟨g, hgdef⟩ : ∃ g, g = w.heap.size + 1 + 1 + 1 + 1 := ⟨_, rfl⟩
      have E5 : BoxC g [.map (some (w.heap.size + 1 + 1 + 1)), .int .i64 fuel] W5 := by
        have h := bE.out
        rw [sW4.out, sW3.out, ← hgdef] at h
        exact h
      rw [← hgdef] at hgl
      rw [← hgdef]
      have Er := E5.same (hbut _ hgl (by omega))
      have Ar := cA.out.same (hbut _ (by omega) (by omega))
      have Br := cB.out.same (hbut _ (by omega) (by omega))
      have Cr := cC.out.same (hbut _ (by omega) (by omega))
      have hE : EvAt g (w.heap.size + 1 + 1 + 1) tb T (envOf l) fuel wr wr := ⟨⟨⟨(Er 0 _ rfl).1, (Er 1 _ rfl).1⟩, (Er 1 _ rfl).2⟩, ⟨(hN.out g (by omega)).but (But.of_below hb), env_held (by rw [← hnl.out]; exact hheld) hok.out hown (by omega) (by omega) hb⟩, But.refl _ _, Below.refl _ _, by omega⟩
      obtain ⟨F, hF⟩ : ∃ F, fuel - M.steps e = F + 1 := ⟨fuel - M.steps e - 1, by have := hst.out; omega⟩
      have kv : Calls Tryz.prog 41 #[callV g, .slice (some ⟨tb, 0, none⟩) T.length tc, .int .i64 0] wr fun en w' => ValPost x g (w.heap.size + 1 + 1 + 1) tb T (envOf l) (F + 1) wr en w' := by
        have h := hv.out g (w.heap.size + 1 + 1 + 1) tb tc fuel T [] [] wr hE (by rw [hT.out]; simp) h4.out (by have := hst.out; omega) hf
        rw [hF] at h
        exact h
      have hF2 : F < 20000 := by omega
      have e1 : decide (((i : Nat) : Int) < ((i : Nat) : Int)) = false := decide_eq_false (by omega)
      have hwr : w.heap.size + 1 + 1 < wr.heap.size := by omega
      replace hE := Lib.hid hE
      replace kv := Lib.hid kv
      replace hF := Lib.hid hF
      replace Ar := Lib.hid Ar
      replace Br := Lib.hid Br
      replace Cr := Lib.hid Cr
      replace hgdef := Lib.hid hgdef
      replace hb := Lib.hid hb
      replace hwr := Lib.hid hwr
      clear hown hheld hbut E5 Er hsz hgl
      unfold callV at kv
      go_wp2_with fail
      refine kv.out.mono ?_
      rintro en w2 ⟨a, c, b, k, rfl, ra, rb, oa, ob, E2⟩
      have A2 := Ar.out.same (E2.2.2.1 _ (by have := hwr.out; omega) (by have := hgdef.out; omega))
      have B2 := Br.out.same (E2.2.2.1 _ (by have := hwr.out; omega) (by have := hgdef.out; omega))
      have C2 := Cr.out.same (E2.2.2.1 _ (by have := hwr.out; omega) (by have := hgdef.out; omega))
      have fl2 := E2.1
      have oag : Off g a x.s := oa.off (Nat.le_refl _) hE.out.1.lt
      have obg : Off g b x.d := ob.off (Nat.le_refl _) hE.out.1.lt
      have hb2 : Below w.heap.size w w2 := hb.out.trans (E2.2.2.2.1.mono (by have := hgdef.out; omega))
      obtain ⟨y0, x0⟩ := A2 0 _ rfl
      obtain ⟨y1, x1⟩ := A2 1 _ rfl
      obtain ⟨y2, x2⟩ := A2 2 _ rfl
      obtain ⟨w3, hw3⟩ : ∃ w3 : World, w3 = ((w2.setCell ⟨w.heap.size, 0, none⟩ (.bool x.ch)).setCell ⟨w.heap.size, 1, none⟩ (.slice a x.s.length c)).setCell ⟨w.heap.size, 2, none⟩ (.slice b x.d.length k) := ⟨_, rfl⟩
      have h1x : (w2.setCell ⟨w.heap.size, 0, none⟩ (.bool x.ch)).cell? ⟨w.heap.size, 1, none⟩ = some (.slice none 0 0) := by rw [World.cell?_setCell_other _ _ _ _ (by simp)]; exact y1
      have h2x : ((w2.setCell ⟨w.heap.size, 0, none⟩ (.bool x.ch)).setCell ⟨w.heap.size, 1, none⟩ (.slice a x.s.length c)).cell? ⟨w.heap.size, 2, none⟩ = some (.slice none 0 0) := by rw [World.cell?_setCell_other _ _ _ _ (by simp), World.cell?_setCell_other _ _ _ _ (by simp)]; exact y2
      have ra3 : Row w3 a x.s := by rw [hw3]; exact ((ra.set_ne y0 (by simp)).set_ne h1x (by simp)).set_ne h2x (by simp)
      have rb3 : Row w3 b x.d := by rw [hw3]; exact ((rb.set_ne y0 (by simp)).set_ne h1x (by simp)).set_ne h2x (by simp)
      have A3 : BoxC w.heap.size [.bool x.ch, .slice a x.s.length c, .slice b x.d.length k] w3 := by rw [hw3]; exact ((A2.put 0 (by simp) (.bool x.ch)).put 1 (by simp) (.slice a x.s.length c)).put 2 (by simp) (.slice b x.d.length k)
      have hfar : ∀ n, n ≠ w.heap.size → w3.heap[n]? = w2.heap[n]? := fun n hn => by rw [hw3, Below.heap_setCell _ _ _ _ hn, Below.heap_setCell _ _ _ _ hn, Below.heap_setCell _ _ _ _ hn]
      have B3 := B2.same (hfar _ (by omega))
      have C3 := C2.same (hfar _ (by omega))
      have fl3 := fl2.same (hfar g (by have := hgdef.out; omega))
      have hb3 : Below w.heap.size w w3 := by rw [hw3]; exact ((hb2.setCell (Nat.le_refl _) _).setCell (Nat.le_refl _) _).setCell (Nat.le_refl _) _
      have ks := step_raw g (w.heap.size + 1 + 1 + 1) F w3 fl3 hF2
      obtain ⟨w4, hw4⟩ : ∃ w4 : World, w4 = w3.setCell ⟨g, 1, none⟩ (.int .i64 F) := ⟨_, rfl⟩
      rw [← hw4] at ks
      have A4 : BoxC w.heap.size [.bool x.ch, .slice a x.s.length c, .slice b x.d.length k] w4 := by rw [hw4]; exact A3.far _ (by show g ≠ w.heap.size; have := hgdef.out; omega) _
      have B4 : BoxC (w.heap.size + 1) [.int .i64 0] w4 := by rw [hw4]; exact B3.far _ (by show g ≠ w.heap.size + 1; have := hgdef.out; omega) _
      have C4 : BoxC (w.heap.size + 1 + 1) [.nilIface] w4 := by rw [hw4]; exact C3.far _ (by show g ≠ w.heap.size + 1 + 1; have := hgdef.out; omega) _
      have G4 : w4.cell? ⟨g, 1, none⟩ = some (.int .i64 F) := by rw [hw4]; exact World.cell?_setCell_same' _ _ _ (by rw [fl3.1.2]; rfl)
      have ra4 : Row w4 a x.s := by rw [hw4]; exact ra3.but ((But.refl g w3).set 1 _) oag
      have rb4 : Row w4 b x.d := by rw [hw4]; exact rb3.but ((But.refl g w3).set 1 _) obg
      have hb4 : Below w.heap.size w w4 := by rw [hw4]; exact hb3.setCell (by show w.heap.size ≤ g; have := hgdef.out; omega) _
      have hg4 : g < w4.heap.size := World.block_lt_of_cell? _ _ G4
      have hw3' := Lib.hid hw3.symm
      replace hw3 := Lib.hid hw3
      replace hw4 := Lib.hid hw4
      replace ks := Lib.hid ks
      replace A4 := Lib.hid A4
      replace B4 := Lib.hid B4
      replace C4 := Lib.hid C4
      replace G4 := Lib.hid G4
      replace ra4 := Lib.hid ra4
      replace rb4 := Lib.hid rb4
      replace hb4 := Lib.hid hb4
      replace hg4 := Lib.hid hg4
      clear A2 B2 C2 A3 B3 C3 fl2 fl3 ra3 rb3 ra rb oa ob oag obg E2 hb2 hb3 hfar h1x h2x
      go_wp2_with fail
      rw [hw3'.out]
      refine ks.out.mono ?_
      rintro en w4' ⟨rfl, hw4e⟩
      subst hw4e
      clear y0 y1 y2 x0 x1 x2
      have SS : w4'.drew.cell? ⟨w.heap.size, 0, none⟩ = some (.bool x.ch) ∧ w4'.drew.cell? ⟨w.heap.size, 1, none⟩ = some (.slice a x.s.length c) ∧ w4'.drew.cell? ⟨w.heap.size, 2, none⟩ = some (.slice b x.d.length k) ∧ w4'.drew.cell? ⟨g, 1, none⟩ = some (.int .i64 F) := ⟨(A4.out 0 _ rfl).1, (A4.out 1 _ rfl).1, (A4.out 2 _ rfl).1, G4.out⟩
      have rad : Hid (Row w4'.drew a x.s) := Lib.hid ra4.out
      have rbd : Hid (Row w4'.drew b x.d) := Lib.hid rb4.out
      obtain ⟨z0, z1, z2, z3⟩ := SS
      go_upto_region 10 with fail
      have ng0 : g ≠ w.heap.size := by have := hgdef.out; omega
      have ng1 : g ≠ w.heap.size + 1 := by have := hgdef.out; omega
      have ng2 : g ≠ w.heap.size + 1 + 1 := by have := hgdef.out; omega
      refine wp_dead ?_
      go_region_law ((go_simp; go_at_call 43; refine (fresh_any x a c b k _ rad.out rbd.out l1.out l2.out).mono ?_; rintro en w5 ⟨a5, c5, b5, k5, rfl, r1, r2, f1, f2, hc5, hb5⟩; have A5 := A4.out.same (hb5.block w.heap.size (by have := hg4.out; have := hgdef.out; show w.heap.size < w4'.heap.size; omega)); have B5 := B4.out.same (hb5.block (w.heap.size + 1) (by have := hg4.out; have := hgdef.out; show w.heap.size + 1 < w4'.heap.size; omega)); have C5 := C4.out.same (hb5.block (w.heap.size + 1 + 1) (by have := hg4.out; have := hgdef.out; show w.heap.size + 1 + 1 < w4'.heap.size; omega)); have G5 : w5.cell? ⟨g, 1, none⟩ = some (.int .i64 F) := (cell_of_eq (hb5.block g (by have := hg4.out; show g < w4'.heap.size; omega)) _).trans G4.out; obtain ⟨y0, x0⟩ := A5 0 _ rfl; obtain ⟨y1, x1⟩ := A5 1 _ rfl; obtain ⟨y2, x2⟩ := A5 2 _ rfl; obtain ⟨y3, x3⟩ := B5 0 _ rfl; obtain ⟨y4, x4⟩ := C5 0 _ rfl; have A5 := Lib.hid A5; have B5 := Lib.hid B5; have C5 := Lib.hid C5; have r1 := Lib.hid r1; have r2 := Lib.hid r2; have f1 := Lib.hid f1; have f2 := Lib.hid f2; have hc5 := Lib.hid hc5; have hb5 := Lib.hid hb5))
      all_goals
        have A9 : BoxC w.heap.size [.bool x.ch, .slice a5 x.s.length c5, .slice b5 x.d.length k5] (((((w5.setCell ⟨w.heap.size, 0, none⟩ (.bool x.ch)).setCell ⟨w.heap.size, 1, none⟩ (.slice a5 x.s.length c5)).setCell ⟨w.heap.size, 2, none⟩ (.slice b5 x.d.length k5)).setCell ⟨w.heap.size + 1, 0, none⟩ (.int .i64 F)).setCell ⟨w.heap.size + 1 + 1, 0, none⟩ .nilIface) := ((((A5.out.put 0 (by simp) (.bool x.ch)).put 1 (by simp) (.slice a5 x.s.length c5)).put 2 (by simp) (.slice b5 x.d.length k5)).far _ (Nat.ne_of_gt (Nat.lt_succ_self _)) _).far _ (by show w.heap.size + 1 + 1 ≠ w.heap.size; omega) _
        have B9 : BoxC (w.heap.size + 1) [.int .i64 F] (((((w5.setCell ⟨w.heap.size, 0, none⟩ (.bool x.ch)).setCell ⟨w.heap.size, 1, none⟩ (.slice a5 x.s.length c5)).setCell ⟨w.heap.size, 2, none⟩ (.slice b5 x.d.length k5)).setCell ⟨w.heap.size + 1, 0, none⟩ (.int .i64 F)).setCell ⟨w.heap.size + 1 + 1, 0, none⟩ .nilIface) := ((((B5.out.far _ (by show w.heap.size ≠ w.heap.size + 1; omega) _).far _ (by show w.heap.size ≠ w.heap.size + 1; omega) _).far _ (by show w.heap.size ≠ w.heap.size + 1; omega) _).put 0 (by simp) (.int .i64 F)).far _ (by show w.heap.size + 1 + 1 ≠ w.heap.size + 1; omega) _
        have C9 : BoxC (w.heap.size + 1 + 1) [.nilIface] (((((w5.setCell ⟨w.heap.size, 0, none⟩ (.bool x.ch)).setCell ⟨w.heap.size, 1, none⟩ (.slice a5 x.s.length c5)).setCell ⟨w.heap.size, 2, none⟩ (.slice b5 x.d.length k5)).setCell ⟨w.heap.size + 1, 0, none⟩ (.int .i64 F)).setCell ⟨w.heap.size + 1 + 1, 0, none⟩ .nilIface) := ((((C5.out.far _ (by show w.heap.size ≠ w.heap.size + 1 + 1; omega) _).far _ (by show w.heap.size ≠ w.heap.size + 1 + 1; omega) _).far _ (by show w.heap.size ≠ w.heap.size + 1 + 1; omega) _).far _ (by show w.heap.size + 1 ≠ w.heap.size + 1 + 1; omega) _).put 0 (by simp) .nilIface
        have g1 : ∀ p, a5 = some p → w.heap.size + 1 + 1 < p.block := fun p e => by have h : w4'.heap.size ≤ p.block := f1.out p e; have := hg4.out; have := hgdef.out; omega
        have g2 : ∀ p, b5 = some p → w.heap.size + 1 + 1 < p.block := fun p e => by have h : w4'.heap.size ≤ p.block := f2.out p e; have := hg4.out; have := hgdef.out; omega
        have q1 : Row (((((w5.setCell ⟨w.heap.size, 0, none⟩ (.bool x.ch)).setCell ⟨w.heap.size, 1, none⟩ (.slice a5 x.s.length c5)).setCell ⟨w.heap.size, 2, none⟩ (.slice b5 x.d.length k5)).setCell ⟨w.heap.size + 1, 0, none⟩ (.int .i64 F)).setCell ⟨w.heap.size + 1 + 1, 0, none⟩ .nilIface) a5 x.s := ((r1.out.but (g := w.heap.size) (But.set3 _ _ _ _ _ _) (fun _ p e => by have := g1 p e; omega)).but (g := w.heap.size + 1) ((But.refl _ _).set 0 _) (fun _ p e => by have := g1 p e; omega)).but (g := w.heap.size + 1 + 1) ((But.refl _ _).set 0 _) (fun _ p e => by have := g1 p e; omega)
        have q2 : Row (((((w5.setCell ⟨w.heap.size, 0, none⟩ (.bool x.ch)).setCell ⟨w.heap.size, 1, none⟩ (.slice a5 x.s.length c5)).setCell ⟨w.heap.size, 2, none⟩ (.slice b5 x.d.length k5)).setCell ⟨w.heap.size + 1, 0, none⟩ (.int .i64 F)).setCell ⟨w.heap.size + 1 + 1, 0, none⟩ .nilIface) b5 x.d := ((r2.out.but (g := w.heap.size) (But.set3 _ _ _ _ _ _) (fun _ p e => by have := g2 p e; omega)).but (g := w.heap.size + 1) ((But.refl _ _).set 0 _) (fun _ p e => by have := g2 p e; omega)).but (g := w.heap.size + 1 + 1) ((But.refl _ _).set 0 _) (fun _ p e => by have := g2 p e; omega)
        have hb9 : Below w.heap.size w (((((w5.setCell ⟨w.heap.size, 0, none⟩ (.bool x.ch)).setCell ⟨w.heap.size, 1, none⟩ (.slice a5 x.s.length c5)).setCell ⟨w.heap.size, 2, none⟩ (.slice b5 x.d.length k5)).setCell ⟨w.heap.size + 1, 0, none⟩ (.int .i64 F)).setCell ⟨w.heap.size + 1 + 1, 0, none⟩ .nilIface) := (((((hb4.out.drew.trans (hb5.out.mono (by have := hg4.out; have := hgdef.out; show w.heap.size ≤ w4'.heap.size; omega))).setCell (Nat.le_refl _) _).setCell (Nat.le_refl _) _).setCell (Nat.le_refl _) _).setCell (Nat.le_succ _) _).setCell (by show w.heap.size ≤ w.heap.size + 1 + 1; omega) _
        have s0 := (A9 0 _ rfl).1
        have s1 := (A9 1 _ rfl).1
        have s2 := (A9 2 _ rfl).1
        have s3 := (B9 0 _ rfl).1
        have s4 := (C9 0 _ rfl).1
        clear A9 B9 C9 z0 z1 z2 z3 y0 y1 y2 y3 y4 x0 x1 x2 x3 x4 G5 A5 B5 C5 r1 r2 ng0 ng1 ng2
        generalize (((((w5.setCell ⟨w.heap.size, 0, none⟩ (.bool x.ch)).setCell ⟨w.heap.size, 1, none⟩ (.slice a5 x.s.length c5)).setCell ⟨w.heap.size, 2, none⟩ (.slice b5 x.d.length k5)).setCell ⟨w.heap.size + 1, 0, none⟩ (.int .i64 F)).setCell ⟨w.heap.size + 1 + 1, 0, none⟩ .nilIface) = w9 at *
        replace q1 := Lib.hid q1
        replace q2 := Lib.hid q2
        replace hb9 := Lib.hid hb9
        go_wp2
        refine leaves_cons (f := 40) (args := #[.pointer (some ⟨w.heap.size, 0, none⟩), .pointer (some ⟨w.heap.size + 1, 0, none⟩), .pointer (some ⟨w.heap.size + 1 + 1, 0, none⟩)]) (by simp) (by simp [go_sem]) ?_
        refine (ofIdle _ _ _ _).mono ?_
        rintro e u' w'' ⟨rfl, rfl, rfl⟩
        simp only [Leaves, settle]
        refine ⟨.tuple #[arrV x.ch a5 x.s.length c5 b5 x.d.length k5, .int .i64 F, .nilIface], by simp [results, Tryz.results30, go_sem, s0, s1, s2, s3, s4, arrV], _, _, _, _, _, rfl, q1.out, q2.out, fun p e => by have := g1 p e; omega, fun p e => by have := g2 p e; omega, hc5.out, hb9.out⟩
    case pos =>
      have hil : i < l.length := by rw [← hnl.out]; exact hlt
      have hbi : l[i]? = some l[i] := List.getElem?_eq_getElem hil
      obtain ⟨g1, g2, g3⟩ := hok.out.2.1 _ (List.getElem_mem hil)
      generalize l[i] = bd at *
      obtain ⟨nm, ⟨ch, s, d⟩⟩ := bd
      dsimp only at g1 g2 g3
      obtain ⟨wb, a, c, a', c', rfl, c0, c1, c2, c3, r1, r2, r3⟩ := hW.out i _ hbi
      dsimp only at c0 c1 c2 c3 r1 r2
      have hheld1 : Held w l (i + 1) (D.put (nameKey nm) (.held (arrV ch a s.length c a' d.length c'))) := held_put hheld hown.isMap hok.out.2.2 hbi r1 r2 r3
      have kcell : ∀ {p : Addr} {v : Value}, w.cell? p = some v → wr.cell? p = some v := fun h => (hb.cell (World.block_lt_of_cell? w _ h)).trans h
      replace c0 := kcell c0
      replace c1 := kcell c1
      replace c2 := kcell c2
      replace c3 := kcell c3
      clear kcell
      have hgl : w.heap.size + 1 + 1 + 1 + 1 < W5.heap.size := by have := sW3.out; have := sW4.out; have := sW5.out; omega
      have E5 : BoxC (w.heap.size + 1 + 1 + 1 + 1) [.map (some (w.heap.size + 1 + 1 + 1)), .int .i64 fuel] W5 := by
        have h := bE.out
        rw [sW4.out, sW3.out] at h
        exact h
      have Er := E5.same (hbut _ hgl (by omega))
      have Ea := Er.same (w' := wr.alloc (.cells #[.string nm, .bool ch, .slice a s.length c, .slice a' d.length c'] 33)) (heap_alloc_old _ _ (by omega))
      obtain ⟨e0, -⟩ := Ea 0 _ rfl
      have hkey : keyOf Tryz.prog 9 (.string nm) = some (nameKey nm) := Go.WideMaps.keyOf_string_mk Tryz.underlying9 (by simp only [maxLen]; omega)
      have h20 : nl ≤ 20 := by rw [hnl.out]; exact hok.out.1
      obtain ⟨w4, hrun, hown4, hg4⟩ := ((hown.alloc (.cells #[.string nm, .bool ch, .slice a s.length c, .slice a' d.length c'] 33)).drew).update nameLaw Tryz.underlying96 (by simp only [maxLen]; omega) hkey (val := .agg #[.bool ch, .slice a s.length c, .slice a' d.length c']) (R := heldElem) rfl
      have z0 : (0 : Int) ≤ ((i : Nat) : Int) := by omega
      have z1 : ((i : Nat) : Int) < ((nl : Nat) : Int) := by omega
      have zz : ((i : Nat) : Int).toNat = i := by simp
      have hba : Below wr.heap.size wr (wr.alloc (.cells #[.string nm, .bool ch, .slice a s.length c, .slice a' d.length c'] 33)).drew := (push (start wr) _).drew
      have hb4 : Below w.heap.size w w4 := (hb.trans (hba.mono (by omega))).grown hg4 (by show w.heap.size ≤ (wr.alloc (.cells #[.string nm, .bool ch, .slice a s.length c, .slice a' d.length c'] 33)).drew.heap.size; have := hba.size; omega) (by intro k hk; cases hk; omega)
      have hbut4 : But (w.heap.size + 1 + 1 + 1) W5 w4 := fun b hb hne => (hg4.block b (by have := hba.size; omega) (by simp; exact hne)).trans ((hba.block b (by omega)).trans (hbut b hb hne))
      have hsz4 : W5.heap.size ≤ w4.heap.size := by have := hg4.size; have := hba.size; omega
      replace hown4 := Lib.hid hown4
      replace hheld1 := Lib.hid hheld1
      replace hb4 := Lib.hid hb4
      replace hbut4 := Lib.hid hbut4
      replace hsz4 := Lib.hid hsz4
      replace hsz := Lib.hid hsz
      replace hb := Lib.hid hb
      replace hbi := Lib.hid hbi
      replace hg4 := Lib.hid hg4
      clear hown hheld hbut hba E5 Er Ea r1 r2 g1 g2 g3 hkey
      go_upto_region 6 with fail
      go_region
      clear hrun c0 c1 c2 c3 e0
      go_wp2
      go_roundw
      case rel => exact ⟨i + 1, _, by simp, hlt, hown4.out, hheld1.out, hb4.out, hbut4.out, hsz4.out⟩
      case measure => simp [intOf]; omega
end Go.Proofs.YtaplaoelamnoiaaGreatDoor

/- The tests on nodes in tree.Check: right, the walker's method function. Condition: the library's tables are laid, where a name is spelt. -/
namespace Go.Proofs.YtaplaoelamnoiaaGreatDoor
open Go.RowKit

/-- A node as a value. -/
def Nd.val (x : Nd) (a : Option Addr) (c : Nat) : Value := .agg #[.int .i64 x.op, .int .i64 x.ao, .int .i64 x.af, .int .i64 x.ag, .int .i64 x.n, .slice a x.nums.length c, .string x.text]

set_option maxRecDepth 20000 in
set_option maxHeartbeats 4000000 in
theorem right_nums (l : List Int) (hl : l ≠ []) (a : Option Addr) (c : Nat) (w : World) :
    Calls Tryz.prog 65 #[.agg #[.int .i64 1, .int .i64 0, .int .i64 0, .int .i64 0, .int .i64 0, .slice a l.length c, .string ⟨#[]⟩]] w fun en w' => en = .returned (.bool true) ∧ Below w.heap.size w w' := by
  have hpos : 0 < l.length := List.length_pos_iff.2 hl
  generalize l.length = n at *
  have e1 : decide ((0 : Int) < ((n : Nat) : Int)) = true := decide_eq_true (by omega)
  have e2 : (0 : Int) < ((n : Nat) : Int) := by omega
  go_enter Tryz.func65, Tryz.ntmps65
  go_wp2
  go_ret
  exact ⟨rfl, by first | exact push (start w) _ | exact Below.refl _ _⟩

set_option maxRecDepth 20000 in
set_option maxHeartbeats 4000000 in
theorem right_name (s : ByteArray) (hs : M.nameOk s) (a : Option Addr) (c : Nat) (w : World) (hT : Tz w) (h8 : 8 ≤ w.heap.size) :
    Calls Tryz.prog 65 #[.agg #[.int .i64 3, .int .i64 0, .int .i64 0, .int .i64 0, .int .i64 0, .slice a 0 c, .string s]] w fun en w' => en = .returned (.bool true) ∧ Below w.heap.size w w' := by
  have hb1 := ((start w).alloc (Nat.le_refl _) (.cells #[.int .i64 3, .int .i64 0, .int .i64 0, .int .i64 0, .int .i64 0, .slice a 0 c, .string s] 76))
  have hb2 := hb1.alloc hb1.size (.cells #[.int .i64 3, .int .i64 0, .int .i64 0, .string s, .int .i64 0] 82)
  have bN := boxC_alloc w #[.int .i64 3, .int .i64 0, .int .i64 0, .int .i64 0, .int .i64 0, .slice a 0 c, .string s] 76
  have bT := boxC_alloc (w.alloc (.cells #[.int .i64 3, .int .i64 0, .int .i64 0, .int .i64 0, .int .i64 0, .slice a 0 c, .string s] 76)) #[.int .i64 3, .int .i64 0, .int .i64 0, .string s, .int .i64 0] 82
  rw [World.size_alloc] at bT
  obtain ⟨W, hW⟩ : ∃ W : World, W = (w.alloc (.cells #[.int .i64 3, .int .i64 0, .int .i64 0, .int .i64 0, .int .i64 0, .slice a 0 c, .string s] 76)).alloc (.cells #[.int .i64 3, .int .i64 0, .int .i64 0, .string s, .int .i64 0] 82) := ⟨_, rfl⟩
  rw [← hW] at hb2 bT
  have bN2 : BoxC w.heap.size [.int .i64 3, .int .i64 0, .int .i64 0, .int .i64 0, .int .i64 0, .slice a 0 c, .string s] W := bN.same (by rw [hW]; exact heap_alloc_old _ _ (by simp))
  have hs2 : w.heap.size + 1 < W.heap.size := by rw [hW]; simp
  have ks := spell_any ⟨3, 0, 0, s, 0⟩ (w.heap.size + 1) 0 1 W (.inr (.inl ⟨rfl, rfl, rfl, hs⟩)) (hT.below hb2 h8) (by have := hb2.size; omega) (fun j u hj => by rw [Nat.zero_add]; exact (bT j u hj).1)
  have hW' := Lib.hid hW.symm
  replace hW := Lib.hid hW
  replace ks := Lib.hid ks
  replace bN2 := Lib.hid bN2
  replace hb2 := Lib.hid hb2
  replace hs2 := Lib.hid hs2
  replace hT := Lib.hid hT
  clear hb1 bN bT
  go_enter Tryz.func65, Tryz.ntmps65
  go_wp2_with fail
  rw [hW'.out]
  refine ks.out.mono ?_
  rintro en w2 ⟨x, rfl, hb3⟩
  have b3 := bN2.out.same (hb3.block _ (by have := hs2.out; omega))
  have hb4 := Lib.hid (hb2.out.trans (hb3.mono hb2.out.size))
  clear hb3
  obtain ⟨y0, -⟩ := b3 0 _ rfl
  obtain ⟨y1, -⟩ := b3 1 _ rfl
  obtain ⟨y2, -⟩ := b3 2 _ rfl
  obtain ⟨y3, -⟩ := b3 3 _ rfl
  obtain ⟨y4, -⟩ := b3 4 _ rfl
  obtain ⟨y5, -⟩ := b3 5 _ rfl
  obtain ⟨y6, -⟩ := b3 6 _ rfl
  clear b3
  go_wp2
  go_ret
  exact ⟨rfl, hb4.out⟩

set_option maxRecDepth 20000 in
set_option maxHeartbeats 4000000 in
theorem right_act (op : Int) (hop : op = 6 ∨ op = 7) (o f : Int) (ho : o = 0 ∨ o = 1 ∨ o = 3) (hf : 1 ≤ f ∧ f ≤ 34) (a : Option Addr) (c : Nat) (w : World) :
    Calls Tryz.prog 65 #[.agg #[.int .i64 op, .int .i64 o, .int .i64 f, .int .i64 0, .int .i64 0, .slice a 0 c, .string ⟨#[]⟩]] w fun en w' => en = .returned (.bool true) ∧ Below w.heap.size w w' := by
  have e1 : decide (1 ≤ f) = true := decide_eq_true hf.1
  have e2 : decide (f ≤ 34) = true := decide_eq_true hf.2
  replace hf := Lib.hid hf
  rcases hop with rfl | rfl <;> rcases ho with rfl | rfl | rfl
  all_goals
    go_enter Tryz.func65, Tryz.ntmps65
    go_wp2
    go_ret
    exact ⟨rfl, by first | exact push (start w) _ | exact push (push (start w) _) _ | exact Below.refl _ _⟩

set_option maxRecDepth 20000 in
set_option maxHeartbeats 4000000 in
theorem right_pick (a : Option Addr) (c : Nat) (w : World) :
    Calls Tryz.prog 65 #[.agg #[.int .i64 8, .int .i64 0, .int .i64 0, .int .i64 0, .int .i64 1, .slice a 0 c, .string ⟨#[]⟩]] w fun en w' => en = .returned (.bool true) ∧ Below w.heap.size w w' := by
  go_enter Tryz.func65, Tryz.ntmps65
  go_wp2
  go_ret
  exact ⟨rfl, by first | exact push (start w) _ | exact push (push (start w) _) _ | exact Below.refl _ _⟩

set_option maxRecDepth 20000 in
set_option maxHeartbeats 4000000 in
theorem wfun_any (g : Nat) (op o f q : Int) (ho : o = 0 ∨ o = 1 ∨ o = 3) (a : Option Addr) (c : Nat) (w : World) :
    Calls Tryz.prog 87 #[.pointer (some ⟨g, 0, none⟩), .agg #[.int .i64 op, .int .i64 o, .int .i64 f, .int .i64 q, .int .i64 0, .slice a 0 c, .string ⟨#[]⟩]] w fun en w' => en = .returned (.agg #[.int .i64 o, .int .i64 f, .int .i64 q, .int .i64 0, .slice none 0 0]) ∧ Below w.heap.size w w' := by
  have eo6 : (o == 6) = false := by rw [beq_eq_false_iff_ne]; omega
  have eo7 : (o == 7) = false := by rw [beq_eq_false_iff_ne]; omega
  clear ho
  have bB := (three_boxes w #[.int .i64 op, .int .i64 o, .int .i64 f, .int .i64 q, .int .i64 0, .slice a 0 c, .string ⟨#[]⟩] #[.int .i64 o, .int .i64 f, .int .i64 q, .int .i64 0, .slice none 0 0] #[.int .i64 o, .int .i64 f, .int .i64 q, .int .i64 0, .slice none 0 0] 76 125 125 _ rfl).2.1
  replace bB := Lib.hid bB
  go_enter Tryz.func87, Tryz.ntmps87
  go_wp2
  have y0 := (bB.out 0 _ rfl).1
  have y1 := (bB.out 1 _ rfl).1
  have y2 := (bB.out 2 _ rfl).1
  have y3 := (bB.out 3 _ rfl).1
  have y4 := (bB.out 4 _ rfl).1
  refine bodyPost_ret (v := .agg #[.int .i64 o, .int .i64 f, .int .i64 q, .int .i64 0, .slice none 0 0]) (by simp [results, Tryz.results87, go_sem, y0, y1, y2, y3, y4]) rfl ?_
  exact ⟨rfl, push (push (push (start w) _) _) _⟩
end Go.Proofs.YtaplaoelamnoiaaGreatDoor

/- The walker's method expression in tree.Check. Condition: the walker, the nodes and the library's tables lie. -/
namespace Go.Proofs.YtaplaoelamnoiaaGreatDoor
open Go.RowKit

/-- The walker over nodes, at the i-th one: w at its start, W now. -/
def WkAt (g tb tc : Nat) (T : List Nd) (i : Nat) (w W : World) : Prop := PSt g tb tc T.length i W ∧ (NdAt g tb T w ∧ Tz w ∧ 8 ≤ g) ∧ But g w W ∧ Below g w W ∧ g < w.heap.size
section
variable {g tb tc : Nat} {T : List Nd} {i j : Nat} {w W W2 : World}
theorem WkAt.nodes (h : WkAt g tb tc T i w W) : NdAt g tb T W := h.2.1.1.but h.2.2.1
theorem WkAt.tz (h : WkAt g tb tc T i w W) : Tz W := h.2.1.2.1.below h.2.2.2.1 h.2.1.2.2
theorem WkAt.le (h : WkAt g tb tc T i w W) : w.heap.size ≤ W.heap.size := h.2.2.2.1.size
theorem WkAt.glt (h : WkAt g tb tc T i w W) : g < w.heap.size := h.2.2.2.2
theorem WkAt.step (h : WkAt g tb tc T i w W) (k : Below W.heap.size W W2) : WkAt g tb tc T i w W2 := by
  obtain ⟨h1, h2, h3, h4, h5⟩ := h
  have hs := h4.size
  exact ⟨h1.same (k.block g (by omega)), h2, h3.below k hs, h4.trans (k.mono (by omega)), h5⟩
theorem WkAt.drewN (h : WkAt g tb tc T i w W) (n : Nat) : WkAt g tb tc T i w (W.drewN n) := h.step (below_drewN (Below.refl _ _) n)
theorem WkAt.alloc (h : WkAt g tb tc T i w W) (o : Obj) : WkAt g tb tc T i w (W.alloc o) := h.step ((Below.refl _ W).alloc (Nat.le_refl _) o)
theorem WkAt.trans (h : WkAt g tb tc T i w W) (k : WkAt g tb tc T j W W2) : WkAt g tb tc T j w W2 := by
  obtain ⟨h1, h2, h3, h4, h5⟩ := h
  obtain ⟨k1, k2, k3, k4, k5⟩ := k
  exact ⟨k1, h2, h3.trans k3 h4.size, h4.trans k4, h5⟩
theorem WkAt.self (h : WkAt g tb tc T i w W) : WkAt g tb tc T i W W := ⟨h.1, ⟨h.nodes, h.tz, h.2.1.2.2⟩, But.refl _ _, Below.refl _ _, h.1.lt⟩
theorem WkAt.setAt (h : WkAt g tb tc T i w W) (j : Nat) (v : Value) (hv : v = .int .i64 j) : WkAt g tb tc T j w (W.setCell ⟨g, 1, none⟩ v) := by
  obtain ⟨h1, h2, h3, h4, h5⟩ := h
  exact ⟨h1.setAt j v hv, h2, h3.set 1 _, h4.setCell (Nat.le_refl _) _, h5⟩
theorem WkAt.setNew (h : WkAt g tb tc T i w W) {N : Nat} (hN : w.heap.size ≤ N) (o : Nat) (v : Value) : WkAt g tb tc T i w (W.setCell ⟨N, o, none⟩ v) := by
  obtain ⟨h1, h2, h3, h4, h5⟩ := h
  exact ⟨h1.same (Below.heap_setCell _ _ _ _ (by show g ≠ N; omega)), h2, fun k hk hne => (Below.heap_setCell _ _ _ _ (by show k ≠ N; omega)).trans (h3 k hk hne), h4.setCell (by show g ≤ N; omega) _, h5⟩
end
/-- Expressions that a tree may have. -/
def Ex.good : Ex → Prop
  | .nums l => l ≠ []
  | .name s => M.nameOk s
  | .one o f q r => ((o = 0 ∨ o = 1 ∨ o = 3) ∧ (1 ≤ f ∧ f ≤ 34) ∧ q = 0) ∧ r.good
  | .two l o f q r => ((o = 0 ∨ o = 1 ∨ o = 3) ∧ (1 ≤ f ∧ f ≤ 34) ∧ q = 0) ∧ l.good ∧ r.good
  | .pick e b => e.good ∧ b.good
theorem right_any (e : Ex) (h : e.good) (a : Option Addr) (c : Nat) (w : World) (hT : Tz w) (h8 : 8 ≤ w.heap.size) :
    Calls Tryz.prog 65 #[.agg #[.int .i64 (M.node e).op, .int .i64 (M.node e).ao, .int .i64 (M.node e).af, .int .i64 (M.node e).ag, .int .i64 (M.node e).n, .slice a (M.node e).nums.length c, .string (M.node e).text]] w fun en w' => en = .returned (.bool true) ∧ Below w.heap.size w w' := by
  cases e with
  | nums l => exact right_nums l h a c w
  | name s => exact right_name s h a c w hT h8
  | one o f q r => obtain ⟨⟨h1, h2, rfl⟩, -⟩ := h; exact right_act 6 (.inl rfl) o f h1 h2 a c w
  | two l o f q r => obtain ⟨⟨h1, h2, rfl⟩, -⟩ := h; exact right_act 7 (.inr rfl) o f h1 h2 a c w
  | pick e b => exact right_pick a c w
/-- What the walker's call does at an expression. -/
def WexOk (e : Ex) : Prop := ∀ (g tb tc : Nat) (T pre post : List Nd) (w : World) (i j : Nat), WkAt g tb tc T i w w → i = pre.length → j = i + (M.flat e).length → T = pre ++ (M.flat e ++ post) → T.length ≤ 400 →
  Calls Tryz.prog 66 #[.pointer (some ⟨g, 0, none⟩)] w fun en w' => ∃ X x, en = .returned (.iface X x) ∧ WkAt g tb tc T j w w'
theorem held9 {w w' : World} {g tb i : Nat} {v0 v1 v2 v3 v4 v5 v6 v7 v8 : Value} (hb : Below w.heap.size w w') (h : w.cell? ⟨g, 0, none⟩ = some v0 ∧ w.cell? ⟨g, 1, none⟩ = some v1 ∧ w.cell? ⟨tb, i * 7, none⟩ = some v2 ∧ w.cell? ⟨tb, i * 7 + 1, none⟩ = some v3 ∧ w.cell? ⟨tb, i * 7 + 2, none⟩ = some v4 ∧ w.cell? ⟨tb, i * 7 + 3, none⟩ = some v5 ∧ w.cell? ⟨tb, i * 7 + 4, none⟩ = some v6 ∧ w.cell? ⟨tb, i * 7 + 5, none⟩ = some v7 ∧ w.cell? ⟨tb, i * 7 + 6, none⟩ = some v8) : w'.cell? ⟨g, 0, none⟩ = some v0 ∧ w'.cell? ⟨g, 1, none⟩ = some v1 ∧ w'.cell? ⟨tb, i * 7, none⟩ = some v2 ∧ w'.cell? ⟨tb, i * 7 + 1, none⟩ = some v3 ∧ w'.cell? ⟨tb, i * 7 + 2, none⟩ = some v4 ∧ w'.cell? ⟨tb, i * 7 + 3, none⟩ = some v5 ∧ w'.cell? ⟨tb, i * 7 + 4, none⟩ = some v6 ∧ w'.cell? ⟨tb, i * 7 + 5, none⟩ = some v7 ∧ w'.cell? ⟨tb, i * 7 + 6, none⟩ = some v8 := by
  have k : ∀ {x : Addr} {v : Value}, w.cell? x = some v → w'.cell? x = some v := fun h => (hb.cell (World.block_lt_of_cell? w _ h)).trans h
  obtain ⟨h0, h1, h2, h3, h4, h5, h6, h7, h8⟩ := h
  exact ⟨k h0, k h1, k h2, k h3, k h4, k h5, k h6, k h7, k h8⟩

set_option maxRecDepth 20000 in
set_option maxHeartbeats 8000000 in
theorem wex_nums (l : List Int) (hl0 : l ≠ []) : WexOk (.nums l) := by
  intro g tb tc T pre post w i j hE hi hj hsp hl
  have hnode : T[i]? = some (⟨1, 0, 0, 0, 0, l, ⟨#[]⟩⟩ : Nd) := by rw [hsp, hi, List.getElem?_append_right (Nat.le_refl _), Nat.sub_self]; rfl
  obtain ⟨a0, cc, t0, t1, t2, t3, t4, t5, t6, rn, on⟩ := hE.nodes.2 _ _ hnode
  have hlt : i < T.length := (List.getElem?_eq_some_iff.1 hnode).1
  obtain ⟨⟨c0, c1, -⟩, d1⟩ := id hE.1
  skip
  obtain ⟨nl, hnl⟩ : ∃ nl, nl = T.length := ⟨_, rfl⟩
  rw [← hnl] at c0 hlt hl
  have kr := fun W hT h8 => right_any (.nums l) hl0 a0 cc W hT h8
  dsimp only [M.node, List.length_nil] at kr t0 t1 t2 t3 t4 t5 t6
  obtain ⟨LL, hLL⟩ : ∃ LL, LL = l.length := ⟨_, rfl⟩
  rw [← hLL] at kr t5
  replace hLL := Lib.hid hLL
  have zge : decide (((nl : Nat) : Int) ≤ ((i : Nat) : Int)) = false := decide_eq_false (by omega)
  have zge2 : decide (nl ≤ i) = false := decide_eq_false (by omega)
  have z0 : (0 : Int) ≤ ((i : Nat) : Int) := by omega
  have z1 : ((i : Nat) : Int) < ((nl : Nat) : Int) := by omega
  have zz : ((i : Nat) : Int).toNat = i := by simp
  have hi4 : i ≤ 400 := by omega
  have gl := hE.glt
  have g8 : 8 ≤ g := hE.2.1.2.2
  have SS : w.drew.cell? ⟨g, 0, none⟩ = some (.slice (some ⟨tb, 0, none⟩) nl tc) ∧ w.drew.cell? ⟨g, 1, none⟩ = some (.int .i64 i) ∧ w.drew.cell? ⟨tb, i * 7, none⟩ = some (.int .i64 1) ∧ w.drew.cell? ⟨tb, i * 7 + 1, none⟩ = some (.int .i64 0) ∧ w.drew.cell? ⟨tb, i * 7 + 2, none⟩ = some (.int .i64 0) ∧ w.drew.cell? ⟨tb, i * 7 + 3, none⟩ = some (.int .i64 0) ∧ w.drew.cell? ⟨tb, i * 7 + 4, none⟩ = some (.int .i64 0) ∧ w.drew.cell? ⟨tb, i * 7 + 5, none⟩ = some (.slice a0 LL cc) ∧ w.drew.cell? ⟨tb, i * 7 + 6, none⟩ = some (.string ⟨#[]⟩) := ⟨c0, c1, t0, t1, t2, t3, t4, t5, t6⟩
  replace kr := Lib.hid kr
  replace hE := Lib.hid hE
  replace hnl := Lib.hid hnl
  replace hsp := Lib.hid hsp
  replace hi := Lib.hid hi
  replace hj := Lib.hid hj
  replace hnode := Lib.hid hnode
  replace rn := Lib.hid rn
  replace on := Lib.hid on
  replace d1 := Lib.hid d1
  clear c0 c1 t0 t1 t2 t3 t4 t5 t6
  go_enter Tryz.func66, Tryz.ntmps66
  go_upto_region 1 with fail
  go_region_held3 (fun W => W.cell? ⟨g, 0, none⟩ = some (.slice (some ⟨tb, 0, none⟩) nl tc) ∧ W.cell? ⟨g, 1, none⟩ = some (.int .i64 i) ∧ W.cell? ⟨tb, i * 7, none⟩ = some (.int .i64 1) ∧ W.cell? ⟨tb, i * 7 + 1, none⟩ = some (.int .i64 0) ∧ W.cell? ⟨tb, i * 7 + 2, none⟩ = some (.int .i64 0) ∧ W.cell? ⟨tb, i * 7 + 3, none⟩ = some (.int .i64 0) ∧ W.cell? ⟨tb, i * 7 + 4, none⟩ = some (.int .i64 0) ∧ W.cell? ⟨tb, i * 7 + 5, none⟩ = some (.slice a0 LL cc) ∧ W.cell? ⟨tb, i * 7 + 6, none⟩ = some (.string ⟨#[]⟩))
    (first | (with_reducible assumption) | (exact held9 hb (by with_reducible assumption)) | go_keep)
    ((go_at_call 65; refine (kr.out w.drew (show Tz w.drew from (hE.out.drewN 1).tz) (by show 8 ≤ w.heap.size; omega)).mono ?_; rintro en w2 ⟨rfl, hb⟩))
  have E2 := Lib.hid ((show WkAt g tb tc T i w w.drew from hE.out.drewN 1).step hb)
  have S2 := held9 hb SS
  have gl2 : g < w2.heap.size := E2.out.1.lt
  have tl2 : tb < w2.heap.size := World.block_lt_of_cell? _ _ S2.2.2.1
  have wl2 : w.heap.size ≤ w2.heap.size := E2.out.le
  have hS : ∀ (ob : Obj), (w2.alloc ob).cell? ⟨g, 0, none⟩ = some (.slice (some ⟨tb, 0, none⟩) nl tc) ∧ (w2.alloc ob).cell? ⟨g, 1, none⟩ = some (.int .i64 i) ∧ (w2.alloc ob).cell? ⟨tb, i * 7, none⟩ = some (.int .i64 1) ∧ (w2.alloc ob).cell? ⟨tb, i * 7 + 1, none⟩ = some (.int .i64 0) ∧ (w2.alloc ob).cell? ⟨tb, i * 7 + 2, none⟩ = some (.int .i64 0) ∧ (w2.alloc ob).cell? ⟨tb, i * 7 + 3, none⟩ = some (.int .i64 0) ∧ (w2.alloc ob).cell? ⟨tb, i * 7 + 4, none⟩ = some (.int .i64 0) ∧ (w2.alloc ob).cell? ⟨tb, i * 7 + 5, none⟩ = some (.slice a0 LL cc) ∧ (w2.alloc ob).cell? ⟨tb, i * 7 + 6, none⟩ = some (.string ⟨#[]⟩) := fun ob =>
    have eg : (w2.alloc ob).heap[g]? = w2.heap[g]? := heap_alloc_old _ _ gl2
    have et : (w2.alloc ob).heap[tb]? = w2.heap[tb]? := heap_alloc_old _ _ tl2
    ⟨(cell_of_eq eg _).trans S2.1, (cell_of_eq eg _).trans S2.2.1, (cell_of_eq et _).trans S2.2.2.1, (cell_of_eq et _).trans S2.2.2.2.1, (cell_of_eq et _).trans S2.2.2.2.2.1, (cell_of_eq et _).trans S2.2.2.2.2.2.1, (cell_of_eq et _).trans S2.2.2.2.2.2.2.1, (cell_of_eq et _).trans S2.2.2.2.2.2.2.2.1, (cell_of_eq et _).trans S2.2.2.2.2.2.2.2.2⟩
  clear hb SS
  obtain ⟨c0, c1, t0, t1, t2, t3, t4, t5, t6⟩ := S2
  obtain ⟨p0, p1, p2, p3, p4, p5, p6, p7, p8⟩ := hS (.cells #[.int .i64 0, .int .i64 0, .int .i64 0, .int .i64 0, .int .i64 0, .slice none 0 0, .string ⟨#[]⟩] 76)
  replace hS := Lib.hid hS
  go_wp2_with fail
  go_region
  have hb3 : Below w2.heap.size w2 (w2.alloc (.cells #[.int .i64 1, .int .i64 0, .int .i64 0, .int .i64 0, .int .i64 0, .slice a0 LL cc, .string ⟨#[]⟩] 76)).drew := ((Below.refl _ w2).alloc (Nat.le_refl _) _).drew
  have N3 : BoxC w2.heap.size [.int .i64 1, .int .i64 0, .int .i64 0, .int .i64 0, .int .i64 0, .slice a0 LL cc, .string ⟨#[]⟩] (w2.alloc (.cells #[.int .i64 1, .int .i64 0, .int .i64 0, .int .i64 0, .int .i64 0, .slice a0 LL cc, .string ⟨#[]⟩] 76)).drew := (boxC_alloc w2 #[.int .i64 1, .int .i64 0, .int .i64 0, .int .i64 0, .int .i64 0, .slice a0 LL cc, .string ⟨#[]⟩] 76).same rfl
  clear p0 p1 p2 p3 p4 p5 p6 p7 p8 t0 t1 t2 t3 t4 t5 t6 c0 c1 hS
  have E3 := E2.out.step hb3
  have ns3 : Hid (w2.heap.size < (w2.alloc (.cells #[.int .i64 1, .int .i64 0, .int .i64 0, .int .i64 0, .int .i64 0, .slice a0 LL cc, .string ⟨#[]⟩] 76)).drew.heap.size) := Lib.hid (by simp)
  generalize (w2.alloc (.cells #[.int .i64 1, .int .i64 0, .int .i64 0, .int .i64 0, .int .i64 0, .slice a0 LL cc, .string ⟨#[]⟩] 76)).drew = w3 at *
  obtain ⟨⟨c0, c1, -⟩, d1'⟩ := id E3.1
  have E4 := Lib.hid (E3.setAt (i + 1) (.int .i64 ((i : Nat) + 1 : Int)) (by simp))
  have ng : g ≠ w2.heap.size := by omega
  obtain ⟨y0, -⟩ := N3 0 _ rfl
  obtain ⟨y1, -⟩ := N3 1 _ rfl
  obtain ⟨y2, -⟩ := N3 2 _ rfl
  obtain ⟨y3, -⟩ := N3 3 _ rfl
  obtain ⟨y4, -⟩ := N3 4 _ rfl
  obtain ⟨y5, -⟩ := N3 5 _ rfl
  obtain ⟨y6, -⟩ := N3 6 _ rfl
  clear hb3 E3 E2 N3
  go_wp2
  go_ret
  exact ⟨_, _, rfl, by rw [hj.out]; exact E4.out⟩

set_option maxRecDepth 20000 in
set_option maxHeartbeats 8000000 in
theorem wex_name (s : ByteArray) (hs : M.nameOk s) : WexOk (.name s) := by
  intro g tb tc T pre post w i j hE hi hj hsp hl
  have hnode : T[i]? = some (⟨3, 0, 0, 0, 0, [], s⟩ : Nd) := by rw [hsp, hi, List.getElem?_append_right (Nat.le_refl _), Nat.sub_self]; rfl
  obtain ⟨a0, cc, t0, t1, t2, t3, t4, t5, t6, rn, on⟩ := hE.nodes.2 _ _ hnode
  have hlt : i < T.length := (List.getElem?_eq_some_iff.1 hnode).1
  obtain ⟨⟨c0, c1, -⟩, d1⟩ := id hE.1
  skip
  obtain ⟨nl, hnl⟩ : ∃ nl, nl = T.length := ⟨_, rfl⟩
  rw [← hnl] at c0 hlt hl
  have kr := fun W hT h8 => right_any (.name s) hs a0 cc W hT h8
  dsimp only [M.node, List.length_nil] at kr t0 t1 t2 t3 t4 t5 t6
  skip
  have zge : decide (((nl : Nat) : Int) ≤ ((i : Nat) : Int)) = false := decide_eq_false (by omega)
  have zge2 : decide (nl ≤ i) = false := decide_eq_false (by omega)
  have z0 : (0 : Int) ≤ ((i : Nat) : Int) := by omega
  have z1 : ((i : Nat) : Int) < ((nl : Nat) : Int) := by omega
  have zz : ((i : Nat) : Int).toNat = i := by simp
  have hi4 : i ≤ 400 := by omega
  have gl := hE.glt
  have g8 : 8 ≤ g := hE.2.1.2.2
  have SS : w.drew.cell? ⟨g, 0, none⟩ = some (.slice (some ⟨tb, 0, none⟩) nl tc) ∧ w.drew.cell? ⟨g, 1, none⟩ = some (.int .i64 i) ∧ w.drew.cell? ⟨tb, i * 7, none⟩ = some (.int .i64 3) ∧ w.drew.cell? ⟨tb, i * 7 + 1, none⟩ = some (.int .i64 0) ∧ w.drew.cell? ⟨tb, i * 7 + 2, none⟩ = some (.int .i64 0) ∧ w.drew.cell? ⟨tb, i * 7 + 3, none⟩ = some (.int .i64 0) ∧ w.drew.cell? ⟨tb, i * 7 + 4, none⟩ = some (.int .i64 0) ∧ w.drew.cell? ⟨tb, i * 7 + 5, none⟩ = some (.slice a0 0 cc) ∧ w.drew.cell? ⟨tb, i * 7 + 6, none⟩ = some (.string s) := ⟨c0, c1, t0, t1, t2, t3, t4, t5, t6⟩
  replace kr := Lib.hid kr
  replace hE := Lib.hid hE
  replace hnl := Lib.hid hnl
  replace hsp := Lib.hid hsp
  replace hi := Lib.hid hi
  replace hj := Lib.hid hj
  replace hnode := Lib.hid hnode
  replace rn := Lib.hid rn
  replace on := Lib.hid on
  replace d1 := Lib.hid d1
  clear c0 c1 t0 t1 t2 t3 t4 t5 t6
  go_enter Tryz.func66, Tryz.ntmps66
  go_upto_region 1 with fail
  go_region_held3 (fun W => W.cell? ⟨g, 0, none⟩ = some (.slice (some ⟨tb, 0, none⟩) nl tc) ∧ W.cell? ⟨g, 1, none⟩ = some (.int .i64 i) ∧ W.cell? ⟨tb, i * 7, none⟩ = some (.int .i64 3) ∧ W.cell? ⟨tb, i * 7 + 1, none⟩ = some (.int .i64 0) ∧ W.cell? ⟨tb, i * 7 + 2, none⟩ = some (.int .i64 0) ∧ W.cell? ⟨tb, i * 7 + 3, none⟩ = some (.int .i64 0) ∧ W.cell? ⟨tb, i * 7 + 4, none⟩ = some (.int .i64 0) ∧ W.cell? ⟨tb, i * 7 + 5, none⟩ = some (.slice a0 0 cc) ∧ W.cell? ⟨tb, i * 7 + 6, none⟩ = some (.string s))
    (first | (with_reducible assumption) | (exact held9 hb (by with_reducible assumption)) | go_keep)
    ((go_at_call 65; refine (kr.out w.drew (show Tz w.drew from (hE.out.drewN 1).tz) (by show 8 ≤ w.heap.size; omega)).mono ?_; rintro en w2 ⟨rfl, hb⟩))
  have E2 := Lib.hid ((show WkAt g tb tc T i w w.drew from hE.out.drewN 1).step hb)
  have S2 := held9 hb SS
  have gl2 : g < w2.heap.size := E2.out.1.lt
  have tl2 : tb < w2.heap.size := World.block_lt_of_cell? _ _ S2.2.2.1
  have wl2 : w.heap.size ≤ w2.heap.size := E2.out.le
  have hS : ∀ (ob : Obj), (w2.alloc ob).cell? ⟨g, 0, none⟩ = some (.slice (some ⟨tb, 0, none⟩) nl tc) ∧ (w2.alloc ob).cell? ⟨g, 1, none⟩ = some (.int .i64 i) ∧ (w2.alloc ob).cell? ⟨tb, i * 7, none⟩ = some (.int .i64 3) ∧ (w2.alloc ob).cell? ⟨tb, i * 7 + 1, none⟩ = some (.int .i64 0) ∧ (w2.alloc ob).cell? ⟨tb, i * 7 + 2, none⟩ = some (.int .i64 0) ∧ (w2.alloc ob).cell? ⟨tb, i * 7 + 3, none⟩ = some (.int .i64 0) ∧ (w2.alloc ob).cell? ⟨tb, i * 7 + 4, none⟩ = some (.int .i64 0) ∧ (w2.alloc ob).cell? ⟨tb, i * 7 + 5, none⟩ = some (.slice a0 0 cc) ∧ (w2.alloc ob).cell? ⟨tb, i * 7 + 6, none⟩ = some (.string s) := fun ob =>
    have eg : (w2.alloc ob).heap[g]? = w2.heap[g]? := heap_alloc_old _ _ gl2
    have et : (w2.alloc ob).heap[tb]? = w2.heap[tb]? := heap_alloc_old _ _ tl2
    ⟨(cell_of_eq eg _).trans S2.1, (cell_of_eq eg _).trans S2.2.1, (cell_of_eq et _).trans S2.2.2.1, (cell_of_eq et _).trans S2.2.2.2.1, (cell_of_eq et _).trans S2.2.2.2.2.1, (cell_of_eq et _).trans S2.2.2.2.2.2.1, (cell_of_eq et _).trans S2.2.2.2.2.2.2.1, (cell_of_eq et _).trans S2.2.2.2.2.2.2.2.1, (cell_of_eq et _).trans S2.2.2.2.2.2.2.2.2⟩
  clear hb SS
  obtain ⟨c0, c1, t0, t1, t2, t3, t4, t5, t6⟩ := S2
  obtain ⟨p0, p1, p2, p3, p4, p5, p6, p7, p8⟩ := hS (.cells #[.int .i64 0, .int .i64 0, .int .i64 0, .int .i64 0, .int .i64 0, .slice none 0 0, .string ⟨#[]⟩] 76)
  replace hS := Lib.hid hS
  go_wp2_with fail
  go_region
  have hb3 : Below w2.heap.size w2 (w2.alloc (.cells #[.int .i64 3, .int .i64 0, .int .i64 0, .int .i64 0, .int .i64 0, .slice a0 0 cc, .string s] 76)).drew := ((Below.refl _ w2).alloc (Nat.le_refl _) _).drew
  have N3 : BoxC w2.heap.size [.int .i64 3, .int .i64 0, .int .i64 0, .int .i64 0, .int .i64 0, .slice a0 0 cc, .string s] (w2.alloc (.cells #[.int .i64 3, .int .i64 0, .int .i64 0, .int .i64 0, .int .i64 0, .slice a0 0 cc, .string s] 76)).drew := (boxC_alloc w2 #[.int .i64 3, .int .i64 0, .int .i64 0, .int .i64 0, .int .i64 0, .slice a0 0 cc, .string s] 76).same rfl
  clear p0 p1 p2 p3 p4 p5 p6 p7 p8 t0 t1 t2 t3 t4 t5 t6 c0 c1 hS
  have E3 := E2.out.step hb3
  have ns3 : Hid (w2.heap.size < (w2.alloc (.cells #[.int .i64 3, .int .i64 0, .int .i64 0, .int .i64 0, .int .i64 0, .slice a0 0 cc, .string s] 76)).drew.heap.size) := Lib.hid (by simp)
  generalize (w2.alloc (.cells #[.int .i64 3, .int .i64 0, .int .i64 0, .int .i64 0, .int .i64 0, .slice a0 0 cc, .string s] 76)).drew = w3 at *
  obtain ⟨⟨c0, c1, -⟩, d1'⟩ := id E3.1
  have E4 := Lib.hid (E3.setAt (i + 1) (.int .i64 ((i : Nat) + 1 : Int)) (by simp))
  have ng : g ≠ w2.heap.size := by omega
  obtain ⟨y0, -⟩ := N3 0 _ rfl
  obtain ⟨y1, -⟩ := N3 1 _ rfl
  obtain ⟨y2, -⟩ := N3 2 _ rfl
  obtain ⟨y3, -⟩ := N3 3 _ rfl
  obtain ⟨y4, -⟩ := N3 4 _ rfl
  obtain ⟨y5, -⟩ := N3 5 _ rfl
  obtain ⟨y6, -⟩ := N3 6 _ rfl
  clear hb3 E3 E2 N3
  go_wp2
  go_ret
  exact ⟨_, _, rfl, by rw [hj.out]; exact E4.out⟩

set_option maxRecDepth 20000 in
set_option maxHeartbeats 8000000 in
theorem wex_one (o f q : Int) (r : Ex) (hg : (Ex.one o f q r).good) (hr : WexOk r) : WexOk (.one o f q r) := by
  intro g tb tc T pre post w i j hE hi hj hsp hl
  have hnode : T[i]? = some (⟨6, o, f, q, 0, [], ⟨#[]⟩⟩ : Nd) := by rw [hsp, hi, List.getElem?_append_right (Nat.le_refl _), Nat.sub_self]; rfl
  obtain ⟨a0, cc, t0, t1, t2, t3, t4, t5, t6, rn, on⟩ := hE.nodes.2 _ _ hnode
  have hlt : i < T.length := (List.getElem?_eq_some_iff.1 hnode).1
  obtain ⟨⟨c0, c1, -⟩, d1⟩ := id hE.1
  obtain ⟨⟨ho3, -, hq⟩, -⟩ := id hg
  have ke := fun W hW => hr g tb tc T (pre ++ [(⟨6, o, f, q, 0, [], ⟨#[]⟩⟩ : Nd)]) post W (i + 1) (i + 1 + (M.flat r).length) hW (by rw [hi]; simp) rfl (by rw [hsp]; simp [M.flat]) hl
  have ej : j = i + 1 + (M.flat r).length := by rw [hj]; simp [M.flat]; omega
  obtain ⟨nl, hnl⟩ : ∃ nl, nl = T.length := ⟨_, rfl⟩
  rw [← hnl] at c0 hlt hl
  have kr := fun W hT h8 => right_any (.one o f q r) hg a0 cc W hT h8
  dsimp only [M.node, List.length_nil] at kr t0 t1 t2 t3 t4 t5 t6
  subst hq
  have eo : ∀ u : Int, u = o → True := fun _ _ => trivial
  clear eo
  replace ke := Lib.hid ke
  replace ho3 := Lib.hid ho3
  replace hg := Lib.hid hg
  replace hj := ej
  clear ej
  have zge : decide (((nl : Nat) : Int) ≤ ((i : Nat) : Int)) = false := decide_eq_false (by omega)
  have zge2 : decide (nl ≤ i) = false := decide_eq_false (by omega)
  have z0 : (0 : Int) ≤ ((i : Nat) : Int) := by omega
  have z1 : ((i : Nat) : Int) < ((nl : Nat) : Int) := by omega
  have zz : ((i : Nat) : Int).toNat = i := by simp
  have hi4 : i ≤ 400 := by omega
  have gl := hE.glt
  have g8 : 8 ≤ g := hE.2.1.2.2
  have SS : w.drew.cell? ⟨g, 0, none⟩ = some (.slice (some ⟨tb, 0, none⟩) nl tc) ∧ w.drew.cell? ⟨g, 1, none⟩ = some (.int .i64 i) ∧ w.drew.cell? ⟨tb, i * 7, none⟩ = some (.int .i64 6) ∧ w.drew.cell? ⟨tb, i * 7 + 1, none⟩ = some (.int .i64 o) ∧ w.drew.cell? ⟨tb, i * 7 + 2, none⟩ = some (.int .i64 f) ∧ w.drew.cell? ⟨tb, i * 7 + 3, none⟩ = some (.int .i64 0) ∧ w.drew.cell? ⟨tb, i * 7 + 4, none⟩ = some (.int .i64 0) ∧ w.drew.cell? ⟨tb, i * 7 + 5, none⟩ = some (.slice a0 0 cc) ∧ w.drew.cell? ⟨tb, i * 7 + 6, none⟩ = some (.string ⟨#[]⟩) := ⟨c0, c1, t0, t1, t2, t3, t4, t5, t6⟩
  replace kr := Lib.hid kr
  replace hE := Lib.hid hE
  replace hnl := Lib.hid hnl
  replace hsp := Lib.hid hsp
  replace hi := Lib.hid hi
  replace hj := Lib.hid hj
  replace hnode := Lib.hid hnode
  replace rn := Lib.hid rn
  replace on := Lib.hid on
  replace d1 := Lib.hid d1
  clear c0 c1 t0 t1 t2 t3 t4 t5 t6
  go_enter Tryz.func66, Tryz.ntmps66
  go_upto_region 1 with fail
  go_region_held3 (fun W => W.cell? ⟨g, 0, none⟩ = some (.slice (some ⟨tb, 0, none⟩) nl tc) ∧ W.cell? ⟨g, 1, none⟩ = some (.int .i64 i) ∧ W.cell? ⟨tb, i * 7, none⟩ = some (.int .i64 6) ∧ W.cell? ⟨tb, i * 7 + 1, none⟩ = some (.int .i64 o) ∧ W.cell? ⟨tb, i * 7 + 2, none⟩ = some (.int .i64 f) ∧ W.cell? ⟨tb, i * 7 + 3, none⟩ = some (.int .i64 0) ∧ W.cell? ⟨tb, i * 7 + 4, none⟩ = some (.int .i64 0) ∧ W.cell? ⟨tb, i * 7 + 5, none⟩ = some (.slice a0 0 cc) ∧ W.cell? ⟨tb, i * 7 + 6, none⟩ = some (.string ⟨#[]⟩))
    (first | (with_reducible assumption) | (exact held9 hb (by with_reducible assumption)) | go_keep)
    ((go_at_call 65; refine (kr.out w.drew (show Tz w.drew from (hE.out.drewN 1).tz) (by show 8 ≤ w.heap.size; omega)).mono ?_; rintro en w2 ⟨rfl, hb⟩))
  have E2 := Lib.hid ((show WkAt g tb tc T i w w.drew from hE.out.drewN 1).step hb)
  have S2 := held9 hb SS
  have gl2 : g < w2.heap.size := E2.out.1.lt
  have tl2 : tb < w2.heap.size := World.block_lt_of_cell? _ _ S2.2.2.1
  have wl2 : w.heap.size ≤ w2.heap.size := E2.out.le
  have hS : ∀ (ob : Obj), (w2.alloc ob).cell? ⟨g, 0, none⟩ = some (.slice (some ⟨tb, 0, none⟩) nl tc) ∧ (w2.alloc ob).cell? ⟨g, 1, none⟩ = some (.int .i64 i) ∧ (w2.alloc ob).cell? ⟨tb, i * 7, none⟩ = some (.int .i64 6) ∧ (w2.alloc ob).cell? ⟨tb, i * 7 + 1, none⟩ = some (.int .i64 o) ∧ (w2.alloc ob).cell? ⟨tb, i * 7 + 2, none⟩ = some (.int .i64 f) ∧ (w2.alloc ob).cell? ⟨tb, i * 7 + 3, none⟩ = some (.int .i64 0) ∧ (w2.alloc ob).cell? ⟨tb, i * 7 + 4, none⟩ = some (.int .i64 0) ∧ (w2.alloc ob).cell? ⟨tb, i * 7 + 5, none⟩ = some (.slice a0 0 cc) ∧ (w2.alloc ob).cell? ⟨tb, i * 7 + 6, none⟩ = some (.string ⟨#[]⟩) := fun ob =>
    have eg : (w2.alloc ob).heap[g]? = w2.heap[g]? := heap_alloc_old _ _ gl2
    have et : (w2.alloc ob).heap[tb]? = w2.heap[tb]? := heap_alloc_old _ _ tl2
    ⟨(cell_of_eq eg _).trans S2.1, (cell_of_eq eg _).trans S2.2.1, (cell_of_eq et _).trans S2.2.2.1, (cell_of_eq et _).trans S2.2.2.2.1, (cell_of_eq et _).trans S2.2.2.2.2.1, (cell_of_eq et _).trans S2.2.2.2.2.2.1, (cell_of_eq et _).trans S2.2.2.2.2.2.2.1, (cell_of_eq et _).trans S2.2.2.2.2.2.2.2.1, (cell_of_eq et _).trans S2.2.2.2.2.2.2.2.2⟩
  clear hb SS
  obtain ⟨c0, c1, t0, t1, t2, t3, t4, t5, t6⟩ := S2
  obtain ⟨p0, p1, p2, p3, p4, p5, p6, p7, p8⟩ := hS (.cells #[.int .i64 0, .int .i64 0, .int .i64 0, .int .i64 0, .int .i64 0, .slice none 0 0, .string ⟨#[]⟩] 76)
  replace hS := Lib.hid hS
  go_wp2_with fail
  go_region
  have hb3 : Below w2.heap.size w2 (w2.alloc (.cells #[.int .i64 6, .int .i64 o, .int .i64 f, .int .i64 0, .int .i64 0, .slice a0 0 cc, .string ⟨#[]⟩] 76)).drew := ((Below.refl _ w2).alloc (Nat.le_refl _) _).drew
  have N3 : BoxC w2.heap.size [.int .i64 6, .int .i64 o, .int .i64 f, .int .i64 0, .int .i64 0, .slice a0 0 cc, .string ⟨#[]⟩] (w2.alloc (.cells #[.int .i64 6, .int .i64 o, .int .i64 f, .int .i64 0, .int .i64 0, .slice a0 0 cc, .string ⟨#[]⟩] 76)).drew := (boxC_alloc w2 #[.int .i64 6, .int .i64 o, .int .i64 f, .int .i64 0, .int .i64 0, .slice a0 0 cc, .string ⟨#[]⟩] 76).same rfl
  clear p0 p1 p2 p3 p4 p5 p6 p7 p8 t0 t1 t2 t3 t4 t5 t6 c0 c1 hS
  have E3 := E2.out.step hb3
  have ns3 : Hid (w2.heap.size < (w2.alloc (.cells #[.int .i64 6, .int .i64 o, .int .i64 f, .int .i64 0, .int .i64 0, .slice a0 0 cc, .string ⟨#[]⟩] 76)).drew.heap.size) := Lib.hid (by simp)
  generalize (w2.alloc (.cells #[.int .i64 6, .int .i64 o, .int .i64 f, .int .i64 0, .int .i64 0, .slice a0 0 cc, .string ⟨#[]⟩] 76)).drew = w3 at *
  obtain ⟨⟨c0, c1, -⟩, d1'⟩ := id E3.1
  have E4 := Lib.hid (E3.setAt (i + 1) (.int .i64 ((i : Nat) + 1 : Int)) (by simp))
  have ng : g ≠ w2.heap.size := by omega
  obtain ⟨y0, -⟩ := N3 0 _ rfl
  obtain ⟨y1, -⟩ := N3 1 _ rfl
  obtain ⟨y2, -⟩ := N3 2 _ rfl
  obtain ⟨y3, -⟩ := N3 3 _ rfl
  obtain ⟨y4, -⟩ := N3 4 _ rfl
  obtain ⟨y5, -⟩ := N3 5 _ rfl
  obtain ⟨y6, -⟩ := N3 6 _ rfl
  clear hb3 E3 E2 N3
  have w4x : Hid (w3.heap.size ≤ (w3.setCell ⟨g, 1, none⟩ (.int .i64 ((i : Nat) + 1 : Int))).heap.size) := Lib.hid (by rw [World.size_setCell]; exact Nat.le_refl _)
  go_wp2_with fail
  refine (wfun_any g 6 o f 0 ho3.out a0 cc _).mono ?_
  rintro en w5 ⟨rfl, hb5⟩
  have E5 := E4.out.step hb5
  have hb6 := (Below.refl w5.heap.size w5).alloc (Nat.le_refl _) (.cells #[.int .i64 o, .int .i64 f, .int .i64 0, .int .i64 0, .slice none 0 0] 125)
  have B6 : BoxC w5.heap.size [.int .i64 o, .int .i64 f, .int .i64 0, .int .i64 0, .slice none 0 0] (w5.alloc (.cells #[.int .i64 o, .int .i64 f, .int .i64 0, .int .i64 0, .slice none 0 0] 125)).drew := (boxC_alloc w5 #[.int .i64 o, .int .i64 f, .int .i64 0, .int .i64 0, .slice none 0 0] 125).same rfl
  have E6 := Lib.hid ((E5.step hb6).drewN 1)
  have S6 : (w5.alloc (.cells #[.int .i64 o, .int .i64 f, .int .i64 0, .int .i64 0, .slice none 0 0] 125)).drew.cell? ⟨w5.heap.size, 0, none⟩ = some (.int .i64 o) ∧ (w5.alloc (.cells #[.int .i64 o, .int .i64 f, .int .i64 0, .int .i64 0, .slice none 0 0] 125)).drew.cell? ⟨w5.heap.size, 1, none⟩ = some (.int .i64 f) ∧ (w5.alloc (.cells #[.int .i64 o, .int .i64 f, .int .i64 0, .int .i64 0, .slice none 0 0] 125)).drew.cell? ⟨w5.heap.size, 2, none⟩ = some (.int .i64 0) ∧ (w5.alloc (.cells #[.int .i64 o, .int .i64 f, .int .i64 0, .int .i64 0, .slice none 0 0] 125)).drew.cell? ⟨w5.heap.size, 3, none⟩ = some (.int .i64 0) ∧ (w5.alloc (.cells #[.int .i64 o, .int .i64 f, .int .i64 0, .int .i64 0, .slice none 0 0] 125)).drew.cell? ⟨w5.heap.size, 4, none⟩ = some (.slice none 0 0) := ⟨(B6 0 _ rfl).1, (B6 1 _ rfl).1, (B6 2 _ rfl).1, (B6 3 _ rfl).1, (B6 4 _ rfl).1⟩
  have hgN : g < w5.heap.size := by have := E5.le; omega
  have hlN : w5.heap.size < (w5.alloc (.cells #[.int .i64 o, .int .i64 f, .int .i64 0, .int .i64 0, .slice none 0 0] 125)).drew.heap.size := by simp
  have hN' : w5.heap.size ≠ g := by omega
  clear hb5 hb6 B6 E5 y0 y1 y2 y3 y4 y5 y6 c0 c1
  go_upto_region 18 with fail
  generalize hN : w5.heap.size = N at *
  replace hN := Lib.hid hN
  have E6' : Hid (WkAt g tb tc T (i + 1) w (w5.alloc (.cells #[.int .i64 o, .int .i64 f, .int .i64 0, .int .i64 0, .slice none 0 0] 125)).drew) := E6
  clear E6
  go_region_held3 (fun W => W.cell? ⟨N, 0, none⟩ = some (.int .i64 o) ∧ W.cell? ⟨N, 1, none⟩ = some (.int .i64 f) ∧ W.cell? ⟨N, 2, none⟩ = some (.int .i64 0) ∧ W.cell? ⟨N, 3, none⟩ = some (.int .i64 0) ∧ W.cell? ⟨N, 4, none⟩ = some (.slice none 0 0))
    (first | (with_reducible assumption) | (exact held5 (hP7.2.2.1 N hlN hN') (by with_reducible assumption)) | go_keep)
    ((go_at_call 66; refine (ke.out _ E6'.out.self).mono ?_; rintro en w7 ⟨X7, x7, rfl, hP7⟩))
  go_wp2
  go_ret
  exact ⟨_, _, rfl, by rw [hj.out]; exact E6'.out.trans hP7⟩

set_option maxRecDepth 20000 in
set_option maxHeartbeats 8000000 in
theorem wex_two (l : Ex) (o f q : Int) (r : Ex) (hg : (Ex.two l o f q r).good) (hlx : WexOk l) (hr : WexOk r) : WexOk (.two l o f q r) := by
  intro g tb tc T pre post w i j hE hi hj hsp hl
  have hnode : T[i]? = some (⟨7, o, f, q, 0, [], ⟨#[]⟩⟩ : Nd) := by rw [hsp, hi, List.getElem?_append_right (Nat.le_refl _), Nat.sub_self]; rfl
  obtain ⟨a0, cc, t0, t1, t2, t3, t4, t5, t6, rn, on⟩ := hE.nodes.2 _ _ hnode
  have hlt : i < T.length := (List.getElem?_eq_some_iff.1 hnode).1
  obtain ⟨⟨c0, c1, -⟩, d1⟩ := id hE.1
  obtain ⟨⟨ho3, -, hq⟩, -⟩ := id hg
  have kl := fun W hW => hlx g tb tc T (pre ++ [(⟨7, o, f, q, 0, [], ⟨#[]⟩⟩ : Nd)]) (M.flat r ++ post) W (i + 1) (i + 1 + (M.flat l).length) hW (by rw [hi]; simp) rfl (by rw [hsp]; simp [M.flat]) hl
  have ke := fun W hW => hr g tb tc T (pre ++ (⟨7, o, f, q, 0, [], ⟨#[]⟩⟩ : Nd) :: M.flat l) post W (i + 1 + (M.flat l).length) (i + 1 + (M.flat l).length + (M.flat r).length) hW (by rw [hi]; simp; omega) rfl (by rw [hsp]; simp [M.flat]) hl
  have ej : j = i + 1 + (M.flat l).length + (M.flat r).length := by rw [hj]; simp [M.flat]; omega
  obtain ⟨nl, hnl⟩ : ∃ nl, nl = T.length := ⟨_, rfl⟩
  rw [← hnl] at c0 hlt hl
  have kr := fun W hT h8 => right_any (.two l o f q r) hg a0 cc W hT h8
  dsimp only [M.node, List.length_nil] at kr t0 t1 t2 t3 t4 t5 t6
  subst hq
  replace ke := Lib.hid ke
  replace kl := Lib.hid kl
  replace ho3 := Lib.hid ho3
  replace hg := Lib.hid hg
  replace hj := ej
  clear ej
  have zge : decide (((nl : Nat) : Int) ≤ ((i : Nat) : Int)) = false := decide_eq_false (by omega)
  have zge2 : decide (nl ≤ i) = false := decide_eq_false (by omega)
  have z0 : (0 : Int) ≤ ((i : Nat) : Int) := by omega
  have z1 : ((i : Nat) : Int) < ((nl : Nat) : Int) := by omega
  have zz : ((i : Nat) : Int).toNat = i := by simp
  have hi4 : i ≤ 400 := by omega
  have gl := hE.glt
  have g8 : 8 ≤ g := hE.2.1.2.2
  have SS : w.drew.cell? ⟨g, 0, none⟩ = some (.slice (some ⟨tb, 0, none⟩) nl tc) ∧ w.drew.cell? ⟨g, 1, none⟩ = some (.int .i64 i) ∧ w.drew.cell? ⟨tb, i * 7, none⟩ = some (.int .i64 7) ∧ w.drew.cell? ⟨tb, i * 7 + 1, none⟩ = some (.int .i64 o) ∧ w.drew.cell? ⟨tb, i * 7 + 2, none⟩ = some (.int .i64 f) ∧ w.drew.cell? ⟨tb, i * 7 + 3, none⟩ = some (.int .i64 0) ∧ w.drew.cell? ⟨tb, i * 7 + 4, none⟩ = some (.int .i64 0) ∧ w.drew.cell? ⟨tb, i * 7 + 5, none⟩ = some (.slice a0 0 cc) ∧ w.drew.cell? ⟨tb, i * 7 + 6, none⟩ = some (.string ⟨#[]⟩) := ⟨c0, c1, t0, t1, t2, t3, t4, t5, t6⟩
  replace kr := Lib.hid kr
  replace hE := Lib.hid hE
  replace hnl := Lib.hid hnl
  replace hsp := Lib.hid hsp
  replace hi := Lib.hid hi
  replace hj := Lib.hid hj
  replace hnode := Lib.hid hnode
  replace rn := Lib.hid rn
  replace on := Lib.hid on
  replace d1 := Lib.hid d1
  clear c0 c1 t0 t1 t2 t3 t4 t5 t6
  go_enter Tryz.func66, Tryz.ntmps66
  go_upto_region 1 with fail
  go_region_held3 (fun W => W.cell? ⟨g, 0, none⟩ = some (.slice (some ⟨tb, 0, none⟩) nl tc) ∧ W.cell? ⟨g, 1, none⟩ = some (.int .i64 i) ∧ W.cell? ⟨tb, i * 7, none⟩ = some (.int .i64 7) ∧ W.cell? ⟨tb, i * 7 + 1, none⟩ = some (.int .i64 o) ∧ W.cell? ⟨tb, i * 7 + 2, none⟩ = some (.int .i64 f) ∧ W.cell? ⟨tb, i * 7 + 3, none⟩ = some (.int .i64 0) ∧ W.cell? ⟨tb, i * 7 + 4, none⟩ = some (.int .i64 0) ∧ W.cell? ⟨tb, i * 7 + 5, none⟩ = some (.slice a0 0 cc) ∧ W.cell? ⟨tb, i * 7 + 6, none⟩ = some (.string ⟨#[]⟩))
    (first | (with_reducible assumption) | (exact held9 hb (by with_reducible assumption)) | go_keep)
    ((go_at_call 65; refine (kr.out w.drew (show Tz w.drew from (hE.out.drewN 1).tz) (by show 8 ≤ w.heap.size; omega)).mono ?_; rintro en w2 ⟨rfl, hb⟩))
  have E2 := Lib.hid ((show WkAt g tb tc T i w w.drew from hE.out.drewN 1).step hb)
  have S2 := held9 hb SS
  have gl2 : g < w2.heap.size := E2.out.1.lt
  have tl2 : tb < w2.heap.size := World.block_lt_of_cell? _ _ S2.2.2.1
  have wl2 : w.heap.size ≤ w2.heap.size := E2.out.le
  have hS : ∀ (ob : Obj), (w2.alloc ob).cell? ⟨g, 0, none⟩ = some (.slice (some ⟨tb, 0, none⟩) nl tc) ∧ (w2.alloc ob).cell? ⟨g, 1, none⟩ = some (.int .i64 i) ∧ (w2.alloc ob).cell? ⟨tb, i * 7, none⟩ = some (.int .i64 7) ∧ (w2.alloc ob).cell? ⟨tb, i * 7 + 1, none⟩ = some (.int .i64 o) ∧ (w2.alloc ob).cell? ⟨tb, i * 7 + 2, none⟩ = some (.int .i64 f) ∧ (w2.alloc ob).cell? ⟨tb, i * 7 + 3, none⟩ = some (.int .i64 0) ∧ (w2.alloc ob).cell? ⟨tb, i * 7 + 4, none⟩ = some (.int .i64 0) ∧ (w2.alloc ob).cell? ⟨tb, i * 7 + 5, none⟩ = some (.slice a0 0 cc) ∧ (w2.alloc ob).cell? ⟨tb, i * 7 + 6, none⟩ = some (.string ⟨#[]⟩) := fun ob =>
    have eg : (w2.alloc ob).heap[g]? = w2.heap[g]? := heap_alloc_old _ _ gl2
    have et : (w2.alloc ob).heap[tb]? = w2.heap[tb]? := heap_alloc_old _ _ tl2
    ⟨(cell_of_eq eg _).trans S2.1, (cell_of_eq eg _).trans S2.2.1, (cell_of_eq et _).trans S2.2.2.1, (cell_of_eq et _).trans S2.2.2.2.1, (cell_of_eq et _).trans S2.2.2.2.2.1, (cell_of_eq et _).trans S2.2.2.2.2.2.1, (cell_of_eq et _).trans S2.2.2.2.2.2.2.1, (cell_of_eq et _).trans S2.2.2.2.2.2.2.2.1, (cell_of_eq et _).trans S2.2.2.2.2.2.2.2.2⟩
  clear hb SS
  obtain ⟨c0, c1, t0, t1, t2, t3, t4, t5, t6⟩ := S2
  obtain ⟨p0, p1, p2, p3, p4, p5, p6, p7, p8⟩ := hS (.cells #[.int .i64 0, .int .i64 0, .int .i64 0, .int .i64 0, .int .i64 0, .slice none 0 0, .string ⟨#[]⟩] 76)
  replace hS := Lib.hid hS
  go_wp2_with fail
  go_region
  have hb3 : Below w2.heap.size w2 (w2.alloc (.cells #[.int .i64 7, .int .i64 o, .int .i64 f, .int .i64 0, .int .i64 0, .slice a0 0 cc, .string ⟨#[]⟩] 76)).drew := ((Below.refl _ w2).alloc (Nat.le_refl _) _).drew
  have N3 : BoxC w2.heap.size [.int .i64 7, .int .i64 o, .int .i64 f, .int .i64 0, .int .i64 0, .slice a0 0 cc, .string ⟨#[]⟩] (w2.alloc (.cells #[.int .i64 7, .int .i64 o, .int .i64 f, .int .i64 0, .int .i64 0, .slice a0 0 cc, .string ⟨#[]⟩] 76)).drew := (boxC_alloc w2 #[.int .i64 7, .int .i64 o, .int .i64 f, .int .i64 0, .int .i64 0, .slice a0 0 cc, .string ⟨#[]⟩] 76).same rfl
  clear p0 p1 p2 p3 p4 p5 p6 p7 p8 t0 t1 t2 t3 t4 t5 t6 c0 c1 hS
  have E3 := E2.out.step hb3
  have ns3 : Hid (w2.heap.size < (w2.alloc (.cells #[.int .i64 7, .int .i64 o, .int .i64 f, .int .i64 0, .int .i64 0, .slice a0 0 cc, .string ⟨#[]⟩] 76)).drew.heap.size) := Lib.hid (by simp)
  generalize (w2.alloc (.cells #[.int .i64 7, .int .i64 o, .int .i64 f, .int .i64 0, .int .i64 0, .slice a0 0 cc, .string ⟨#[]⟩] 76)).drew = w3 at *
  obtain ⟨⟨c0, c1, -⟩, d1'⟩ := id E3.1
  have E4 := Lib.hid (E3.setAt (i + 1) (.int .i64 ((i : Nat) + 1 : Int)) (by simp))
  have ng : g ≠ w2.heap.size := by omega
  obtain ⟨y0, -⟩ := N3 0 _ rfl
  obtain ⟨y1, -⟩ := N3 1 _ rfl
  obtain ⟨y2, -⟩ := N3 2 _ rfl
  obtain ⟨y3, -⟩ := N3 3 _ rfl
  obtain ⟨y4, -⟩ := N3 4 _ rfl
  obtain ⟨y5, -⟩ := N3 5 _ rfl
  obtain ⟨y6, -⟩ := N3 6 _ rfl
  have N3x := Lib.hid N3
  clear hb3 E3 E2 N3
  have B3z : True := trivial
  clear B3z
  obtain ⟨w4, hw4⟩ : ∃ w4 : World, w4 = w3.setCell ⟨g, 1, none⟩ (.int .i64 ((i : Nat) + 1 : Int)) := ⟨_, rfl⟩
  have N4 : BoxC w2.heap.size [.int .i64 7, .int .i64 o, .int .i64 f, .int .i64 0, .int .i64 0, .slice a0 0 cc, .string ⟨#[]⟩] w4 := by rw [hw4]; exact N3x.out.far _ ng _
  have ns4 : Hid (w2.heap.size < w4.heap.size) := Lib.hid (by rw [hw4, World.size_setCell]; exact ns3.out)
  rw [← hw4] at E4
  have hw4' := Lib.hid hw4.symm
  replace hw4 := Lib.hid hw4
  replace N4 := Lib.hid N4
  go_wp2_with fail
  rw [hw4'.out]
  refine (kl.out _ E4.out.self).mono ?_
  rintro en w8 ⟨X8, x8, rfl, hP8⟩
  clear y0 y1 y2 y3 y4 y5 y6 c0 c1
  have E8 := Lib.hid (E4.out.trans hP8)
  have N8 := N4.out.but hP8.2.2.1 ns4.out (by omega)
  clear hP8
  obtain ⟨y0, -⟩ := N8 0 _ rfl
  obtain ⟨y1, -⟩ := N8 1 _ rfl
  obtain ⟨y2, -⟩ := N8 2 _ rfl
  obtain ⟨y3, -⟩ := N8 3 _ rfl
  obtain ⟨y4, -⟩ := N8 4 _ rfl
  obtain ⟨y5, -⟩ := N8 5 _ rfl
  obtain ⟨y6, -⟩ := N8 6 _ rfl
  clear N8
  go_wp2_with fail
  refine (wfun_any g 7 o f 0 ho3.out a0 cc _).mono ?_
  rintro en w5 ⟨rfl, hb5⟩
  have E5 := E8.out.step hb5
  have hb6 := (Below.refl w5.heap.size w5).alloc (Nat.le_refl _) (.cells #[.int .i64 o, .int .i64 f, .int .i64 0, .int .i64 0, .slice none 0 0] 125)
  have B6 : BoxC w5.heap.size [.int .i64 o, .int .i64 f, .int .i64 0, .int .i64 0, .slice none 0 0] (w5.alloc (.cells #[.int .i64 o, .int .i64 f, .int .i64 0, .int .i64 0, .slice none 0 0] 125)).drew := (boxC_alloc w5 #[.int .i64 o, .int .i64 f, .int .i64 0, .int .i64 0, .slice none 0 0] 125).same rfl
  have E6 := Lib.hid ((E5.step hb6).drewN 1)
  have S6 : (w5.alloc (.cells #[.int .i64 o, .int .i64 f, .int .i64 0, .int .i64 0, .slice none 0 0] 125)).drew.cell? ⟨w5.heap.size, 0, none⟩ = some (.int .i64 o) ∧ (w5.alloc (.cells #[.int .i64 o, .int .i64 f, .int .i64 0, .int .i64 0, .slice none 0 0] 125)).drew.cell? ⟨w5.heap.size, 1, none⟩ = some (.int .i64 f) ∧ (w5.alloc (.cells #[.int .i64 o, .int .i64 f, .int .i64 0, .int .i64 0, .slice none 0 0] 125)).drew.cell? ⟨w5.heap.size, 2, none⟩ = some (.int .i64 0) ∧ (w5.alloc (.cells #[.int .i64 o, .int .i64 f, .int .i64 0, .int .i64 0, .slice none 0 0] 125)).drew.cell? ⟨w5.heap.size, 3, none⟩ = some (.int .i64 0) ∧ (w5.alloc (.cells #[.int .i64 o, .int .i64 f, .int .i64 0, .int .i64 0, .slice none 0 0] 125)).drew.cell? ⟨w5.heap.size, 4, none⟩ = some (.slice none 0 0) := ⟨(B6 0 _ rfl).1, (B6 1 _ rfl).1, (B6 2 _ rfl).1, (B6 3 _ rfl).1, (B6 4 _ rfl).1⟩
  have hgN : g < w5.heap.size := by have := E5.le; omega
  have hlN : w5.heap.size < (w5.alloc (.cells #[.int .i64 o, .int .i64 f, .int .i64 0, .int .i64 0, .slice none 0 0] 125)).drew.heap.size := by simp
  have hN' : w5.heap.size ≠ g := by omega
  clear hb5 hb6 B6 E5 y0 y1 y2 y3 y4 y5 y6
  go_upto_region 22 with fail
  generalize hN : w5.heap.size = N at *
  replace hN := Lib.hid hN
  have E6' : Hid (WkAt g tb tc T (i + 1 + (M.flat l).length) w (w5.alloc (.cells #[.int .i64 o, .int .i64 f, .int .i64 0, .int .i64 0, .slice none 0 0] 125)).drew) := E6
  clear E6
  go_region_held3 (fun W => W.cell? ⟨N, 0, none⟩ = some (.int .i64 o) ∧ W.cell? ⟨N, 1, none⟩ = some (.int .i64 f) ∧ W.cell? ⟨N, 2, none⟩ = some (.int .i64 0) ∧ W.cell? ⟨N, 3, none⟩ = some (.int .i64 0) ∧ W.cell? ⟨N, 4, none⟩ = some (.slice none 0 0))
    (first | (with_reducible assumption) | (exact held5 (hP7.2.2.1 N hlN hN') (by with_reducible assumption)) | go_keep)
    ((go_at_call 66; refine (ke.out _ E6'.out.self).mono ?_; rintro en w7 ⟨X7, x7, rfl, hP7⟩))
  go_wp2
  go_ret
  exact ⟨_, _, rfl, by rw [hj.out]; exact E6'.out.trans hP7⟩

/-- Trees without indices are walked. -/
theorem wex_any (hp : ∀ e b : Ex, e.good → b.good → WexOk e → WexOk b → WexOk (.pick e b)) : ∀ e : Ex, e.good → WexOk e
  | .nums l, h => wex_nums l h
  | .name s, h => wex_name s h
  | .one o f q r, h => wex_one o f q r h (wex_any hp r h.2)
  | .two l o f q r, h => wex_two l o f q r h (wex_any hp l h.2.1) (wex_any hp r h.2.2)
  | .pick e b, h => hp e b h.1 h.2 (wex_any hp e h.1) (wex_any hp b h.2)
end Go.Proofs.YtaplaoelamnoiaaGreatDoor

/- The call acted of a function at one argument, the argument's room being told. Condition: as in the text on acted of one argument. -/
namespace Go.Proofs.YtaplaoelamnoiaaGreatDoor
open Go.RowKit

/-- A function of one array, as a contract, where the array's room is told. -/
def One1C (C : Nat → Prop) (o f g : Int) (x y : Arr) : Prop := ∀ (w : World) (a : Option Addr) (c : Nat) (b : Option Addr) (k : Nat), C k → Row w a x.s → Row w b x.d →
  Calls Tryz.prog 92 #[.agg #[.int .i64 o, .int .i64 f, .int .i64 g], arrV x.ch a x.s.length c b x.d.length k] w fun e w' => ArrPostF (.ok y) w e w'

set_option maxRecDepth 20000 in
set_option maxHeartbeats 4000000 in
theorem acted_oneC (C : Nat → Prop) (env : ByteArray → Option Arr) (o f q : Int) (r : Ex) (x y : Arr) (hr : ValOkC C env r x) (ho : 0 ≤ o ∧ o < 6) (h1 : One1C C o f q x y) : ActOk env (.one o f q r) y := by
  intro g mb tb tc fuel T pre post w hE hsp hl hst hf
  have hnode : T[pre.length]? = some (⟨6, o, f, q, 0, [], ⟨#[]⟩⟩ : Nd) := by rw [hsp, List.getElem?_append_right (Nat.le_refl _), Nat.sub_self]; rfl
  obtain ⟨a0, cc, c0, c1, c2, c3, c4, c5, c6, -, -⟩ := ((hE.alloc (.cells #[.slice none 0 0, .int .i64 0, .int .i64 0, .pointer none, .bool false, .slice none 0 0, .slice none 0 0, .int .i64 0, .pointer (some ⟨g, 0, none⟩)] 101)).alloc (.cells #[.bool false, .slice none 0 0, .slice none 0 0] 24)).nodes.2 _ _ hnode
  dsimp only [List.length_nil] at c0 c1 c2 c3 c4 c5 c6
  have hlt : pre.length < T.length := (List.getElem?_eq_some_iff.1 hnode).1
  obtain ⟨k, hk⟩ : ∃ k, k = pre.length := ⟨_, rfl⟩
  have kr : ∀ W, EvAt g mb tb T env fuel W W → Calls Tryz.prog 41 #[callV g, .slice (some ⟨tb, 0, none⟩) T.length tc, .int .i64 ((k : Int) + 1)] W fun en w' => ValPostC C x g mb tb T env (fuel - M.steps r) W en w' := fun W hW => by
    have h := hr g mb tb tc fuel T (pre ++ [(⟨6, o, f, q, 0, [], ⟨#[]⟩⟩ : Nd)]) post W hW (by rw [hsp]; simp [M.flat]) hl (by simp only [M.steps] at hst; omega) hf
    have e : (((pre ++ [(⟨6, o, f, q, 0, [], ⟨#[]⟩⟩ : Nd)]).length : Nat) : Int) = (k : Int) + 1 := by simp [hk]
    rw [e] at h
    exact h
  rw [← hk] at c0 c1 c2 c3 c4 c5 c6 hlt
  rw [← hk]
  have hk4 : k ≤ 1000 := by omega
  obtain ⟨nl, hnl⟩ : ∃ nl, nl = T.length := ⟨_, rfl⟩
  rw [← hnl] at kr hlt
  rw [← hnl]
  have eo6 : (o == 6) = false := by rw [beq_eq_false_iff_ne]; omega
  have eo7 : (o == 7) = false := by rw [beq_eq_false_iff_ne]; omega
  have z0 : (0 : Int) ≤ ((k : Nat) : Int) := by omega
  have z1 : ((k : Nat) : Int) < ((nl : Nat) : Int) := by omega
  have zz : ((k : Nat) : Int).toNat = k := by simp
  have hB := hE.alloc (.cells #[.slice none 0 0, .int .i64 0, .int .i64 0, .pointer none, .bool false, .slice none 0 0, .slice none 0 0, .int .i64 0, .pointer (some ⟨g, 0, none⟩)] 101)
  have hB := hB.alloc (.cells #[.bool false, .slice none 0 0, .slice none 0 0] 24)
  have hB := hB.alloc (.cells #[.int .i64 6, .int .i64 o, .int .i64 f, .int .i64 q, .int .i64 0, .slice a0 0 cc, .string ⟨#[]⟩] 76)
  have hB := hB.alloc (.cells #[.slice (some ⟨tb, 0, none⟩) nl tc, .int .i64 ((k : Int) + 1), .int .i64 0, .pointer none, .bool false, .slice none 0 0, .slice none 0 0, .int .i64 1, .pointer (some ⟨g, 0, none⟩)] 101)
  obtain ⟨W, hW⟩ : ∃ W : World, W = (((w.alloc (.cells #[.slice none 0 0, .int .i64 0, .int .i64 0, .pointer none, .bool false, .slice none 0 0, .slice none 0 0, .int .i64 0, .pointer (some ⟨g, 0, none⟩)] 101)).alloc (.cells #[.bool false, .slice none 0 0, .slice none 0 0] 24)).alloc (.cells #[.int .i64 6, .int .i64 o, .int .i64 f, .int .i64 q, .int .i64 0, .slice a0 0 cc, .string ⟨#[]⟩] 76)).alloc (.cells #[.slice (some ⟨tb, 0, none⟩) nl tc, .int .i64 ((k : Int) + 1), .int .i64 0, .pointer none, .bool false, .slice none 0 0, .slice none 0 0, .int .i64 1, .pointer (some ⟨g, 0, none⟩)] 101) := ⟨_, rfl⟩
  rw [← hW] at hB
  obtain ⟨bA, bB, bC, bD, sW⟩ := four_boxes _ _ _ _ _ _ _ _ _ W hW
  have gl := hE.glt
  replace bA := Lib.hid bA
  replace bB := Lib.hid bB
  replace bC := Lib.hid bC
  replace bD := Lib.hid bD
  replace sW := Lib.hid sW
  have hW' := Lib.hid hW.symm
  replace hW := Lib.hid hW
  have st : fuel - M.steps r = (fuel - M.steps (.one o f q r)) + 1 := by simp only [M.steps] at hst ⊢; omega
  have hst2 : fuel - M.steps (.one o f q r) < 20000 := by simp only [M.steps] at hst ⊢; omega
  generalize fuel - M.steps (.one o f q r) = F at *
  generalize fuel - M.steps r = F2 at *
  subst st
  replace kr := Lib.hid kr
  replace hE := Lib.hid hE
  replace hsp := Lib.hid hsp
  replace hnl := Lib.hid hnl
  replace hk := Lib.hid hk
  replace hnode := Lib.hid hnode
  replace h1 := Lib.hid h1
  replace hB := Lib.hid hB
  clear hr hst hf hl
  unfold callV
  go_enter Tryz.func68, Tryz.ntmps68
  go_wp2_with fail
  rw [hW'.out]
  refine (kr.out _ hB.out.self).mono ?_
  rintro en w2 ⟨a, c, b, kk, hCk, rfl, ra, rb, oa, ob, E2⟩
  replace hCk := Lib.hid hCk
  clear c0 c1 c2 c3 c4 c5 c6
  have gN : g < w.heap.size := gl
  have A2 := Lib.hid (bA.out.but E2.2.2.1 (by have := sW.out; omega) (by omega))
  have B2 := Lib.hid (bB.out.but E2.2.2.1 (by have := sW.out; omega) (by omega))
  have C2 := Lib.hid (bC.out.but E2.2.2.1 (by have := sW.out; omega) (by omega))
  have D2 := Lib.hid (bD.out.but E2.2.2.1 (by have := sW.out; omega) (by omega))
  have F2 := hB.out.trans E2
  have oa3 : Off (w.heap.size + 1 + 1 + 1) a x.s := oa.off (by omega) (by have := sW.out; omega)
  have ob3 : Off (w.heap.size + 1 + 1 + 1) b x.d := ob.off (by omega) (by have := sW.out; omega)
  have oag : Off g a x.s := oa.off (by omega) (by have := sW.out; omega)
  have obg : Off g b x.d := ob.off (by omega) (by have := sW.out; omega)
  replace ra := Lib.hid ra
  replace rb := Lib.hid rb
  replace oa3 := Lib.hid oa3
  replace ob3 := Lib.hid ob3
  replace oag := Lib.hid oag
  replace obg := Lib.hid obg
  replace F2 := Lib.hid F2
  clear oa ob E2
  have hs2 : Hid (w.heap.size + 1 + 1 + 1 < w2.heap.size) := Lib.hid (D2.out.lt 0 _ rfl)
  obtain ⟨y0, x0⟩ := A2.out 8 _ rfl
  obtain ⟨y1, x1⟩ := C2.out 0 _ rfl
  obtain ⟨y4, x4⟩ := D2.out 4 _ rfl
  obtain ⟨y5, x5⟩ := D2.out 5 _ rfl
  obtain ⟨y6, x6⟩ := D2.out 6 _ rfl
  go_wp2_with fail
  have A3 := Lib.hid (((A2.out.far ⟨w.heap.size + 1 + 1 + 1, 4, none⟩ (by show w.heap.size + 1 + 1 + 1 ≠ w.heap.size; omega) (.bool x.ch)).far ⟨w.heap.size + 1 + 1 + 1, 5, none⟩ (by show w.heap.size + 1 + 1 + 1 ≠ w.heap.size; omega) (.slice a x.s.length c)).far ⟨w.heap.size + 1 + 1 + 1, 6, none⟩ (by show w.heap.size + 1 + 1 + 1 ≠ w.heap.size; omega) (.slice b x.d.length kk))
  have B3 := Lib.hid (((B2.out.far ⟨w.heap.size + 1 + 1 + 1, 4, none⟩ (by show w.heap.size + 1 + 1 + 1 ≠ w.heap.size + 1; omega) (.bool x.ch)).far ⟨w.heap.size + 1 + 1 + 1, 5, none⟩ (by show w.heap.size + 1 + 1 + 1 ≠ w.heap.size + 1; omega) (.slice a x.s.length c)).far ⟨w.heap.size + 1 + 1 + 1, 6, none⟩ (by show w.heap.size + 1 + 1 + 1 ≠ w.heap.size + 1; omega) (.slice b x.d.length kk))
  have C3 := Lib.hid (((C2.out.far ⟨w.heap.size + 1 + 1 + 1, 4, none⟩ (by show w.heap.size + 1 + 1 + 1 ≠ w.heap.size + 1 + 1; omega) (.bool x.ch)).far ⟨w.heap.size + 1 + 1 + 1, 5, none⟩ (by show w.heap.size + 1 + 1 + 1 ≠ w.heap.size + 1 + 1; omega) (.slice a x.s.length c)).far ⟨w.heap.size + 1 + 1 + 1, 6, none⟩ (by show w.heap.size + 1 + 1 + 1 ≠ w.heap.size + 1 + 1; omega) (.slice b x.d.length kk))
  have D3 := Lib.hid (((D2.out.put 4 (by simp) (.bool x.ch)).put 5 (by simp) (.slice a x.s.length c)).put 6 (by simp) (.slice b x.d.length kk))
  have F3 := Lib.hid (((F2.out.setNew (N := w.heap.size + 1 + 1 + 1) (by omega) 4 (.bool x.ch)).setNew (N := w.heap.size + 1 + 1 + 1) (by omega) 5 (.slice a x.s.length c)).setNew (N := w.heap.size + 1 + 1 + 1) (by omega) 6 (.slice b x.d.length kk))
  have ra3 := Lib.hid (ra.out.but (But.set3 4 5 6 (.bool x.ch) (.slice a x.s.length c) (.slice b x.d.length kk)) oa3.out)
  have rb3 := Lib.hid (rb.out.but (But.set3 4 5 6 (.bool x.ch) (.slice a x.s.length c) (.slice b x.d.length kk)) ob3.out)
  have hs3 : Hid (w.heap.size + 1 + 1 + 1 < (((w2.setCell ⟨w.heap.size + 1 + 1 + 1, 4, none⟩ (.bool x.ch)).setCell ⟨w.heap.size + 1 + 1 + 1, 5, none⟩ (.slice a x.s.length c)).setCell ⟨w.heap.size + 1 + 1 + 1, 6, none⟩ (.slice b x.d.length kk)).heap.size) := Lib.hid (by simp only [World.size_setCell]; exact hs2.out)
  clear y0 x0 y1 x1 y4 x4 y5 x5 y6 x6 A2 B2 C2 D2 F2 ra rb
  generalize ((w2.setCell ⟨w.heap.size + 1 + 1 + 1, 4, none⟩ (.bool x.ch)).setCell ⟨w.heap.size + 1 + 1 + 1, 5, none⟩ (.slice a x.s.length c)).setCell ⟨w.heap.size + 1 + 1 + 1, 6, none⟩ (.slice b x.d.length kk) = w3 at *
  refine (step_any g mb tb T env F _ F3.out.self hst2).mono ?_
  rintro en w4 ⟨rfl, E4⟩
  have A4 := Lib.hid (A3.out.but E4.2.2.1 (by have := hs3.out; omega) (by omega))
  have B4 := Lib.hid (B3.out.but E4.2.2.1 (by have := hs3.out; omega) (by omega))
  have C4 := Lib.hid (C3.out.but E4.2.2.1 (by have := hs3.out; omega) (by omega))
  have D4 := Lib.hid (D3.out.but E4.2.2.1 (by have := hs3.out; omega) (by omega))
  have F4 := Lib.hid (F3.out.trans E4)
  have ra4 := Lib.hid (ra3.out.but E4.2.2.1 oag.out)
  have rb4 := Lib.hid (rb3.out.but E4.2.2.1 obg.out)
  have hs4 : Hid (w.heap.size + 1 + 1 + 1 < w4.heap.size) := Lib.hid (by have := hs3.out; have := E4.2.2.2.1.size; omega)
  clear A3 B3 C3 D3 F3 ra3 rb3 E4
  obtain ⟨y0, x0⟩ := C4.out 0 _ rfl
  obtain ⟨y1, x1⟩ := C4.out 1 _ rfl
  obtain ⟨y2, x2⟩ := C4.out 2 _ rfl
  obtain ⟨y3, x3⟩ := C4.out 3 _ rfl
  obtain ⟨y4, x4⟩ := D4.out 4 _ rfl
  obtain ⟨y5, x5⟩ := D4.out 5 _ rfl
  obtain ⟨y6, x6⟩ := D4.out 6 _ rfl
  go_wp2_with fail
  refine (h1.out _ a c b kk hCk.out ra4.out rb4.out).mono ?_
  intro en w5 hp
  obtain ⟨a5, c5, b5, k5, rfl, r1, r2, f1, f2, -, hb5⟩ := hp.is_ok rfl
  clear hp y0 y1 y2 y3 y4 y5 y6 x0 x1 x2 x3 x4 x5 x6
  replace r1 := Lib.hid r1
  replace r2 := Lib.hid r2
  replace f1 := Lib.hid f1
  replace f2 := Lib.hid f2
  have B5 := Lib.hid (B4.out.same (hb5.block _ (by have := hs4.out; omega)))
  have F5 := Lib.hid (F4.out.step hb5)
  replace hb5 := Lib.hid hb5
  go_wp2_with fail
  refine (must_any y.ch a5 y.s.length c5 b5 y.d.length k5 _).mono ?_
  rintro en w6 ⟨rfl, hb6⟩
  have B6 := B5.out.same (hb6.block _ (by have := hs4.out; have := hb5.out.size; omega))
  have F6 := Lib.hid (F5.out.step hb6)
  have r16 := Lib.hid (r1.out.below hb6)
  have r26 := Lib.hid (r2.out.below hb6)
  clear r1 r2 B5 F5 hb6
  obtain ⟨y0, x0⟩ := B6 0 _ rfl
  obtain ⟨y1, x1⟩ := B6 1 _ rfl
  obtain ⟨y2, x2⟩ := B6 2 _ rfl
  clear B6
  go_wp2
  refine bodyPost_ret (v := arrV y.ch a5 y.s.length c5 b5 y.d.length k5) (by simp [results, Tryz.results68, go_sem, cell?_set_same, arrV, y0, y1, y2]) rfl ?_
  refine ⟨a5, c5, b5, k5, rfl, r16.out.but (But.set3 _ _ _ _ _ _) (fun _ p e => ?_), r26.out.but (But.set3 _ _ _ _ _ _) (fun _ p e => ?_), f1.out.out F4.out.le, f2.out.out F4.out.le, ((F6.out.setNew (by omega) _ _).setNew (by omega) _ _).setNew (by omega) _ _⟩
  · have h1 := f1.out p e
    have := hs4.out
    omega
  · have h1 := f2.out p e
    have := hs4.out
    omega
end Go.Proofs.YtaplaoelamnoiaaGreatDoor
