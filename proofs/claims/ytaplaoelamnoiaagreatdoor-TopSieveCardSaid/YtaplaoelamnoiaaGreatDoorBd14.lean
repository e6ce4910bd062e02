/- Texts that lie in one file: what is plain, rows, boxes, squares, and what is known of a world. No condition. -/
import Derived.Test.YtaplaoelamnoiaaGreatDoorBdT03
import Derived.Test.YtaplaoelamnoiaaGreatDoorBd04
import Derived.Test.YtaplaoelamnoiaaGreatDoorBd07
import Derived.Test.YtaplaoelamnoiaaGreatDoorBd13
import Derived.Deep.RegionHeld3
/- The call eval.Check at names with values that are sound, all names other. Condition: the names and values, and the library's tables lie. -/
namespace Go.Proofs.YtaplaoelamnoiaaGreatDoor
open Go.RowKit

/-- A name with its value. -/
structure Bd where
  name : ByteArray
  x : Arr
/-- Names with values, in a row. -/
def WsAt (A : Option Addr) (l : List Bd) (w : World) : Prop := ∀ (i : Nat) (b : Bd), l[i]? = some b → ∃ (wb : Nat) (a : Option Addr) (c : Nat) (a' : Option Addr) (c' : Nat), A = some ⟨wb, 0, none⟩ ∧
  w.cell? ⟨wb, i * 4, none⟩ = some (.string b.name) ∧ w.cell? ⟨wb, i * 4 + 1, none⟩ = some (.bool b.x.ch) ∧ w.cell? ⟨wb, i * 4 + 2, none⟩ = some (.slice a b.x.s.length c) ∧ w.cell? ⟨wb, i * 4 + 3, none⟩ = some (.slice a' b.x.d.length c') ∧ Row w a b.x.s ∧ Row w a' b.x.d ∧ b.x.d.length ≤ c'
theorem WsAt.below {A : Option Addr} {l : List Bd} {w W : World} (h : WsAt A l w) (hb : Below w.heap.size w W) : WsAt A l W := by
  intro i b hi
  obtain ⟨wb, a, c, a', c', h0, h1, h2, h3, h4, h5, h6, h7⟩ := h i b hi
  have k : ∀ {p : Addr} {v : Value}, w.cell? p = some v → W.cell? p = some v := fun h => (hb.cell (World.block_lt_of_cell? w _ h)).trans h
  exact ⟨wb, a, c, a', c', h0, k h1, k h2, k h3, k h4, h5.below hb, h6.below hb, h7⟩
/-- Names that may be names, no two alike; values that may be. -/
def WsOk (l : List Bd) : Prop := l.length ≤ 20 ∧ (∀ b ∈ l, M.nameOk b.name ∧ b.name.size ≤ 100 ∧ M.flaw b.x.ch b.x.s b.x.d = 0) ∧ ∀ (i j : Nat) (b b' : Bd), l[i]? = some b → l[j]? = some b' → i < j → nameKey b.name ≠ nameKey b'.name
theorem Row.offNew {w : World} {a : Option Addr} {xs : List Int} (h : Row w a xs) {g : Nat} (hg : w.heap.size ≤ g) : Off g a xs := by
  intro hx p e
  obtain ⟨b, off, e2, hc⟩ := h 0 (List.length_pos_iff.2 hx)
  rw [e2] at e
  cases e
  have := World.block_lt_of_cell? w _ hc
  show b ≠ g
  have h2 : b < w.heap.size := this
  omega
theorem zeroInt (w : World) : (zeroValue 3).run Tryz.prog w = .ok (.int .i64 0) w := by kernel_rfl

set_option maxRecDepth 20000 in
set_option maxHeartbeats 8000000 in
theorem wsCheck_any (A : Option Addr) (l : List Bd) (cp : Nat) (w : World) (hW : WsAt A l w) (hok : WsOk l) (hT : Tz w) (h8 : 8 ≤ w.heap.size) :
    Calls Tryz.prog 28 #[.slice A l.length cp] w fun en w' => en = .returned .nilIface ∧ Below w.heap.size w w' := by
  have hmm := @run_makeMap Tryz.prog
  obtain ⟨h20, hgood, hdis⟩ := hok
  have hb1 : Below w.heap.size w (w.alloc (.map #[] 0)) := push (start w) _
  have hown1 : (w.alloc (.map #[] 0)).ownsMap Tryz.prog 9 (plainElem (H := Value) Tryz.prog 3) w.heap.size 0 (.map []) := World.ownsMap_made _ _ _ _
  have sW : (w.alloc (.map #[] 0)).heap.size = w.heap.size + 1 := by simp
  obtain ⟨W, hWe⟩ : ∃ W : World, W = w.alloc (.map #[] 0) := ⟨_, rfl⟩
  rw [← hWe] at hb1 hown1 sW
  have hWW := hW.below hb1
  have hTW := hT.below hb1 h8
  obtain ⟨nl, hnl⟩ : ∃ nl, nl = l.length := ⟨_, rfl⟩
  rw [← hnl] at h20
  rw [← hnl]
  have e0 : decide (20 < ((nl : Nat) : Int)) = false := decide_eq_false (by omega)
  have hWe' := Lib.hid hWe.symm
  replace hWe := Lib.hid hWe
  replace hb1 := Lib.hid hb1
  replace hown1 := Lib.hid hown1
  replace sW := Lib.hid sW
  replace hW := Lib.hid hW
  replace hT := Lib.hid hT
  clear hWW hTW
  replace hnl := Lib.hid hnl
  replace hgood := Lib.hid hgood
  replace hdis := Lib.hid hdis
  go_enter Tryz.func28, Tryz.ntmps28
  go_wp2
  rw [hWe'.out]
  go_loopw [18] (fun v wr => ∃ (i : Nat) (D : DataW Value), v = .int .i64 i ∧ i ≤ nl ∧ wr.ownsMap Tryz.prog 9 (plainElem Tryz.prog 3) w.heap.size i D ∧ (∀ (j : Nat) (b : Bd), i ≤ j → l[j]? = some b → Maps.has D (nameKey b.name) = false) ∧ Below w.heap.size w wr ∧ w.heap.size < wr.heap.size) (fun v _ => nl - (intOf v).toNat)
  case atStart => exact ⟨0, .map [], rfl, Nat.zero_le _, hown1.out, fun _ _ _ _ => rfl, hb1.out, by have := sW.out; omega⟩
  case round =>
    obtain ⟨i, D, rfl, hi, hown, hno, hb, hsz⟩ := hrel
    by_cases hlt : i < nl
    case neg =>
      have hie : i = nl := by omega
      subst hie
      replace hb := Lib.hid hb
      replace hown := Lib.hid hown
      replace hno := Lib.hid hno
      have e1 : decide (((i : Nat) : Int) < ((i : Nat) : Int)) = false := decide_eq_false (by omega)
      go_wp2
      go_ret
      exact ⟨rfl, hb.out⟩
    case pos =>
      have hil : i < l.length := by rw [← hnl.out]; exact hlt
      have hbi : l[i]? = some l[i] := List.getElem?_eq_getElem hil
      obtain ⟨g1, g2, g3⟩ := hgood.out _ (List.getElem_mem hil)
      generalize l[i] = bd at *
      obtain ⟨nm, ⟨ch, s, d⟩⟩ := bd
      dsimp only at g1 g2 g3
      obtain ⟨wb, a, c, a', c', rfl, c0, c1, c2, c3, r1, r2, -⟩ := hW.out i _ hbi
      dsimp only at c0 c1 c2 c3 r1 r2
      have of1 := Lib.hid (r1.offNew (Nat.le_refl _))
      have of2 := Lib.hid (r2.offNew (Nat.le_refl _))
      have kcell : ∀ {p : Addr} {v : Value}, w.cell? p = some v → wr.cell? p = some v := fun h => (hb.cell (World.block_lt_of_cell? w _ h)).trans h
      replace c0 := kcell c0
      replace c1 := kcell c1
      replace c2 := kcell c2
      replace c3 := kcell c3
      replace r1 := r1.below hb
      replace r2 := r2.below hb
      clear kcell
      have hno0 := hno i _ (Nat.le_refl _) hbi
      have hno1 : ∀ (j : Nat) (b : Bd), i + 1 ≤ j → l[j]? = some b → ∀ y, Maps.has (D.put (nameKey nm) y) (nameKey b.name) = false := fun j b hj hb y => by
        rw [Go.Maps.has_put_other (fun e => hdis.out i j _ _ hbi hb (by omega) e.symm)]
        exact hno j b (by omega) hb
      have hTr : Tz wr := hT.out.below hb h8
      have kc := fun W h1 h2 => check_any ch a a' s d s.length c d.length c' W h1 h2 (by have := (flaw_len g3).2; simp only [maxLen]; omega) (by have := (flaw_len g3).1; simp only [maxLen]; omega) rfl rfl
      rw [g3] at kc
      have hb1 : Below wr.heap.size wr ((wr.alloc (.cells #[.string nm, .bool ch, .slice a s.length c, .slice a' d.length c'] 33)).alloc (.cells #[.int .i64 3, .int .i64 0, .int .i64 0, .string nm, .int .i64 0] 82)) := push (push (start wr) _) _
      have bT := boxC_alloc (wr.alloc (.cells #[.string nm, .bool ch, .slice a s.length c, .slice a' d.length c'] 33)) #[.int .i64 3, .int .i64 0, .int .i64 0, .string nm, .int .i64 0] 82
      rw [World.size_alloc] at bT
      have bN : BoxC wr.heap.size [.string nm, .bool ch, .slice a s.length c, .slice a' d.length c'] ((wr.alloc (.cells #[.string nm, .bool ch, .slice a s.length c, .slice a' d.length c'] 33)).alloc (.cells #[.int .i64 3, .int .i64 0, .int .i64 0, .string nm, .int .i64 0] 82)) := (boxC_alloc wr #[.string nm, .bool ch, .slice a s.length c, .slice a' d.length c'] 33).same (heap_alloc_old _ _ (by simp))
      obtain ⟨w2, hw2⟩ : ∃ w2 : World, w2 = (wr.alloc (.cells #[.string nm, .bool ch, .slice a s.length c, .slice a' d.length c'] 33)).alloc (.cells #[.int .i64 3, .int .i64 0, .int .i64 0, .string nm, .int .i64 0] 82) := ⟨_, rfl⟩
      have sw2 : w2.heap.size = wr.heap.size + 1 + 1 := by rw [hw2]; simp
      rw [← hw2] at hb1 bT bN
      have ks := spell_any ⟨3, 0, 0, nm, 0⟩ (wr.heap.size + 1) 0 1 w2 (.inr (.inl ⟨rfl, rfl, rfl, g1⟩)) (hTr.below hb1 (by omega)) (by omega) (fun j u hj => by rw [Nat.zero_add]; exact (bT j u hj).1)
      have hown2 := hown.kept (⟨hb1.os, hb1.tape, hb1.output, hb1.size, fun k hk _ => hb1.block k hk⟩ : wr.grownBy w2 none) (by simp)
      have hkey : keyOf Tryz.prog 9 (.string nm) = some (nameKey nm) := Go.WideMaps.keyOf_string_mk Tryz.underlying9 (by simp only [maxLen]; omega)
      have z0 : (0 : Int) ≤ ((i : Nat) : Int) := by omega
      have z1 : ((i : Nat) : Int) < ((nl : Nat) : Int) := by omega
      have zz : ((i : Nat) : Int).toNat = i := by simp
      have hw2' := Lib.hid hw2.symm
      have r12 := Lib.hid (r1.below hb1)
      have r22 := Lib.hid (r2.below hb1)
      replace hw2 := Lib.hid hw2
      replace hown2 := Lib.hid hown2
      replace bN := Lib.hid bN
      replace hb1 := Lib.hid hb1
      replace ks := Lib.hid ks
      replace kc := Lib.hid kc
      replace hno1 := Lib.hid hno1
      replace hb := Lib.hid hb
      replace hbi := Lib.hid hbi
      replace sw2 := Lib.hid sw2
      replace hsz := Lib.hid hsz
      clear hown hno bT r1 r2 hTr g1 g3
      go_wp2_with fail
      rw [hw2'.out]
      refine ks.out.mono ?_
      rintro en w3 ⟨xs, rfl, hb3⟩
      clear c0 c1 c2 c3
      have bN3 := bN.out.same (hb3.block _ (by have := sw2.out; omega))
      have hown3 := hown2.out.kept (⟨hb3.os, hb3.tape, hb3.output, hb3.size, fun k hk _ => hb3.block k hk⟩ : w2.grownBy w3 none) (by simp)
      have r13 := Lib.hid (r12.out.below hb3)
      have r23 := Lib.hid (r22.out.below hb3)
      have hb13 := Lib.hid (hb1.out.trans (hb3.mono hb1.out.size))
      have hs3 : Hid (wr.heap.size < w3.heap.size) := Lib.hid (by have := hb3.size; have := sw2.out; omega)
      obtain ⟨y0, -⟩ := bN3 0 _ rfl
      obtain ⟨y1, -⟩ := bN3 1 _ rfl
      obtain ⟨y2, -⟩ := bN3 2 _ rfl
      obtain ⟨y3, -⟩ := bN3 3 _ rfl
      replace bN3 := Lib.hid bN3
      replace hown3 := Lib.hid hown3
      clear hb3 r12 r22
      go_wp2_with (first
        | (at_lookup; refine wpList_lookup_own_ok_int _ rfl _ _ 91 rfl 9 3 .i64 nameLaw Tryz.underlying91 Tryz.underlying3 (zeroInt _) w.heap.size i D rfl hown3.out _ _ rfl hkey ?_; rw [hno0]; intro cv _ _)
        | (at_mapUpdate; refine wpList_mapUpdate_own _ rfl _ _ _ 91 rfl 9 3 nameLaw Tryz.underlying91 _ w.heap.size i D rfl hown3.out (by simp only [maxLen]; omega) _ _ _ rfl rfl hkey _ [] (plainElem_int Tryz.underlying3 (WalkArith.wf_i64 (by omega))) ?_; intro w4 hown4 hg4; obtain ⟨y1', -⟩ := (bN3.out.same (hg4.block wr.heap.size (by have := hs3.out; omega) (by simp; have := hsz.out; omega))) 1 _ rfl; obtain ⟨y2', -⟩ := (bN3.out.same (hg4.block wr.heap.size (by have := hs3.out; omega) (by simp; have := hsz.out; omega))) 2 _ rfl; obtain ⟨y3', -⟩ := (bN3.out.same (hg4.block wr.heap.size (by have := hs3.out; omega) (by simp; have := hsz.out; omega))) 3 _ rfl; have hown4 := Lib.hid hown4; have hg4 := Lib.hid hg4)
        | fail)
      have hbut : But w.heap.size w3 w4 := fun b hb hne => hg4.out.block b hb (by simp; exact hne)
      refine (kc.out _ (r13.out.but hbut of1.out) (r23.out.but hbut of2.out)).mono ?_
      rintro en w5 ⟨rfl, hb5⟩
      have hb35 : Below w.heap.size w w5 := ((hb.out.trans (hb13.out.mono (by have := hsz.out; omega))).grown hg4.out (by have := hs3.out; have := hsz.out; omega) (by intro k hk; cases hk; exact Nat.le_refl _)).trans (hb5.mono (by have := hs3.out; have := hsz.out; have := hg4.out.size; omega))
      have hown5 := Lib.hid (hown4.out.kept (⟨hb5.os, hb5.tape, hb5.output, hb5.size, fun k hk _ => hb5.block k hk⟩ : w4.grownBy w5 none) (by simp))
      have hs5 : Hid (w.heap.size < w5.heap.size) := Lib.hid (by have := hsz.out; have := hs3.out; have := hg4.out.size; have := hb5.size; omega)
      replace hb35 := Lib.hid hb35
      clear y1' y2' y3' y0 y1 y2 y3 hbut hb5
      rw [errV_zero]
      go_wp2
      go_roundw
      case rel => exact ⟨i + 1, _, by simp, hlt, hown5.out, fun j b hj hb => hno1.out j b hj hb _, hb35.out, hs5.out⟩
      case measure => simp [intOf]; omega
end Go.Proofs.YtaplaoelamnoiaaGreatDoor

/- The call eval.fresh: an array copied. Condition: rows that lie as lists of ints, not too long. -/
namespace Go.Proofs.YtaplaoelamnoiaaGreatDoor
open Go.RowKit

theorem heldA {w w' : World} {N : Nat} {x y z : Value} (hb : Below w.heap.size w w') (h : w.cell? ⟨N, 0, none⟩ = some x ∧ w.cell? ⟨N, 1, none⟩ = some y ∧ w.cell? ⟨N, 2, none⟩ = some z) : w'.cell? ⟨N, 0, none⟩ = some x ∧ w'.cell? ⟨N, 1, none⟩ = some y ∧ w'.cell? ⟨N, 2, none⟩ = some z := held3 hb h
theorem heldA_set {w : World} {N M : Nat} {x y z p q r : Value} (hN : M ≠ N) (h : w.cell? ⟨N, 0, none⟩ = some x ∧ w.cell? ⟨N, 1, none⟩ = some y ∧ w.cell? ⟨N, 2, none⟩ = some z) :
    (((w.setCell ⟨M, 0, none⟩ p).setCell ⟨M, 1, none⟩ q).setCell ⟨M, 2, none⟩ r).cell? ⟨N, 0, none⟩ = some x ∧ (((w.setCell ⟨M, 0, none⟩ p).setCell ⟨M, 1, none⟩ q).setCell ⟨M, 2, none⟩ r).cell? ⟨N, 1, none⟩ = some y ∧ (((w.setCell ⟨M, 0, none⟩ p).setCell ⟨M, 1, none⟩ q).setCell ⟨M, 2, none⟩ r).cell? ⟨N, 2, none⟩ = some z := by
  have k : ∀ {o : Nat} {v : Value}, w.cell? ⟨N, o, none⟩ = some v → (((w.setCell ⟨M, 0, none⟩ p).setCell ⟨M, 1, none⟩ q).setCell ⟨M, 2, none⟩ r).cell? ⟨N, o, none⟩ = some v := by
    intro o v h
    have e : ∀ j, (⟨M, j, none⟩ : Addr) ≠ ⟨N, o, none⟩ := fun j h => by cases h; omega
    rw [World.cell?_setCell_other _ _ _ _ (e 2), World.cell?_setCell_other _ _ _ _ (e 1), World.cell?_setCell_other _ _ _ _ (e 0)]
    exact h
  exact ⟨k h.1, k h.2.1, k h.2.2⟩

set_option maxRecDepth 20000 in
set_option maxHeartbeats 4000000 in
theorem fresh_any (x : Arr) (a : Option Addr) (c : Nat) (b : Option Addr) (k : Nat) (w : World) (hs : Row w a x.s) (hd : Row w b x.d) (l1 : x.s.length ≤ 100000) (l2 : x.d.length ≤ 100000) :
    Calls Tryz.prog 43 #[arrV x.ch a x.s.length c b x.d.length k] w fun en w' => VecPostF x w en w' := by
  obtain ⟨ch, s, d⟩ := x
  dsimp only at hs hd l1 l2 ⊢
  have hb0 : Below w.heap.size w ((w.alloc (.cells #[.bool ch, .slice a s.length c, .slice b d.length k] 24)).alloc (.cells #[.bool false, .slice none 0 0, .slice none 0 0] 24)).drew := (push (push (start w) _) _).drew
  have bA : BoxC w.heap.size [.bool ch, .slice a s.length c, .slice b d.length k] ((w.alloc (.cells #[.bool ch, .slice a s.length c, .slice b d.length k] 24)).alloc (.cells #[.bool false, .slice none 0 0, .slice none 0 0] 24)).drew := (boxC_alloc w #[.bool ch, .slice a s.length c, .slice b d.length k] 24).same (heap_alloc_old _ _ (by simp))
  have bB := boxC_alloc (w.alloc (.cells #[.bool ch, .slice a s.length c, .slice b d.length k] 24)) #[.bool false, .slice none 0 0, .slice none 0 0] 24
  rw [World.size_alloc] at bB
  obtain ⟨W, hW⟩ : ∃ W : World, W = (w.alloc (.cells #[.bool ch, .slice a s.length c, .slice b d.length k] 24)).alloc (.cells #[.bool false, .slice none 0 0, .slice none 0 0] 24) := ⟨_, rfl⟩
  have sW : W.drew.heap.size = w.heap.size + 1 + 1 := by rw [hW]; simp
  rw [← hW] at hb0 bA bB
  have bB : BoxC (w.heap.size + 1) [.bool false, .slice none 0 0, .slice none 0 0] W.drew := bB
  have SS : W.drew.cell? ⟨w.heap.size, 0, none⟩ = some (.bool ch) ∧ W.drew.cell? ⟨w.heap.size, 1, none⟩ = some (.slice a s.length c) ∧ W.drew.cell? ⟨w.heap.size, 2, none⟩ = some (.slice b d.length k) := ⟨(bA 0 _ rfl).1, (bA 1 _ rfl).1, (bA 2 _ rfl).1⟩
  have k1 := fun W hs => clone_any a s s.length c W hs (by omega) rfl
  have k2 := fun W hd => clone_any b d d.length k W hd (by omega) rfl
  have rs := Lib.hid (hs.below hb0)
  have rd := Lib.hid (hd.below hb0)
  have nn : w.heap.size + 1 ≠ w.heap.size := by omega
  obtain ⟨m, hm⟩ : ∃ m, m = s.length := ⟨_, rfl⟩
  obtain ⟨n, hn⟩ : ∃ n, n = d.length := ⟨_, rfl⟩
  rw [← hm] at SS k1
  rw [← hn] at SS k2
  rw [← hm, ← hn] at hW
  rw [← hm, ← hn]
  have hW' := Lib.hid hW.symm
  replace hW := Lib.hid hW
  replace k1 := Lib.hid k1
  replace k2 := Lib.hid k2
  replace hb0 := Lib.hid hb0
  replace bB := Lib.hid bB
  replace sW := Lib.hid sW
  replace hm := Lib.hid hm
  replace hn := Lib.hid hn
  clear hs hd l1 l2 bA
  go_enter Tryz.func43, Tryz.ntmps43
  go_upto_region 1 with fail
  rw [hW'.out]
  go_region_held3 (fun W => W.cell? ⟨w.heap.size, 0, none⟩ = some (.bool ch) ∧ W.cell? ⟨w.heap.size, 1, none⟩ = some (.slice a m c) ∧ W.cell? ⟨w.heap.size, 2, none⟩ = some (.slice b n k))
    (first | (with_reducible assumption) | (exact heldA hb1 (by with_reducible assumption)) | (exact heldA hb2 (by with_reducible assumption)) | (exact heldA_set nn (by with_reducible assumption)) | go_keep)
    (first
      | (go_at_call_of 72 (Value.slice a m c); refine (k1.out _ rs.out).mono ?_; rintro en w1 ⟨v1, rfl, o1, hb1⟩; obtain ⟨a1, c1, rfl, hc1, -, -⟩ := o1.view; rw [← hm.out] at hc1 ⊢)
      | (go_at_call_of 72 (Value.slice b n k); refine (k2.out _ (rd.out.below hb1)).mono ?_; rintro en w2 ⟨v2, rfl, o2, hb2⟩; obtain ⟨a2, c2, rfl, -, -, -⟩ := o2.view; rw [← hn.out]; obtain ⟨t0, u0⟩ := ((bB.out.same (hb1.block _ (by have := sW.out; omega))).same (hb2.block _ (by have := sW.out; have := hb1.size; omega))) 0 _ rfl; obtain ⟨t1, u1⟩ := ((bB.out.same (hb1.block _ (by have := sW.out; omega))).same (hb2.block _ (by have := sW.out; have := hb1.size; omega))) 1 _ rfl; obtain ⟨t2, u2⟩ := ((bB.out.same (hb1.block _ (by have := sW.out; omega))).same (hb2.block _ (by have := sW.out; have := hb1.size; omega))) 2 _ rfl))
  have hs1 : W.drew.heap.size ≤ w1.heap.size := hb1.size
  have q1 : Row w1 a1 s := by
    obtain ⟨a', c', he, -, -, h⟩ := o1.view
    injection he with he1 _ _
    rw [he1]; exact h
  have q2 : Row w2 a2 d := by
    obtain ⟨a', c', he, -, -, h⟩ := o2.view
    injection he with he1 _ _
    rw [he1]; exact h
  have f1 : ∀ p, a1 = some p → w.heap.size + 1 + 1 ≤ p.block := fun p e => by have := own_fresh o1 p e; have := sW.out; omega
  have f2 : ∀ p, a2 = some p → w.heap.size + 1 + 1 ≤ p.block := fun p e => by have := own_fresh o2 p e; have := sW.out; omega
  have g1 := Lib.hid (q1.below hb2)
  have hbb := Lib.hid ((hb0.out.trans (hb1.mono (by have := sW.out; omega))).trans (hb2.mono (by have := sW.out; omega)))
  replace q2 := Lib.hid q2
  replace f1 := Lib.hid f1
  replace f2 := Lib.hid f2
  clear SS o1 o2 q1 hb1 hb2
  go_wp2
  refine bodyPost_ret (v := arrV ch a1 m c1 a2 n c2) (by simp [results, Tryz.results43, go_sem, cell?_set_same, arrV, t0, t1, t2]) rfl ?_
  refine ⟨a1, c1, a2, c2, by rw [hm.out, hn.out], g1.out.but (g := w.heap.size + 1) (But.set3 _ _ _ _ _ _) (fun _ p e => by have := f1.out p e; omega), q2.out.but (g := w.heap.size + 1) (But.set3 _ _ _ _ _ _) (fun _ p e => by have := f2.out p e; omega), fun p e => by have := f1.out p e; omega, fun p e => by have := f2.out p e; omega, by rw [← hm.out]; exact hc1, set3 hbb.out (Nat.le_succ _) _ _ _⟩
end Go.Proofs.YtaplaoelamnoiaaGreatDoor

/- The tests on nodes in tree.Check: right, the walker's method function. Condition: the library's tables are laid, where a name is spelt. -/
namespace Go.Proofs.YtaplaoelamnoiaaGreatDoor
open Go.RowKit

/-- A node as a value. -/
def Nd.val (x : Nd) (a : Option Addr) (c : Nat) : Value := .agg #[.int .i64 x.op, .int .i64 x.ao, .int .i64 x.af, .int .i64 x.ag, .int .i64 x.n, .slice a x.nums.length c, .string x.text]

set_option maxRecDepth 20000 in
set_option maxHeartbeats 4000000 in
theorem right_nums (l : List Int) (hl : l ≠ []) (a : Option Addr) (c : Nat) (w : World) :
    Calls Tryz.prog 65 #[.agg #[.int .i64 1, .int .i64 0, .int .i64 0, .int .i64 0, .int .i64 0, .slice a l.length c, .string ⟨#[]⟩]] w fun en w' => en = .returned (.bool true) ∧ Below w.heap.size w w' := by
  have hpos : 0 < l.length := List.length_pos_iff.2 hl
  generalize l.length = n at *
  have e1 : decide ((0 : Int) < ((n : Nat) : Int)) = true := decide_eq_true (by omega)
  have e2 : (0 : Int) < ((n : Nat) : Int) := by omega
  go_enter Tryz.func65, Tryz.ntmps65
  go_wp2
  go_ret
  exact ⟨rfl, by first | exact push (start w) _ | exact Below.refl _ _⟩

set_option maxRecDepth 20000 in
set_option maxHeartbeats 4000000 in
theorem right_name (s : ByteArray) (hs : M.nameOk s) (a : Option Addr) (c : Nat) (w : World) (hT : Tz w) (h8 : 8 ≤ w.heap.size) :
    Calls Tryz.prog 65 #[.agg #[.int .i64 3, .int .i64 0, .int .i64 0, .int .i64 0, .int .i64 0, .slice a 0 c, .string s]] w fun en w' => en = .returned (.bool true) ∧ Below w.heap.size w w' := by
  have hb1 := ((start w).alloc (Nat.le_refl _) (.cells #[.int .i64 3, .int .i64 0, .int .i64 0, .int .i64 0, .int .i64 0, .slice a 0 c, .string s] 76))
  have hb2 := hb1.alloc hb1.size (.cells #[.int .i64 3, .int .i64 0, .int .i64 0, .string s, .int .i64 0] 82)
  have bN := boxC_alloc w #[.int .i64 3, .int .i64 0, .int .i64 0, .int .i64 0, .int .i64 0, .slice a 0 c, .string s] 76
  have bT := boxC_alloc (w.alloc (.cells #[.int .i64 3, .int .i64 0, .int .i64 0, .int .i64 0, .int .i64 0, .slice a 0 c, .string s] 76)) #[.int .i64 3, .int .i64 0, .int .i64 0, .string s, .int .i64 0] 82
  rw [World.size_alloc] at bT
  obtain ⟨W, hW⟩ : ∃ W : World, W = (w.alloc (.cells #[.int .i64 3, .int .i64 0, .int .i64 0, .int .i64 0, .int .i64 0, .slice a 0 c, .string s] 76)).alloc (.cells #[.int .i64 3, .int .i64 0, .int .i64 0, .string s, .int .i64 0] 82) := ⟨_, rfl⟩
  rw [← hW] at hb2 bT
  have bN2 : BoxC w.heap.size [.int .i64 3, .int .i64 0, .int .i64 0, .int .i64 0, .int .i64 0, .slice a 0 c, .string s] W := bN.same (by rw [hW]; exact heap_alloc_old _ _ (by simp))
  have hs2 : w.heap.size + 1 < W.heap.size := by rw [hW]; simp
  have ks := spell_any ⟨3, 0, 0, s, 0⟩ (w.heap.size + 1) 0 1 W (.inr (.inl ⟨rfl, rfl, rfl, hs⟩)) (hT.below hb2 h8) (by have := hb2.size; omega) (fun j u hj => by rw [Nat.zero_add]; exact (bT j u hj).1)
  have hW' := Lib.hid hW.symm
  replace hW := Lib.hid hW
  replace ks := Lib.hid ks
  replace bN2 := Lib.hid bN2
  replace hb2 := Lib.hid hb2
  replace hs2 := Lib.hid hs2
  replace hT := Lib.hid hT
  clear hb1 bN bT
  go_enter Tryz.func65, Tryz.ntmps65
  go_wp2_with fail
  rw [hW'.out]
  refine ks.out.mono ?_
  rintro en w2 ⟨x, rfl, hb3⟩
  have b3 := bN2.out.same (hb3.block _ (by have := hs2.out; omega))
  have hb4 := Lib.hid (hb2.out.trans (hb3.mono hb2.out.size))
  clear hb3
  obtain ⟨y0, -⟩ := b3 0 _ rfl
  obtain ⟨y1, -⟩ := b3 1 _ rfl
  obtain ⟨y2, -⟩ := b3 2 _ rfl
  obtain ⟨y3, -⟩ := b3 3 _ rfl
  obtain ⟨y4, -⟩ := b3 4 _ rfl
  obtain ⟨y5, -⟩ := b3 5 _ rfl
  obtain ⟨y6, -⟩ := b3 6 _ rfl
  clear b3
  go_wp2
  go_ret
  exact ⟨rfl, hb4.out⟩

set_option maxRecDepth 20000 in
set_option maxHeartbeats 4000000 in
theorem right_act (op : Int) (hop : op = 6 ∨ op = 7) (o f : Int) (ho : o = 0 ∨ o = 1 ∨ o = 3) (hf : 1 ≤ f ∧ f ≤ 34) (a : Option Addr) (c : Nat) (w : World) :
    Calls Tryz.prog 65 #[.agg #[.int .i64 op, .int .i64 o, .int .i64 f, .int .i64 0, .int .i64 0, .slice a 0 c, .string ⟨#[]⟩]] w fun en w' => en = .returned (.bool true) ∧ Below w.heap.size w w' := by
  have e1 : decide (1 ≤ f) = true := decide_eq_true hf.1
  have e2 : decide (f ≤ 34) = true := decide_eq_true hf.2
  replace hf := Lib.hid hf
  rcases hop with rfl | rfl <;> rcases ho with rfl | rfl | rfl
  all_goals
    go_enter Tryz.func65, Tryz.ntmps65
    go_wp2
    go_ret
    exact ⟨rfl, by first | exact push (start w) _ | exact push (push (start w) _) _ | exact Below.refl _ _⟩

set_option maxRecDepth 20000 in
set_option maxHeartbeats 4000000 in
theorem right_pick (a : Option Addr) (c : Nat) (w : World) :
    Calls Tryz.prog 65 #[.agg #[.int .i64 8, .int .i64 0, .int .i64 0, .int .i64 0, .int .i64 1, .slice a 0 c, .string ⟨#[]⟩]] w fun en w' => en = .returned (.bool true) ∧ Below w.heap.size w w' := by
  go_enter Tryz.func65, Tryz.ntmps65
  go_wp2
  go_ret
  exact ⟨rfl, by first | exact push (start w) _ | exact push (push (start w) _) _ | exact Below.refl _ _⟩

set_option maxRecDepth 20000 in
set_option maxHeartbeats 4000000 in
theorem wfun_any (g : Nat) (op o f q : Int) (ho : o = 0 ∨ o = 1 ∨ o = 3) (a : Option Addr) (c : Nat) (w : World) :
    Calls Tryz.prog 87 #[.pointer (some ⟨g, 0, none⟩), .agg #[.int .i64 op, .int .i64 o, .int .i64 f, .int .i64 q, .int .i64 0, .slice a 0 c, .string ⟨#[]⟩]] w fun en w' => en = .returned (.agg #[.int .i64 o, .int .i64 f, .int .i64 q, .int .i64 0, .slice none 0 0]) ∧ Below w.heap.size w w' := by
  have eo6 : (o == 6) = false := by rw [beq_eq_false_iff_ne]; omega
  have eo7 : (o == 7) = false := by rw [beq_eq_false_iff_ne]; omega
  clear ho
  have bB := (three_boxes w #[.int .i64 op, .int .i64 o, .int .i64 f, .int .i64 q, .int .i64 0, .slice a 0 c, .string ⟨#[]⟩] #[.int .i64 o, .int .i64 f, .int .i64 q, .int .i64 0, .slice none 0 0] #[.int .i64 o, .int .i64 f, .int .i64 q, .int .i64 0, .slice none 0 0] 76 125 125 _ rfl).2.1
  replace bB := Lib.hid bB
  go_enter Tryz.func87, Tryz.ntmps87
  go_wp2
  have y0 := (bB.out 0 _ rfl).1
  have y1 := (bB.out 1 _ rfl).1
  have y2 := (bB.out 2 _ rfl).1
  have y3 := (bB.out 3 _ rfl).1
  have y4 := (bB.out 4 _ rfl).1
  refine bodyPost_ret (v := .agg #[.int .i64 o, .int .i64 f, .int .i64 q, .int .i64 0, .slice none 0 0]) (by simp [results, Tryz.results87, go_sem, y0, y1, y2, y3, y4]) rfl ?_
  exact ⟨rfl, push (push (push (start w) _) _) _⟩
end Go.Proofs.YtaplaoelamnoiaaGreatDoor
