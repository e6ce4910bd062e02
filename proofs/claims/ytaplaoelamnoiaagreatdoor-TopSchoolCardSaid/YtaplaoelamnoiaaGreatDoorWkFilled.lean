/- The call each.filled with the closure of each.Two: an array of a shape, cell by cell. Condition: a shape that lies as a row of ints; the closure tells each cell. -/
import Derived.Test.YtaplaoelamnoiaaGreatDoorBd01
import Derived.Test.YtaplaoelamnoiaaGreatDoorWkTell
import Derived.Test.YtaplaoelamnoiaaGreatDoorWkClone
import Derived.Test.YtaplaoelamnoiaaGreatDoorBd04
import Derived.Test.YtaplaoelamnoiaaGreatDoorBd05
import Derived.Test.YtaplaoelamnoiaaGreatDoorSqApp
import Derived.Test.YtaplaoelamnoiaaGreatDoorBd00
import Derived.Test.YtaplaoelamnoiaaGreatDoorOwnAt
import Derived.Deep.RegionHeld3
import Derived.Deep.Cut
namespace Go.Proofs.YtaplaoelamnoiaaGreatDoor
open Go.RowKit

namespace M
/-- An array of a shape, cell by cell. -/
def fillE (s : List Int) (N : Nat) (T : Nat → Except Int Int) : Except Int Arr :=
  match seqE N T with
  | .error e => .error e
  | .ok l => .ok ⟨false, s, l⟩
end M
theorem fill_set' {l : List Int} {j P : Nat} (hl : l.length = j) (hj : j < P) (v : Int) : (l ++ List.replicate (P - j) 0).set j v = (l ++ [v]) ++ List.replicate (P - (j + 1)) 0 := by
  obtain ⟨q, rfl⟩ : ∃ q, P = j + 1 + q := ⟨P - (j + 1), by omega⟩
  rw [show j + 1 + q - j = q + 1 by omega, show j + 1 + q - (j + 1) = q by omega, List.replicate_succ, List.set_append_right _ _ (by omega), hl, Nat.sub_self, List.set_cons_zero, List.append_assoc]; rfl
theorem own_room2 {W : World} {n g B : Nat} (h : W.heap[g]? = some (.cells (roomCells n) 3 (0, 0))) (hB : B ≤ g) (hn : n ≤ maxLen) : Own W B (.slice (some ⟨g, 0, none⟩) n n) (List.replicate n 0) :=
  ⟨by simp, .inr ⟨g, n, roomCells n, by simp, hB, h, by simp, hn, by simp [roomCells], by simp [roomCells]⟩⟩
theorem fill_error {s : List Int} {N k : Nat} {T : Nat → Except Int Int} {l : List Int} {e : Int} (h : M.seqE k T = .ok l) (hk : k < N) (he : T k = .error e) : M.fillE s N T = .error e := by
  unfold M.fillE; rw [seqE_error (seqE_stop h he) hk]

theorem BoxF.same9 {w v : World} {N : Nat} {ch : Bool} {a : Option Addr} {m c : Nat} {b : Option Addr} {n z : Nat} (h : BoxF w N ch a m c b n z) (e : v.heap[N]? = w.heap[N]?) : BoxF v N ch a m c b n z := by
  obtain ⟨⟨x0, x1, x2⟩, y0, y1, y2⟩ := h
  exact ⟨⟨(cell_of_eq e 0).trans x0, (cell_of_eq e 1).trans x1, (cell_of_eq e 2).trans x2⟩, (frozen_of_eq e 0).trans y0, (frozen_of_eq e 1).trans y1, (frozen_of_eq e 2).trans y2⟩
/-- A room of numbers, a shape beside it, and the result's own variable still empty. -/
def VF (w : World) (s : List Int) (N gd : Nat) (a3 : Option Addr) (k3 : Nat) (V : World) : Prop :=
  V.heap[gd]? = some (.cells (roomCells N) 3 (0, 0)) ∧ Row V a3 s ∧ (∀ p, a3 = some p → w.heap.size < p.block ∧ p.block ≠ gd) ∧ s.length ≤ k3 ∧ w.heap.size < gd ∧ BoxF V w.heap.size false none 0 0 none 0 0 ∧ Below w.heap.size w V
theorem lt_heap {w : World} {b : Nat} {o : Obj} (hb : w.heap[b]? = some o) : b < w.heap.size := (Array.getElem?_eq_some_iff.1 hb).1
theorem VF.step {w V V' : World} {s : List Int} {N gd : Nat} {a3 : Option Addr} {k3 : Nat} (h : VF w s N gd a3 k3 V) (hb : Below V.heap.size V V') : VF w s N gd a3 k3 V' := by
  obtain ⟨h1, h2, h3, h4, h5, h6, h7⟩ := h
  exact ⟨(hb.block _ (lt_heap h1)).trans h1, h2.below hb, h3, h4, h5, h6.below hb, below_trans h7 hb⟩
theorem vf_cm {w W0 w3 : World} {s : List Int} {N : Nat} {a3 : Option Addr} {k3 : Nat} (hb : Below W0.heap.size W0 w3) (o : Own w3 W0.heap.size (.slice a3 s.length k3) s) (hk : s.length ≤ k3) (h0 : Below w.heap.size w W0) (hR : BoxF W0 w.heap.size false none 0 0 none 0 0) :
    VF w s N w3.heap.size a3 k3 (w3.alloc (.cells (roomCells N) 3)) := by
  have hlt := hR.lt
  have hs := hb.size
  refine ⟨heap_alloc_new _ _, o.row.alloc _, ?_, hk, by omega, (hR.below hb).below (push (start w3) _), below_trans (below_trans h0 hb) (push (start w3) _)⟩
  rintro p rfl
  have h1 := own_fresh o p rfl
  have h2 := (own_at (g := p.block) (w := w3) (B := W0.heap.size) (l := s.length) (cap := k3) (ys := s) (by
    rcases o.2 with ⟨e, _⟩ | ⟨g, cap, cur, e, _⟩
    · simp at e
    · simp at e
      obtain ⟨rfl, rfl⟩ := e
      exact o)).2
  exact ⟨by omega, by omega⟩
theorem vf_mc {w P w3 : World} {s : List Int} {N gd : Nat} {a3 : Option Addr} {k3 : Nat} (hb : Below P.heap.size P w3) (o : Own w3 P.heap.size (.slice a3 s.length k3) s) (hk : s.length ≤ k3) (hg : P.heap[gd]? = some (.cells (roomCells N) 3 (0, 0))) (hw : w.heap.size < gd) (h0 : Below w.heap.size w P) (hR : BoxF P w.heap.size false none 0 0 none 0 0) :
    VF w s N gd a3 k3 w3 := by
  have hlt := lt_heap hg
  refine ⟨(hb.block _ hlt).trans hg, o.row, ?_, hk, hw, hR.below hb, below_trans h0 hb⟩
  rintro p rfl
  have h1 := own_fresh o p rfl
  exact ⟨by omega, by omega⟩
/-- The array that is to be filled, in its own variable. -/
def FilAt (w : World) (s : List Int) (N Bo : Nat) (wx : World) : Prop :=
  ∃ a3 k3 gd, VF w s N gd a3 k3 wx ∧ gd ≠ Bo ∧ w.heap.size < Bo ∧ wx.cell? ⟨Bo, 0, none⟩ = some (.bool false) ∧ wx.cell? ⟨Bo, 1, none⟩ = some (.slice a3 s.length k3) ∧ wx.cell? ⟨Bo, 2, none⟩ = some (.slice (some ⟨gd, 0, none⟩) N N)
theorem fil_mk {w V : World} {s : List Int} {N gd : Nat} {a3 : Option Addr} {k3 : Nat} (h : VF w s N gd a3 k3 V) : FilAt w s N V.heap.size (V.alloc (.cells #[.bool false, .slice a3 s.length k3, .slice (some ⟨gd, 0, none⟩) N N] 24)) :=
  ⟨a3, k3, gd, h.step (push (start V) _), Nat.ne_of_lt (lt_heap h.1), h.2.2.2.2.2.1.lt, by simp, by simp, by simp⟩
theorem fil_set {w V : World} {s : List Int} {N gd Bo : Nat} {a3 : Option Addr} {k3 : Nat} {z0 z1 z2 : Value} (h : VF w s N gd a3 k3 V) (hne : gd ≠ Bo) (hw : w.heap.size < Bo) (ha : ∀ p, a3 = some p → p.block ≠ Bo)
    (c0 : V.cell? ⟨Bo, 0, none⟩ = some z0) (c1 : V.cell? ⟨Bo, 1, none⟩ = some z1) (c2 : V.cell? ⟨Bo, 2, none⟩ = some z2) :
    FilAt w s N Bo (((V.setCell ⟨Bo, 0, none⟩ (.bool false)).setCell ⟨Bo, 1, none⟩ (.slice a3 s.length k3)).setCell ⟨Bo, 2, none⟩ (.slice (some ⟨gd, 0, none⟩) N N)) := by
  have hk : ∀ b, b ≠ Bo → (((V.setCell ⟨Bo, 0, none⟩ (.bool false)).setCell ⟨Bo, 1, none⟩ (.slice a3 s.length k3)).setCell ⟨Bo, 2, none⟩ (.slice (some ⟨gd, 0, none⟩) N N)).heap[b]? = V.heap[b]? := fun b hb => by
    rw [Below.heap_setCell _ _ _ b hb, Below.heap_setCell _ _ _ b hb, Below.heap_setCell _ _ _ b hb]
  obtain ⟨h1, h2, h3, h4, h5, h6, h7⟩ := h
  refine ⟨a3, k3, gd, ⟨(hk gd hne).trans h1, ?_, h3, h4, h5, h6.same9 (hk _ (by omega)), set3 h7 (by omega) _ _ _⟩, hne, hw, ?_, ?_, ?_⟩
  · intro i hi
    obtain ⟨b, o, rfl, hc⟩ := h2 i hi
    exact ⟨b, o, rfl, (cell_of_eq (hk b (ha _ rfl)) (o + i)).trans hc⟩
  · rw [World.cell?_setCell_other _ _ _ _ (by simp), World.cell?_setCell_other _ _ _ _ (by simp)]
    exact cell?_set_same _ _ _ (by rw [c0]; rfl)
  · rw [World.cell?_setCell_other _ _ _ _ (by simp)]
    exact cell?_set_same _ _ _ (by rw [World.cell?_setCell_other _ _ _ _ (by simp), c1]; rfl)
  · exact cell?_set_same _ _ _ (by rw [World.cell?_setCell_other _ _ _ _ (by simp), World.cell?_setCell_other _ _ _ _ (by simp), c2]; rfl)

set_option maxRecDepth 20000 in
set_option maxHeartbeats 8000000 in
theorem filled_any (T : Nat → Except Int Int) (s : List Int) (a : Option Addr) (c N A B F O K : Nat) (w : World) (hs : Row w a s) (ls : s.length ≤ 6) (hN : N ≤ 4096) 
    (hT : ∀ i, i < N → ∀ w', Below w.heap.size w w' → Calls Tryz.prog 211 #[.int .i64 i, .pointer (some ⟨A, 0, none⟩), .pointer (some ⟨B, 0, none⟩), .pointer (some ⟨F, 0, none⟩), .pointer (some ⟨O, 0, none⟩), .pointer (some ⟨K, 0, none⟩)] w' fun e w'' =>
      e = .returned (resI (T i)) ∧ ∃ n, w'' = w'.drewN n) :
    Calls Tryz.prog 210 #[.slice a s.length c, .int .i64 N, .func (.func 211) #[] #[.pointer (some ⟨A, 0, none⟩), .pointer (some ⟨B, 0, none⟩), .pointer (some ⟨F, 0, none⟩), .pointer (some ⟨O, 0, none⟩), .pointer (some ⟨K, 0, none⟩)]] w fun e w' =>
      ArrPostF (M.fillE s N T) w e w' := by
  have ls' : s.length < 17592186044416 := by omega
  have E := ((Env.start w).addRow hs).box false none 0 0 none 0 0
  have hN' : N < 17592186044416 := by clear ls' hT; omega
  have hmk := run_make_room N N (Nat.le_refl _) hN'
  replace hT := Lib.hid hT
  have rs := E.getRow 1 rfl
  have hS0 : (w.alloc (.cells #[.bool false, .slice none 0 0, .slice none 0 0] 24)).drew.cell? ⟨w.heap.size, 0, none⟩ = some (.bool false) ∧ (w.alloc (.cells #[.bool false, .slice none 0 0, .slice none 0 0] 24)).drew.cell? ⟨w.heap.size, 1, none⟩ = some (.slice none 0 0) ∧ (w.alloc (.cells #[.bool false, .slice none 0 0, .slice none 0 0] 24)).drew.cell? ⟨w.heap.size, 2, none⟩ = some (.slice none 0 0) := (E.getBox 0 rfl).1
  go_enter Tryz.func210, Tryz.ntmps210
  go_upto_region 1 with fail
  go_cut [8] from 9 (fun s8 wx => ∃ Bo, s8 = .pointer (some ⟨Bo, 0, none⟩) ∧ FilAt w s N Bo wx)
  case first =>
    go_region_held3 (fun w' => 0 ≤ w'.heap.size)
      (first | exact Nat.zero_le _)
      (first
        | (go_at_call 72; refine (clone_any a s _ c _ (by first | exact rs.drewN 1 | exact (rs.alloc _).drewN 1 | exact ((rs.alloc _).alloc _).drewN 1) ls' rfl).mono ?_; rintro e w3 ⟨v3, rfl, o3, hb3⟩; obtain ⟨a3, k3, rfl, hk3, -, -⟩ := o3.view; have q10 := hb3.cell (p := ⟨w.heap.size + 1, 0, none⟩); have q11 := hb3.cell (p := ⟨w.heap.size + 1, 1, none⟩); have q12 := hb3.cell (p := ⟨w.heap.size + 1, 2, none⟩); have q20 := hb3.cell (p := ⟨w.heap.size + 1 + 1, 0, none⟩); have q21 := hb3.cell (p := ⟨w.heap.size + 1 + 1, 1, none⟩); have q22 := hb3.cell (p := ⟨w.heap.size + 1 + 1, 2, none⟩); have p10 := hb3.frozen (p := ⟨w.heap.size + 1, 0, none⟩); have p11 := hb3.frozen (p := ⟨w.heap.size + 1, 1, none⟩); have p12 := hb3.frozen (p := ⟨w.heap.size + 1, 2, none⟩); have p20 := hb3.frozen (p := ⟨w.heap.size + 1 + 1, 0, none⟩); have p21 := hb3.frozen (p := ⟨w.heap.size + 1 + 1, 1, none⟩); have p22 := hb3.frozen (p := ⟨w.heap.size + 1 + 1, 2, none⟩); try simp [go_sem] at q10; try simp [go_sem] at q11; try simp [go_sem] at q12; try simp [go_sem] at q20; try simp [go_sem] at q21; try simp [go_sem] at q22; try simp [go_sem] at p10; try simp [go_sem] at p11; try simp [go_sem] at p12; try simp [go_sem] at p20; try simp [go_sem] at p21; try simp [go_sem] at p22; have s3 := hb3.size; try simp at s3; (first | (have r1 : _ ∧ _ ∧ _ := alloc3 (x := .bool false) (y := .slice none 0 0) (z := .slice none 0 0) ⟨q10, q11, q12⟩ (.cells (roomCells N) 3); have v1 := falloc3 (w := w3) (N := w.heap.size + 1) (by omega) ⟨p10, p11, p12⟩ (.cells (roomCells N) 3); obtain ⟨r10, r11, r12⟩ := r1; obtain ⟨v10, v11, v12⟩ := v1) | skip)))
    all_goals go_wp2
    all_goals go_meet
    · case rel =>
        refine ⟨_, rfl, ?_⟩
        have h := fil_mk (vf_cm (w := w) (N := N) hb3 o3 hk3 (E.drew 1).bel ((E.drew 1).getBox 0 rfl))
        rw [World.size_alloc] at h
        exact h
    · case rel =>
        refine ⟨_, rfl, a3, k3, w3.heap.size + 1, ?_, by omega, ?_, ?_, ?_, ?_⟩
        · have h := vf_cm (w := w) (N := N) (hb3.alloc hb3.size (.cells #[.bool false, .slice a3 s.length k3, .slice (some ⟨w3.heap.size + 1, 0, none⟩) N N] 24)) (o3.below (push (start w3) _)) hk3 (E.drew 1).bel ((E.drew 1).getBox 0 rfl)
          rw [World.size_alloc] at h
          exact h
        · have := (((E.drew 1).step hb3).getBox 0 rfl).lt; exact this
        · simp [go_sem]
        · simp [go_sem]
        · simp [go_sem]
    · case rel =>
        refine ⟨_, rfl, ?_⟩
        have hg := heap_alloc_new (w.alloc (.cells #[.bool false, .slice none 0 0, .slice none 0 0] 24)) (.cells (roomCells N) 3)
        rw [World.size_alloc] at hg
        exact fil_mk (vf_mc (w := w) (N := N) hb3 o3 hk3 hg (by omega) ((E.alloc _).drew 1).bel (((E.alloc _).drew 1).getBox 0 rfl))
    · case rel =>
        refine ⟨_, rfl, ?_⟩
        have hg := heap_alloc_new (w.alloc (.cells #[.bool false, .slice none 0 0, .slice none 0 0] 24)) (.cells (roomCells N) 3)
        rw [World.size_alloc] at hg
        have hg2 := (heap_alloc_old _ (.cells #[.bool false, .slice none 0 0, .slice none 0 0] 24) (lt_heap hg)).trans hg
        exact fil_set (vf_mc (w := w) (N := N) hb3 o3 hk3 hg2 (by omega) (((E.alloc _).alloc _).drew 1).bel ((((E.alloc _).alloc _).drew 1).getBox 0 rfl)) (by omega) (by omega) (fun p e => by have h := own_fresh o3 p e; simp at h; omega) q20 q21 q22
    · case rel =>
        refine ⟨_, rfl, ?_⟩
        exact fil_set (vf_cm (w := w) (N := N) hb3 o3 hk3 ((E.alloc _).drew 1).bel (((E.alloc _).drew 1).getBox 0 rfl)) (by omega) (by omega) (fun p e => by have h := own_fresh o3 p e; simp at h; omega) r10 r11 r12
    · case rel =>
        refine ⟨_, rfl, ?_⟩
        have hg := heap_alloc_new ((w.alloc (.cells #[.bool false, .slice none 0 0, .slice none 0 0] 24)).alloc (.cells #[.bool false, .slice none 0 0, .slice none 0 0] 24)) (.cells (roomCells N) 3)
        rw [World.size_alloc, World.size_alloc] at hg
        exact fil_set (vf_mc (w := w) (N := N) hb3 o3 hk3 hg (by omega) (((E.alloc _).alloc _).drew 1).bel ((((E.alloc _).alloc _).drew 1).getBox 0 rfl)) (by omega) (by omega) (fun p e => by have h := own_fresh o3 p e; simp at h; omega) q10 q11 q12
  case rest =>
    obtain ⟨Bo, rfl, a3, k3, gd, hV, hne, hwB, c0, c1, c2⟩ := hcut
    obtain ⟨v1, v2, v3, v4, v5, v6, v7⟩ := hV
    have hroom := own_room2 v1 (show w.heap.size + 1 ≤ gd by omega) (show N ≤ maxLen by unfold maxLen; omega)
    have lgd := lt_heap v1
    have hRne : w.heap.size ≠ gd := by omega
    have hBne : Bo ≠ gd := Ne.symm hne
    replace v1 := Lib.hid v1
    replace hroom := Lib.hid hroom
    replace hmk := Lib.hid hmk
    clear hS0 E rs
    go_wp2
    go_loopw [20] (fun v wr => ∃ (i : Nat) (l : List Int), i ≤ N ∧ v = .int .i64 i ∧ M.seqE i T = .ok l ∧ Own wr (w.heap.size + 1) (.slice (some ⟨gd, 0, none⟩) N N) (l ++ List.replicate (N - i) 0) ∧ But gd wc wr ∧ Below w.heap.size w wr) (fun v _ => N - (intOf v).toNat)
    case atStart => exact ⟨0, [], Nat.zero_le _, rfl, rfl, by rw [List.nil_append, Nat.sub_zero]; exact hroom.out, But.refl _ _, v7⟩
    case round =>
      obtain ⟨i, l, hi, rfl, hseq, hown, hbut, hbel⟩ := hrel
      have hll := seqE_length hseq
      by_cases hlt : i < N
      · have k2 := (cell_of_eq (hbut Bo (World.block_lt_of_cell? wc _ c2) hBne) 2).trans c2
        have kfr := own_frozen hown i
        have kc := own_cell hown (i := i) (by simp; omega)
        have hstore := fun n v => own_store (w := wr.drewN n) hown (i := i) (by simp; omega) v
        simp only [fill_set' hll hlt] at hstore
        have hRw := v6.same9 (hbut w.heap.size (v6.lt) hRne)
        have hcall := hT.out i hlt wr hbel
        generalize (l ++ List.replicate (N - i) 0).getD i 0 = cx at kc
        replace hll := Lib.hid hll
        replace hown := Lib.hid hown
        replace hcall := Lib.hid hcall
        replace hstore := Lib.hid hstore
        replace hbut := Lib.hid hbut
        clear c0 c1 c2 lgd
        cases hTi : T i with
        | error x =>
          have hr := Lib.hid (fill_error (s := s) hseq hlt hTi)
          replace hTi := Lib.hid hTi
          replace hseq := Lib.hid hseq
          go_wp2_with fail
          refine hcall.out.mono ?_
          rintro e w5 ⟨rfl, n5, rfl⟩
          rw [hTi.out]
          dsimp only [resI]
          have hb5 := below_drewN hbel n5
          have hR5 : BoxF (wr.drewN n5) w.heap.size false none 0 0 none 0 0 := hRw
          obtain ⟨⟨z0, z1, z2⟩, y0, y1, y2⟩ := hR5
          clear kc kfr k2
          generalize wr.drewN n5 = wq at *
          go_wp2
          refine bodyPost_ret (v := .tuple #[arrV false none 0 0 none 0 0, .iface 46 (.int .i64 x)]) (by simp [results, Tryz.results210, go_sem, cell?_set_same, z0, z1, z2]) rfl ?_
          exact .error hr.out rfl (set3 hb5 (Nat.le_refl _) _ _ _)
        | ok x =>
          have hnx := Lib.hid (seqE_next hseq hTi)
          replace hTi := Lib.hid hTi
          replace hseq := Lib.hid hseq
          go_wp2_with fail
          refine hcall.out.mono ?_
          rintro e w5 ⟨rfl, n5, rfl⟩
          rw [hTi.out]
          dsimp only [resI]
          have hs5 := hstore.out n5 x
          have k25 := cell_drewN k2 n5
          have kc5 := cell_drewN kc n5
          have kf5 : (wr.drewN n5).frozen? ⟨gd, i, none⟩ = false := kfr
          have hb5 := below_drewN hbel n5
          have hbu5 : But gd wc (wr.drewN n5) := hbut.out
          replace hs5 := Lib.hid hs5
          replace hbu5 := Lib.hid hbu5
          clear kc kfr k2
          generalize wr.drewN n5 = wq at *
          go_wp2
          go_roundw
          case rel => exact ⟨i + 1, l ++ [x], by omega, by go_num, hnx.out, hs5.out, hbu5.out.set _ _, hb5.setCell (p := ⟨gd, i, none⟩) (by show w.heap.size ≤ gd; omega) _⟩
          case measure => simp [intOf]; omega
      · obtain rfl : i = N := by omega
        have eB := hbut Bo (World.block_lt_of_cell? wc _ c2) hBne
        have k0 := (cell_of_eq eB 0).trans c0
        have k1 := (cell_of_eq eB 1).trans c1
        have k2 := (cell_of_eq eB 2).trans c2
        have hRw := v6.same9 (hbut w.heap.size (v6.lt) hRne)
        rw [Nat.sub_self, List.replicate_zero, List.append_nil] at hown
        have hr := Lib.hid (show M.fillE s i T = .ok ⟨false, s, l⟩ by unfold M.fillE; rw [hseq])
        have ra : Row wr a3 s := by
          intro j hj
          obtain ⟨b, o, rfl, hc⟩ := v2 j hj
          exact ⟨b, o, rfl, (cell_of_eq (hbut b (World.block_lt_of_cell? _ _ hc) (v3 _ rfl).2) (o + j)).trans hc⟩
        have rb := hown.row
        obtain ⟨⟨z0, z1, z2⟩, y0, y1, y2⟩ := hRw
        replace hseq := Lib.hid hseq
        replace hown := Lib.hid hown
        replace hbut := Lib.hid hbut
        replace hll := Lib.hid hll
        clear c0 c1 c2 eB
        go_wp2
        refine bodyPost_ret (v := .tuple #[arrV false a3 s.length k3 (some ⟨gd, 0, none⟩) i i, .nilIface]) (by simp [results, Tryz.results210, go_sem, cell?_set_same, z0, z1, z2]) rfl ?_
        have hk : ∀ (u0 u1 u2 : Value) (b : Nat), b ≠ w.heap.size → (((wr.setCell ⟨w.heap.size, 0, none⟩ u0).setCell ⟨w.heap.size, 1, none⟩ u1).setCell ⟨w.heap.size, 2, none⟩ u2).heap[b]? = wr.heap[b]? := fun u0 u1 u2 b hb => by
          rw [Below.heap_setCell _ _ _ b hb, Below.heap_setCell _ _ _ b hb, Below.heap_setCell _ _ _ b hb]
        refine ArrPostF.ok (x := ⟨false, s, l⟩) hr.out (by rw [hll.out]) ?_ ?_ (fun p e => Nat.le_of_lt (v3 p e).1) (fun p e => by cases e; exact Nat.le_of_lt v5) v4 (set3 hbel (Nat.le_refl _) _ _ _)
        · intro j hj
          obtain ⟨b, o, rfl, hc⟩ := ra j hj
          exact ⟨b, o, rfl, (cell_of_eq (hk _ _ _ b (Nat.ne_of_gt (v3 _ rfl).1)) (o + j)).trans hc⟩
        · intro j hj
          obtain ⟨b, o, e, hc⟩ := rb j hj
          cases e
          exact ⟨gd, 0, rfl, (cell_of_eq (hk _ _ _ gd (Nat.ne_of_gt v5)) (0 + j)).trans hc⟩
end Go.Proofs.YtaplaoelamnoiaaGreatDoor
