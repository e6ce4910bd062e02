/- Texts that lie in one file: what is plain, rows, boxes, squares, and what is known of a world. No condition. -/
import Derived.Test.YtaplaoelamnoiaaGreatDoorBg01
import Derived.Test.YtaplaoelamnoiaaGreatDoorWkTell
import Derived.Test.YtaplaoelamnoiaaGreatDoorWkClone
import Derived.Test.YtaplaoelamnoiaaGreatDoorBg04
import Derived.Test.YtaplaoelamnoiaaGreatDoorBg05
import Derived.Test.YtaplaoelamnoiaaGreatDoorBg30
import Derived.Test.YtaplaoelamnoiaaGreatDoorBg00
import Derived.Deep.RegionHeld3
import Derived.Deep.Cut
/- The call each.filled with the closure of each.Two: an array of a shape, cell by cell. Condition: a shape that lies as a row of ints; the closure tells each cell. -/
namespace Go.Proofs.YtaplaoelamnoiaaGreatDoor
open Go.RowKit

namespace M
/-- An array of a shape, cell by cell. -/
def fillE (s : List Int) (N : Nat) (T : Nat → Except Int Int) : Except Int Arr :=
  match seqE N T with
  | .error e => .error e
  | .ok l => .ok ⟨false, s, l⟩
end M
theorem fill_set' {l : List Int} {j P : Nat} (hl : l.length = j) (hj : j < P) (v : Int) : (l ++ List.replicate (P - j) 0).set j v = (l ++ [v]) ++ List.replicate (P - (j + 1)) 0 := by
  obtain ⟨q, rfl⟩ : ∃ q, P = j + 1 + q := ⟨P - (j + 1), by omega⟩
  rw [show j + 1 + q - j = q + 1 by omega, show j + 1 + q - (j + 1) = q by omega, List.replicate_succ, List.set_append_right _ _ (by omega), hl, Nat.sub_self, List.set_cons_zero, List.append_assoc]; rfl
theorem own_room2 {W : World} {n g B : Nat} (h : W.heap[g]? = some (.cells (roomCells n) 3 (0, 0))) (hB : B ≤ g) (hn : n ≤ maxLen) : Own W B (.slice (some ⟨g, 0, none⟩) n n) (List.replicate n 0) :=
  ⟨by simp, .inr ⟨g, n, roomCells n, by simp, hB, h, by simp, hn, by simp [roomCells], by simp [roomCells]⟩⟩
theorem fill_error {s : List Int} {N k : Nat} {T : Nat → Except Int Int} {l : List Int} {e : Int} (h : M.seqE k T = .ok l) (hk : k < N) (he : T k = .error e) : M.fillE s N T = .error e := by
  unfold M.fillE; rw [seqE_error (seqE_stop h he) hk]

theorem BoxF.same9 {w v : World} {N : Nat} {ch : Bool} {a : Option Addr} {m c : Nat} {b : Option Addr} {n z : Nat} (h : BoxF w N ch a m c b n z) (e : v.heap[N]? = w.heap[N]?) : BoxF v N ch a m c b n z := by
  obtain ⟨⟨x0, x1, x2⟩, y0, y1, y2⟩ := h
  exact ⟨⟨(cell_of_eq e 0).trans x0, (cell_of_eq e 1).trans x1, (cell_of_eq e 2).trans x2⟩, (frozen_of_eq e 0).trans y0, (frozen_of_eq e 1).trans y1, (frozen_of_eq e 2).trans y2⟩
/-- A room of numbers, a shape beside it, and the result's own variable still empty. -/
def VF (w : World) (s : List Int) (N gd : Nat) (a3 : Option Addr) (k3 : Nat) (V : World) : Prop :=
  V.heap[gd]? = some (.cells (roomCells N) 3 (0, 0)) ∧ Row V a3 s ∧ (∀ p, a3 = some p → w.heap.size < p.block ∧ p.block ≠ gd) ∧ s.length ≤ k3 ∧ w.heap.size < gd ∧ BoxF V w.heap.size false none 0 0 none 0 0 ∧ Below w.heap.size w V
theorem lt_heap {w : World} {b : Nat} {o : Obj} (hb : w.heap[b]? = some o) : b < w.heap.size := (Array.getElem?_eq_some_iff.1 hb).1
theorem VF.step {w V V' : World} {s : List Int} {N gd : Nat} {a3 : Option Addr} {k3 : Nat} (h : VF w s N gd a3 k3 V) (hb : Below V.heap.size V V') : VF w s N gd a3 k3 V' := by
  obtain ⟨h1, h2, h3, h4, h5, h6, h7⟩ := h
  exact ⟨(hb.block _ (lt_heap h1)).trans h1, h2.below hb, h3, h4, h5, h6.below hb, below_trans h7 hb⟩
theorem vf_cm {w W0 w3 : World} {s : List Int} {N : Nat} {a3 : Option Addr} {k3 : Nat} (hb : Below W0.heap.size W0 w3) (o : Own w3 W0.heap.size (.slice a3 s.length k3) s) (hk : s.length ≤ k3) (h0 : Below w.heap.size w W0) (hR : BoxF W0 w.heap.size false none 0 0 none 0 0) :
    VF w s N w3.heap.size a3 k3 (w3.alloc (.cells (roomCells N) 3)) := by
  have hlt := hR.lt
  have hs := hb.size
  refine ⟨heap_alloc_new _ _, o.row.alloc _, ?_, hk, by omega, (hR.below hb).below (push (start w3) _), below_trans (below_trans h0 hb) (push (start w3) _)⟩
  rintro p rfl
  have h1 := own_fresh o p rfl
  have h2 := (own_at (g := p.block) (w := w3) (B := W0.heap.size) (l := s.length) (cap := k3) (ys := s) (by
    rcases o.2 with ⟨e, _⟩ | ⟨g, cap, cur, e, _⟩
    · simp at e
    · simp at e
      obtain ⟨rfl, rfl⟩ := e
      exact o)).2
  exact ⟨by omega, by omega⟩
theorem vf_mc {w P w3 : World} {s : List Int} {N gd : Nat} {a3 : Option Addr} {k3 : Nat} (hb : Below P.heap.size P w3) (o : Own w3 P.heap.size (.slice a3 s.length k3) s) (hk : s.length ≤ k3) (hg : P.heap[gd]? = some (.cells (roomCells N) 3 (0, 0))) (hw : w.heap.size < gd) (h0 : Below w.heap.size w P) (hR : BoxF P w.heap.size false none 0 0 none 0 0) :
    VF w s N gd a3 k3 w3 := by
  have hlt := lt_heap hg
  refine ⟨(hb.block _ hlt).trans hg, o.row, ?_, hk, hw, hR.below hb, below_trans h0 hb⟩
  rintro p rfl
  have h1 := own_fresh o p rfl
  exact ⟨by omega, by omega⟩
/-- The array that is to be filled, in its own variable. -/
def FilAt (w : World) (s : List Int) (N Bo : Nat) (wx : World) : Prop :=
  ∃ a3 k3 gd, VF w s N gd a3 k3 wx ∧ gd ≠ Bo ∧ w.heap.size < Bo ∧ wx.cell? ⟨Bo, 0, none⟩ = some (.bool false) ∧ wx.cell? ⟨Bo, 1, none⟩ = some (.slice a3 s.length k3) ∧ wx.cell? ⟨Bo, 2, none⟩ = some (.slice (some ⟨gd, 0, none⟩) N N)
theorem fil_mk {w V : World} {s : List Int} {N gd : Nat} {a3 : Option Addr} {k3 : Nat} (h : VF w s N gd a3 k3 V) : FilAt w s N V.heap.size (V.alloc (.cells #[.bool false, .slice a3 s.length k3, .slice (some ⟨gd, 0, none⟩) N N] 24)) :=
  ⟨a3, k3, gd, h.step (push (start V) _), Nat.ne_of_lt (lt_heap h.1), h.2.2.2.2.2.1.lt, by simp, by simp, by simp⟩
theorem fil_set {w V : World} {s : List Int} {N gd Bo : Nat} {a3 : Option Addr} {k3 : Nat} {z0 z1 z2 : Value} (h : VF w s N gd a3 k3 V) (hne : gd ≠ Bo) (hw : w.heap.size < Bo) (ha : ∀ p, a3 = some p → p.block ≠ Bo)
    (c0 : V.cell? ⟨Bo, 0, none⟩ = some z0) (c1 : V.cell? ⟨Bo, 1, none⟩ = some z1) (c2 : V.cell? ⟨Bo, 2, none⟩ = some z2) :
    FilAt w s N Bo (((V.setCell ⟨Bo, 0, none⟩ (.bool false)).setCell ⟨Bo, 1, none⟩ (.slice a3 s.length k3)).setCell ⟨Bo, 2, none⟩ (.slice (some ⟨gd, 0, none⟩) N N)) := by
  have hk : ∀ b, b ≠ Bo → (((V.setCell ⟨Bo, 0, none⟩ (.bool false)).setCell ⟨Bo, 1, none⟩ (.slice a3 s.length k3)).setCell ⟨Bo, 2, none⟩ (.slice (some ⟨gd, 0, none⟩) N N)).heap[b]? = V.heap[b]? := fun b hb => by
    rw [Below.heap_setCell _ _ _ b hb, Below.heap_setCell _ _ _ b hb, Below.heap_setCell _ _ _ b hb]
  obtain ⟨h1, h2, h3, h4, h5, h6, h7⟩ := h
  refine ⟨a3, k3, gd, ⟨(hk gd hne).trans h1, ?_, h3, h4, h5, h6.same9 (hk _ (by omega)), set3 h7 (by omega) _ _ _⟩, hne, hw, ?_, ?_, ?_⟩
  · intro i hi
    obtain ⟨b, o, rfl, hc⟩ := h2 i hi
    exact ⟨b, o, rfl, (cell_of_eq (hk b (ha _ rfl)) (o + i)).trans hc⟩
  · rw [World.cell?_setCell_other _ _ _ _ (by simp), World.cell?_setCell_other _ _ _ _ (by simp)]
    exact cell?_set_same _ _ _ (by rw [c0]; rfl)
  · rw [World.cell?_setCell_other _ _ _ _ (by simp)]
    exact cell?_set_same _ _ _ (by rw [World.cell?_setCell_other _ _ _ _ (by simp), c1]; rfl)
  · exact cell?_set_same _ _ _ (by rw [World.cell?_setCell_other _ _ _ _ (by simp), World.cell?_setCell_other _ _ _ _ (by simp), c2]; rfl)

set_option maxRecDepth 20000 in
set_option maxHeartbeats 8000000 in
theorem filled_any (T : Nat → Except Int Int) (s : List Int) (a : Option Addr) (c N A B F O K : Nat) (w : World) (hs : Row w a s) (ls : s.length ≤ 6) (hN : N ≤ 4096) 
    (hT : ∀ i, i < N → ∀ w', Below w.heap.size w w' → Calls Tryz.prog 211 #[.int .i64 i, .pointer (some ⟨A, 0, none⟩), .pointer (some ⟨B, 0, none⟩), .pointer (some ⟨F, 0, none⟩), .pointer (some ⟨O, 0, none⟩), .pointer (some ⟨K, 0, none⟩)] w' fun e w'' =>
      e = .returned (resI (T i)) ∧ ∃ n, w'' = w'.drewN n) :
    Calls Tryz.prog 210 #[.slice a s.length c, .int .i64 N, .func (.func 211) #[] #[.pointer (some ⟨A, 0, none⟩), .pointer (some ⟨B, 0, none⟩), .pointer (some ⟨F, 0, none⟩), .pointer (some ⟨O, 0, none⟩), .pointer (some ⟨K, 0, none⟩)]] w fun e w' =>
      ArrPostF (M.fillE s N T) w e w' := by
  have ls' : s.length < 17592186044416 := by omega
  have E := ((Env.start w).addRow hs).box false none 0 0 none 0 0
  have hN' : N < 17592186044416 := by clear ls' hT; omega
  have hmk := run_make_room N N (Nat.le_refl _) hN'
  replace hT := Lib.hid hT
  have rs := E.getRow 1 rfl
  have hS0 : (w.alloc (.cells #[.bool false, .slice none 0 0, .slice none 0 0] 24)).drew.cell? ⟨w.heap.size, 0, none⟩ = some (.bool false) ∧ (w.alloc (.cells #[.bool false, .slice none 0 0, .slice none 0 0] 24)).drew.cell? ⟨w.heap.size, 1, none⟩ = some (.slice none 0 0) ∧ (w.alloc (.cells #[.bool false, .slice none 0 0, .slice none 0 0] 24)).drew.cell? ⟨w.heap.size, 2, none⟩ = some (.slice none 0 0) := (E.getBox 0 rfl).1
  go_enter Tryz.func210, Tryz.ntmps210
  go_upto_region 1 with fail
  go_cut [8] from 9 (fun s8 wx => ∃ Bo, s8 = .pointer (some ⟨Bo, 0, none⟩) ∧ FilAt w s N Bo wx)
  case first =>
    go_region_held3 (fun w' => 0 ≤ w'.heap.size)
      (first | exact Nat.zero_le _)
      (first
        | (go_at_call 72; refine (clone_any a s _ c _ (by first | exact rs.drewN 1 | exact (rs.alloc _).drewN 1 | exact ((rs.alloc _).alloc _).drewN 1) ls' rfl).mono ?_; rintro e w3 ⟨v3, rfl, o3, hb3⟩; obtain ⟨a3, k3, rfl, hk3, -, -⟩ := o3.view; have q10 := hb3.cell (p := ⟨w.heap.size + 1, 0, none⟩); have q11 := hb3.cell (p := ⟨w.heap.size + 1, 1, none⟩); have q12 := hb3.cell (p := ⟨w.heap.size + 1, 2, none⟩); have q20 := hb3.cell (p := ⟨w.heap.size + 1 + 1, 0, none⟩); have q21 := hb3.cell (p := ⟨w.heap.size + 1 + 1, 1, none⟩); have q22 := hb3.cell (p := ⟨w.heap.size + 1 + 1, 2, none⟩); have p10 := hb3.frozen (p := ⟨w.heap.size + 1, 0, none⟩); have p11 := hb3.frozen (p := ⟨w.heap.size + 1, 1, none⟩); have p12 := hb3.frozen (p := ⟨w.heap.size + 1, 2, none⟩); have p20 := hb3.frozen (p := ⟨w.heap.size + 1 + 1, 0, none⟩); have p21 := hb3.frozen (p := ⟨w.heap.size + 1 + 1, 1, none⟩); have p22 := hb3.frozen (p := ⟨w.heap.size + 1 + 1, 2, none⟩); try simp [go_sem] at q10; try simp [go_sem] at q11; try simp [go_sem] at q12; try simp [go_sem] at q20; try simp [go_sem] at q21; try simp [go_sem] at q22; try simp [go_sem] at p10; try simp [go_sem] at p11; try simp [go_sem] at p12; try simp [go_sem] at p20; try simp [go_sem] at p21; try simp [go_sem] at p22; have s3 := hb3.size; try simp at s3; (first | (have r1 : _ ∧ _ ∧ _ := alloc3 (x := .bool false) (y := .slice none 0 0) (z := .slice none 0 0) ⟨q10, q11, q12⟩ (.cells (roomCells N) 3); have v1 := falloc3 (w := w3) (N := w.heap.size + 1) (by omega) ⟨p10, p11, p12⟩ (.cells (roomCells N) 3); obtain ⟨r10, r11, r12⟩ := r1; obtain ⟨v10, v11, v12⟩ := v1) | skip)))
    all_goals go_wp2
    all_goals go_meet
    · case rel =>
        refine ⟨_, rfl, ?_⟩
        have h := fil_mk (vf_cm (w := w) (N := N) hb3 o3 hk3 (E.drew 1).bel ((E.drew 1).getBox 0 rfl))
        rw [World.size_alloc] at h
        exact h
    · case rel =>
        refine ⟨_, rfl, a3, k3, w3.heap.size + 1, ?_, by omega, ?_, ?_, ?_, ?_⟩
        · have h := vf_cm (w := w) (N := N) (hb3.alloc hb3.size (.cells #[.bool false, .slice a3 s.length k3, .slice (some ⟨w3.heap.size + 1, 0, none⟩) N N] 24)) (o3.below (push (start w3) _)) hk3 (E.drew 1).bel ((E.drew 1).getBox 0 rfl)
          rw [World.size_alloc] at h
          exact h
        · have := (((E.drew 1).step hb3).getBox 0 rfl).lt; exact this
        · simp [go_sem]
        · simp [go_sem]
        · simp [go_sem]
    · case rel =>
        refine ⟨_, rfl, ?_⟩
        have hg := heap_alloc_new (w.alloc (.cells #[.bool false, .slice none 0 0, .slice none 0 0] 24)) (.cells (roomCells N) 3)
        rw [World.size_alloc] at hg
        exact fil_mk (vf_mc (w := w) (N := N) hb3 o3 hk3 hg (by omega) ((E.alloc _).drew 1).bel (((E.alloc _).drew 1).getBox 0 rfl))
    · case rel =>
        refine ⟨_, rfl, ?_⟩
        have hg := heap_alloc_new (w.alloc (.cells #[.bool false, .slice none 0 0, .slice none 0 0] 24)) (.cells (roomCells N) 3)
        rw [World.size_alloc] at hg
        have hg2 := (heap_alloc_old _ (.cells #[.bool false, .slice none 0 0, .slice none 0 0] 24) (lt_heap hg)).trans hg
        exact fil_set (vf_mc (w := w) (N := N) hb3 o3 hk3 hg2 (by omega) (((E.alloc _).alloc _).drew 1).bel ((((E.alloc _).alloc _).drew 1).getBox 0 rfl)) (by omega) (by omega) (fun p e => by have h := own_fresh o3 p e; simp at h; omega) q20 q21 q22
    · case rel =>
        refine ⟨_, rfl, ?_⟩
        exact fil_set (vf_cm (w := w) (N := N) hb3 o3 hk3 ((E.alloc _).drew 1).bel (((E.alloc _).drew 1).getBox 0 rfl)) (by omega) (by omega) (fun p e => by have h := own_fresh o3 p e; simp at h; omega) r10 r11 r12
    · case rel =>
        refine ⟨_, rfl, ?_⟩
        have hg := heap_alloc_new ((w.alloc (.cells #[.bool false, .slice none 0 0, .slice none 0 0] 24)).alloc (.cells #[.bool false, .slice none 0 0, .slice none 0 0] 24)) (.cells (roomCells N) 3)
        rw [World.size_alloc, World.size_alloc] at hg
        exact fil_set (vf_mc (w := w) (N := N) hb3 o3 hk3 hg (by omega) (((E.alloc _).alloc _).drew 1).bel ((((E.alloc _).alloc _).drew 1).getBox 0 rfl)) (by omega) (by omega) (fun p e => by have h := own_fresh o3 p e; simp at h; omega) q10 q11 q12
  case rest =>
    obtain ⟨Bo, rfl, a3, k3, gd, hV, hne, hwB, c0, c1, c2⟩ := hcut
    obtain ⟨v1, v2, v3, v4, v5, v6, v7⟩ := hV
    have hroom := own_room2 v1 (show w.heap.size + 1 ≤ gd by omega) (show N ≤ maxLen by unfold maxLen; omega)
    have lgd := lt_heap v1
    have hRne : w.heap.size ≠ gd := by omega
    have hBne : Bo ≠ gd := Ne.symm hne
    replace v1 := Lib.hid v1
    replace hroom := Lib.hid hroom
    replace hmk := Lib.hid hmk
    clear hS0 E rs
    go_wp2
    go_loopw [20] (fun v wr => ∃ (i : Nat) (l : List Int), i ≤ N ∧ v = .int .i64 i ∧ M.seqE i T = .ok l ∧ Own wr (w.heap.size + 1) (.slice (some ⟨gd, 0, none⟩) N N) (l ++ List.replicate (N - i) 0) ∧ But gd wc wr ∧ Below w.heap.size w wr) (fun v _ => N - (intOf v).toNat)
    case atStart => exact ⟨0, [], Nat.zero_le _, rfl, rfl, by rw [List.nil_append, Nat.sub_zero]; exact hroom.out, But.refl _ _, v7⟩
    case round =>
      obtain ⟨i, l, hi, rfl, hseq, hown, hbut, hbel⟩ := hrel
      have hll := seqE_length hseq
      by_cases hlt : i < N
      · have k2 := (cell_of_eq (hbut Bo (World.block_lt_of_cell? wc _ c2) hBne) 2).trans c2
        have kfr := own_frozen hown i
        have kc := own_cell hown (i := i) (by simp; omega)
        have hstore := fun n v => own_store (w := wr.drewN n) hown (i := i) (by simp; omega) v
        simp only [fill_set' hll hlt] at hstore
        have hRw := v6.same9 (hbut w.heap.size (v6.lt) hRne)
        have hcall := hT.out i hlt wr hbel
        generalize (l ++ List.replicate (N - i) 0).getD i 0 = cx at kc
        replace hll := Lib.hid hll
        replace hown := Lib.hid hown
        replace hcall := Lib.hid hcall
        replace hstore := Lib.hid hstore
        replace hbut := Lib.hid hbut
        clear c0 c1 c2 lgd
        cases hTi : T i with
        | error x =>
          have hr := Lib.hid (fill_error (s := s) hseq hlt hTi)
          replace hTi := Lib.hid hTi
          replace hseq := Lib.hid hseq
          go_wp2_with fail
          refine hcall.out.mono ?_
          rintro e w5 ⟨rfl, n5, rfl⟩
          rw [hTi.out]
          dsimp only [resI]
          have hb5 := below_drewN hbel n5
          have hR5 : BoxF (wr.drewN n5) w.heap.size false none 0 0 none 0 0 := hRw
          obtain ⟨⟨z0, z1, z2⟩, y0, y1, y2⟩ := hR5
          clear kc kfr k2
          generalize wr.drewN n5 = wq at *
          go_wp2
          refine bodyPost_ret (v := .tuple #[arrV false none 0 0 none 0 0, .iface 46 (.int .i64 x)]) (by simp [results, Tryz.results210, go_sem, cell?_set_same, z0, z1, z2]) rfl ?_
          exact .error hr.out rfl (set3 hb5 (Nat.le_refl _) _ _ _)
        | ok x =>
          have hnx := Lib.hid (seqE_next hseq hTi)
          replace hTi := Lib.hid hTi
          replace hseq := Lib.hid hseq
          go_wp2_with fail
          refine hcall.out.mono ?_
          rintro e w5 ⟨rfl, n5, rfl⟩
          rw [hTi.out]
          dsimp only [resI]
          have hs5 := hstore.out n5 x
          have k25 := cell_drewN k2 n5
          have kc5 := cell_drewN kc n5
          have kf5 : (wr.drewN n5).frozen? ⟨gd, i, none⟩ = false := kfr
          have hb5 := below_drewN hbel n5
          have hbu5 : But gd wc (wr.drewN n5) := hbut.out
          replace hs5 := Lib.hid hs5
          replace hbu5 := Lib.hid hbu5
          clear kc kfr k2
          generalize wr.drewN n5 = wq at *
          go_wp2
          go_roundw
          case rel => exact ⟨i + 1, l ++ [x], by omega, by go_num, hnx.out, hs5.out, hbu5.out.set _ _, hb5.setCell (p := ⟨gd, i, none⟩) (by show w.heap.size ≤ gd; omega) _⟩
          case measure => simp [intOf]; omega
      · obtain rfl : i = N := by omega
        have eB := hbut Bo (World.block_lt_of_cell? wc _ c2) hBne
        have k0 := (cell_of_eq eB 0).trans c0
        have k1 := (cell_of_eq eB 1).trans c1
        have k2 := (cell_of_eq eB 2).trans c2
        have hRw := v6.same9 (hbut w.heap.size (v6.lt) hRne)
        rw [Nat.sub_self, List.replicate_zero, List.append_nil] at hown
        have hr := Lib.hid (show M.fillE s i T = .ok ⟨false, s, l⟩ by unfold M.fillE; rw [hseq])
        have ra : Row wr a3 s := by
          intro j hj
          obtain ⟨b, o, rfl, hc⟩ := v2 j hj
          exact ⟨b, o, rfl, (cell_of_eq (hbut b (World.block_lt_of_cell? _ _ hc) (v3 _ rfl).2) (o + j)).trans hc⟩
        have rb := hown.row
        obtain ⟨⟨z0, z1, z2⟩, y0, y1, y2⟩ := hRw
        replace hseq := Lib.hid hseq
        replace hown := Lib.hid hown
        replace hbut := Lib.hid hbut
        replace hll := Lib.hid hll
        clear c0 c1 c2 eB
        go_wp2
        refine bodyPost_ret (v := .tuple #[arrV false a3 s.length k3 (some ⟨gd, 0, none⟩) i i, .nilIface]) (by simp [results, Tryz.results210, go_sem, cell?_set_same, z0, z1, z2]) rfl ?_
        have hk : ∀ (u0 u1 u2 : Value) (b : Nat), b ≠ w.heap.size → (((wr.setCell ⟨w.heap.size, 0, none⟩ u0).setCell ⟨w.heap.size, 1, none⟩ u1).setCell ⟨w.heap.size, 2, none⟩ u2).heap[b]? = wr.heap[b]? := fun u0 u1 u2 b hb => by
          rw [Below.heap_setCell _ _ _ b hb, Below.heap_setCell _ _ _ b hb, Below.heap_setCell _ _ _ b hb]
        refine ArrPostF.ok (x := ⟨false, s, l⟩) hr.out (by rw [hll.out]) ?_ ?_ (fun p e => Nat.le_of_lt (v3 p e).1) (fun p e => by cases e; exact Nat.le_of_lt v5) v4 (set3 hbel (Nat.le_refl _) _ _ _)
        · intro j hj
          obtain ⟨b, o, rfl, hc⟩ := ra j hj
          exact ⟨b, o, rfl, (cell_of_eq (hk _ _ _ b (Nat.ne_of_gt (v3 _ rfl).1)) (o + j)).trans hc⟩
        · intro j hj
          obtain ⟨b, o, e, hc⟩ := rb j hj
          cases e
          exact ⟨gd, 0, rfl, (cell_of_eq (hk _ _ _ gd (Nat.ne_of_gt v5)) (0 + j)).trans hc⟩
end Go.Proofs.YtaplaoelamnoiaaGreatDoor

/- The call cut.window on a list. Condition: a window that lies in the list. -/
namespace Go.Proofs.YtaplaoelamnoiaaGreatDoor
open Go.RowKit

set_option maxRecDepth 20000 in
set_option maxHeartbeats 4000000 in
theorem fillC_any (a : Option Addr) (m c : Nat) (b : Option Addr) (n k : Nat) (w : World) :
    Calls Tryz.prog 201 #[arrV false a m c b n k] w fun en w' => en = .returned (.int .i64 0) ∧ Below w.heap.size w w' := by
  go_enter Tryz.func201, Tryz.ntmps201
  go_wp2
  go_ret
  exact ⟨rfl, push (start w) _⟩

/-- The array that is to be filled, in its own variable: room, and no cell yet. -/
def WinAt (w : World) (s : List Int) (N Bo : Nat) (wx : World) : Prop :=
  ∃ a3 k3 gd, VF w s N gd a3 k3 wx ∧ gd ≠ Bo ∧ (∀ p, a3 = some p → p.block ≠ Bo) ∧ w.heap.size < Bo ∧ (wx.cell? ⟨Bo, 0, none⟩ = some (.bool false) ∧ wx.cell? ⟨Bo, 1, none⟩ = some (.slice a3 s.length k3) ∧ wx.cell? ⟨Bo, 2, none⟩ = some (.slice (some ⟨gd, 0, none⟩) 0 N)) ∧ wx.frozen? ⟨Bo, 2, none⟩ = false
theorem win_mk {w V : World} {s : List Int} {N gd : Nat} {a3 : Option Addr} {k3 : Nat} (h : VF w s N gd a3 k3 V) (hs : 0 < s.length) : WinAt w s N V.heap.size (V.alloc (.cells #[.bool false, .slice a3 s.length k3, .slice (some ⟨gd, 0, none⟩) 0 N] 24)) := by
  refine ⟨a3, k3, gd, h.step (push (start V) _), Nat.ne_of_lt (lt_heap h.1), ?_, h.2.2.2.2.2.1.lt, ⟨by simp, by simp, by simp⟩, by simp [go_sem]⟩
  rintro p rfl
  obtain ⟨b, o, e, hc⟩ := h.2.1 0 hs
  cases e
  exact Nat.ne_of_lt (World.block_lt_of_cell? _ _ hc)
theorem win_set {w V : World} {s : List Int} {N gd Bo : Nat} {a3 : Option Addr} {k3 : Nat} {z0 z1 z2 : Value} (h : VF w s N gd a3 k3 V) (hne : gd ≠ Bo) (hw : w.heap.size < Bo) (ha : ∀ p, a3 = some p → p.block ≠ Bo)
    (c0 : V.cell? ⟨Bo, 0, none⟩ = some z0) (c1 : V.cell? ⟨Bo, 1, none⟩ = some z1) (c2 : V.cell? ⟨Bo, 2, none⟩ = some z2) (f2 : V.frozen? ⟨Bo, 2, none⟩ = false) :
    WinAt w s N Bo (((V.setCell ⟨Bo, 0, none⟩ (.bool false)).setCell ⟨Bo, 1, none⟩ (.slice a3 s.length k3)).setCell ⟨Bo, 2, none⟩ (.slice (some ⟨gd, 0, none⟩) 0 N)) := by
  have hk : ∀ b, b ≠ Bo → (((V.setCell ⟨Bo, 0, none⟩ (.bool false)).setCell ⟨Bo, 1, none⟩ (.slice a3 s.length k3)).setCell ⟨Bo, 2, none⟩ (.slice (some ⟨gd, 0, none⟩) 0 N)).heap[b]? = V.heap[b]? := fun b hb => by
    rw [Below.heap_setCell _ _ _ b hb, Below.heap_setCell _ _ _ b hb, Below.heap_setCell _ _ _ b hb]
  obtain ⟨h1, h2, h3, h4, h5, h6, h7⟩ := h
  refine ⟨a3, k3, gd, ⟨(hk gd hne).trans h1, ?_, h3, h4, h5, h6.same9 (hk _ (by omega)), set3 h7 (by omega) _ _ _⟩, hne, ha, hw, ⟨?_, ?_, ?_⟩, ?_⟩
  · intro i hi
    obtain ⟨b, o, rfl, hc⟩ := h2 i hi
    exact ⟨b, o, rfl, (cell_of_eq (hk b (ha _ rfl)) (o + i)).trans hc⟩
  · rw [World.cell?_setCell_other _ _ _ _ (by simp), World.cell?_setCell_other _ _ _ _ (by simp)]
    exact cell?_set_same _ _ _ (by rw [c0]; rfl)
  · rw [World.cell?_setCell_other _ _ _ _ (by simp)]
    exact cell?_set_same _ _ _ (by rw [World.cell?_setCell_other _ _ _ _ (by simp), c1]; rfl)
  · exact cell?_set_same _ _ _ (by rw [World.cell?_setCell_other _ _ _ _ (by simp), World.cell?_setCell_other _ _ _ _ (by simp), c2]; rfl)
  · rw [World.frozen?_setCell, World.frozen?_setCell, World.frozen?_setCell]; exact f2
theorem own_room0 {W : World} {n g B : Nat} (h : W.heap[g]? = some (.cells (roomCells n) 3 (0, 0))) (hB : B ≤ g) (hn : n ≤ maxLen) : Own W B (.slice (some ⟨g, 0, none⟩) 0 n) [] :=
  ⟨rfl, .inr ⟨g, n, roomCells n, rfl, hB, h, Nat.zero_le _, hn, by simp [roomCells], by simp⟩⟩
theorem win_take {d : List Int} {k i : Nat} (h : k + i < d.length) : (d.drop k).take (i + 1) = (d.drop k).take i ++ [d.getD (i + k) 0] := by
  have e : d.getD (i + k) 0 = d[k + i] := by rw [Nat.add_comm i k]; simp [h]
  rw [e, List.take_succ_eq_append_getElem (by simp; omega), List.getElem_drop]
/-- The window is filled as far as i. -/
def WinC (wR wa : World) (m gd gat Bo : Nat) (sv : Value) (ys : List Int) (i : Nat) (wr : World) : Prop :=
  (wr.cell? ⟨Bo, 0, none⟩ = some (.bool false) ∧ wr.cell? ⟨Bo, 1, none⟩ = some sv ∧ wr.cell? ⟨Bo, 2, none⟩ = some (.slice (some ⟨gd, 0, none⟩) i m)) ∧ wr.frozen? ⟨Bo, 2, none⟩ = false ∧
  ys.length = i ∧ Own wr (wR.heap.size + 1) (.slice (some ⟨gd, 0, none⟩) ys.length m) ys ∧ (∃ u, wr.cell? ⟨gat, 0, none⟩ = some u) ∧ wr.frozen? ⟨gat, 0, none⟩ = false ∧
  (∀ b, b < wa.heap.size → b ≠ gd → b ≠ gat → b ≠ Bo → wr.heap[b]? = wa.heap[b]?) ∧ Below wR.heap.size wR wr ∧ wa.heap.size ≤ wr.heap.size
theorem winC_drew {wR wa wr : World} {m gd gat Bo : Nat} {sv : Value} {ys : List Int} {i : Nat} (h : WinC wR wa m gd gat Bo sv ys i wr) (n : Nat) : WinC wR wa m gd gat Bo sv ys i (wr.drewN n) := by
  obtain ⟨h1, h2, h3, h4, h5, h6, h7, h8, h9⟩ := h
  exact ⟨h1, h2, h3, h4, h5, h6, h7, below_drewN h8 n, h9⟩
theorem winC_put {wR wa wr : World} {m gd gat Bo : Nat} {sv : Value} {ys : List Int} {i : Nat} (h : WinC wR wa m gd gat Bo sv ys i wr) (h1 : gat ≠ gd) (h2 : gat ≠ Bo) (h3 : wR.heap.size ≤ gat) (u : Value) :
    WinC wR wa m gd gat Bo sv ys i (wr.setCell ⟨gat, 0, none⟩ u) ∧ (wr.setCell ⟨gat, 0, none⟩ u).cell? ⟨gat, 0, none⟩ = some u := by
  obtain ⟨⟨b0, b1, b2⟩, bf, hl, hO, ⟨u0, hu⟩, hf, hr, hb, hs⟩ := h
  have hk : ∀ b, b ≠ gat → (wr.setCell ⟨gat, 0, none⟩ u).heap[b]? = wr.heap[b]? := fun b hb => Below.heap_setCell _ _ _ b hb
  have hc : (wr.setCell ⟨gat, 0, none⟩ u).cell? ⟨gat, 0, none⟩ = some u := cell?_set_same _ _ _ (by rw [hu]; rfl)
  refine ⟨⟨⟨(cell_of_eq (hk Bo h2.symm) _).trans b0, (cell_of_eq (hk Bo h2.symm) _).trans b1, (cell_of_eq (hk Bo h2.symm) _).trans b2⟩, (frozen_of_eq (hk Bo h2.symm) _).trans bf, hl, own_same hO (hk gd h1.symm), ⟨u, hc⟩, ?_, fun b k1 k2 k3 k4 => (hk b k3).trans (hr b k1 k2 k3 k4), hb.setCell h3 _, by simpa using hs⟩, hc⟩
  rw [World.frozen?_setCell]; exact hf
theorem winC_app {wR wa wr w5 w6 : World} {m gd gat Bo : Nat} {sv : Value} {ys : List Int} {i : Nat} {n : Int} (h : WinC wR wa m gd gat Bo sv ys i wr) (hb5 : Below wr.heap.size wr w5) (h1 : gat ≠ gd) (h2 : gat ≠ Bo) (h4 : gd ≠ Bo) (h3 : wR.heap.size < Bo)
    (ho6 : Own w6 (wR.heap.size + 1) (.slice (some ⟨gd, 0, none⟩) (i + 1) m) (ys ++ [n])) (hbut : But gd w5 w6) (hbe : Below (wR.heap.size + 1) w5 w6) (hs6 : w6.heap.size = w5.heap.size + 1) :
    WinC wR wa m gd gat Bo sv (ys ++ [n]) (i + 1) (w6.setCell ⟨Bo, 2, none⟩ (.slice (some ⟨gd, 0, none⟩) (i + 1) m)) ∧
    (w6.setCell ⟨Bo, 2, none⟩ (.slice (some ⟨gd, 0, none⟩) (i + 1) m)).cell? ⟨gat, 0, none⟩ = wr.cell? ⟨gat, 0, none⟩ := by
  obtain ⟨⟨b0, b1, b2⟩, bf, hl, hO, ⟨u0, hu⟩, hf, hr, hb, hs⟩ := h
  have lB := World.block_lt_of_cell? wr _ b0
  have lA := World.block_lt_of_cell? wr _ hu
  have hs5 := hb5.size
  have e5 : ∀ b, b < wr.heap.size → b ≠ gd → w6.heap[b]? = wr.heap[b]? := fun b k1 k2 => (hbut b (by omega) k2).trans (hb5.block b k1)
  have hk : ∀ b, b ≠ Bo → (w6.setCell ⟨Bo, 2, none⟩ (.slice (some ⟨gd, 0, none⟩) (i + 1) m)).heap[b]? = w6.heap[b]? := fun b hb => Below.heap_setCell _ _ _ b hb
  have eB := e5 Bo lB h4.symm
  have eA := (hk gat h2).trans (e5 gat lA h1)
  have c6 : w6.cell? ⟨Bo, 2, none⟩ = some (.slice (some ⟨gd, 0, none⟩) i m) := (cell_of_eq eB 2).trans b2
  refine ⟨⟨⟨?_, ?_, cell?_set_same _ _ _ (by rw [c6]; rfl)⟩, ?_, by rw [List.length_append, hl]; rfl, ?_, ⟨u0, (cell_of_eq eA 0).trans hu⟩, (frozen_of_eq eA 0).trans hf, ?_, ?_, ?_⟩, cell_of_eq eA 0⟩
  · rw [World.cell?_setCell_other _ _ _ _ (by simp)]; exact (cell_of_eq eB 0).trans b0
  · rw [World.cell?_setCell_other _ _ _ _ (by simp)]; exact (cell_of_eq eB 1).trans b1
  · rw [World.frozen?_setCell]; exact (frozen_of_eq eB 2).trans bf
  · have e : (ys ++ [n]).length = i + 1 := by rw [List.length_append, hl]; rfl
    rw [e]
    exact own_same ho6 (hk gd h4)
  · exact fun b k1 k2 k3 k4 => (hk b k4).trans ((e5 b (by omega) k2).trans (hr b k1 k2 k3 k4))
  · exact (((hb.trans (hb5.mono hb.size)).trans (hbe.mono (by omega))).setCell (by show wR.heap.size ≤ Bo; omega) _)
  · simp; omega

set_option maxRecDepth 20000 in
set_option maxHeartbeats 8000000 in
theorem window_any (ao : Option Addr) (co : Nat) (ah : Option Addr) (cs : Nat) (k m : Nat) (d : List Int) (a : Option Addr) (c : Nat) (b : Option Addr) (kk : Nat) (w : World) (hkm : k + m ≤ d.length) (h4 : d.length ≤ 4096)
    (ho : Row w ao [(k : Int)]) (hsh : Row w ah [(m : Int)]) (hs : Row w a [(d.length : Int)]) (hd : Row w b d) :
    Calls Tryz.prog 198 #[arrV false a 1 c b d.length kk, .slice ao 1 co, .slice ah 1 cs] w fun en w' => ∃ (a5 : Option Addr) (c5 : Nat) (b5 : Option Addr) (k5 : Nat), en = .returned (arrV false a5 1 c5 b5 m k5) ∧ Row w' a5 [(m : Int)] ∧ Row w' b5 ((d.drop k).take m) ∧ Fresh w a5 ∧ Fresh w b5 ∧ 1 ≤ c5 ∧ Below w.heap.size w w' := by
  have kc := fun W h => count_any ah [(m : Int)] 1 cs W h (by simp [maxLen]) rfl
  rw [count_one (show m ≤ 4096 by omega)] at kc
  have E0 := ((((Env.start w).addRow hsh).addRow ho).addRow hd).addRow hs
  replace E0 := E0.box false a 1 c b d.length kk
  obtain ⟨wR, hwR⟩ : ∃ wR : World, wR = w.alloc (.cells #[.bool false, .slice a 1 c, .slice b d.length kk] 24) := ⟨_, rfl⟩
  have swR : wR.heap.size = w.heap.size + 1 := by rw [hwR]; simp
  rw [← hwR] at E0
  have hbw := E0.bel
  have E : Env wR wR _ := ⟨Below.refl _ _, E0.2⟩
  replace E := E.box false none 0 0 none 0 0
  obtain ⟨W, hWe⟩ : ∃ W : World, W = wR.alloc (.cells #[.bool false, .slice none 0 0, .slice none 0 0] 24) := ⟨_, rfl⟩
  rw [← hWe] at E
  have hWe' : Hid ((w.alloc (.cells #[.bool false, .slice a 1 c, .slice b d.length kk] 24)).alloc (.cells #[.bool false, .slice none 0 0, .slice none 0 0] 24) = W) := Lib.hid (by rw [hWe, hwR])
  replace hWe := Lib.hid hWe
  replace hwR := Lib.hid hwR
  replace hbw := Lib.hid hbw
  replace swR := Lib.hid swR
  replace kc := Lib.hid kc
  replace E0 := Lib.hid E0
  replace E := Lib.hid E
  clear hs hd ho hsh
  go_enter Tryz.func198, Tryz.ntmps198
  go_wp2_with fail
  rw [hWe'.out]
  refine (kc.out W (E.out.getRow 5 rfl)).mono ?_
  rintro en w1 ⟨rfl, hw1⟩
  subst hw1
  dsimp only [resI]
  go_upto_region 2 with fail
  have nn1 : W.heap.size ≠ w.heap.size := by have := (E.out.getBox 1 rfl).lt; omega
  have nn2 : W.heap.size + 1 ≠ w.heap.size := by have := (E.out.getBox 1 rfl).lt; omega
  have hlx := (E.out.getBox 1 rfl).lt
  have rs := E.out.getRow 5 rfl
  have hmk := run_make_room0 m (show m < 17592186044416 by omega)
  have hS0 : W.drew.cell? ⟨w.heap.size, 0, none⟩ = some (.bool false) ∧ W.drew.cell? ⟨w.heap.size, 1, none⟩ = some (.slice a 1 c) ∧ W.drew.cell? ⟨w.heap.size, 2, none⟩ = some (.slice b d.length kk) := (E.out.getBox 1 rfl).1
  obtain ⟨x0, x1, x2⟩ := (E.out.getBox 1 rfl).1
  obtain ⟨sl, hsl⟩ : ∃ sl : List Int, sl = [(m : Int)] := ⟨_, rfl⟩
  have hsl1 : Hid (sl.length = 1) := Lib.hid (by rw [hsl]; rfl)
  rw [← hsl] at rs
  replace hsl := Lib.hid hsl
  go_cut [9] from 10 (fun s9 wx => ∃ Bo, s9 = .pointer (some ⟨Bo, 0, none⟩) ∧ W.heap.size ≤ Bo ∧ Below W.heap.size W wx ∧ WinAt wR sl m Bo wx)
  case first =>
    go_region_held3 (fun w' => w'.cell? ⟨w.heap.size, 0, none⟩ = some (.bool false) ∧ w'.cell? ⟨w.heap.size, 1, none⟩ = some (.slice a 1 c) ∧ w'.cell? ⟨w.heap.size, 2, none⟩ = some (.slice b d.length kk))
      (first | go_keep | (exact held3 hb3 (by assumption)) | (exact alloc3 hS0 _) | (exact alloc3 (alloc3 hS0 _) _))
      (first
        | (go_at_call 72; refine (clone_any ah sl 1 cs _ (by first | exact rs.drewN 1 | exact (rs.alloc _).drewN 1 | exact ((rs.alloc _).alloc _).drewN 1) (by have := hsl1.out; omega) hsl1.out.symm).mono ?_; rintro e w3 ⟨v3, rfl, o3, hb3⟩; obtain ⟨hX0, hX1, hX2⟩ := held3 (N := w.heap.size) (x := .bool false) (y := .slice a 1 c) (z := .slice b d.length kk) hb3 (by first | exact hS0 | exact alloc3 hS0 _ | exact alloc3 (alloc3 hS0 _) _); obtain ⟨a3, k3, rfl, hk3, -, -⟩ := o3.view; have q10 := hb3.cell (p := ⟨W.heap.size, 0, none⟩); have q11 := hb3.cell (p := ⟨W.heap.size, 1, none⟩); have q12 := hb3.cell (p := ⟨W.heap.size, 2, none⟩); have q20 := hb3.cell (p := ⟨W.heap.size + 1, 0, none⟩); have q21 := hb3.cell (p := ⟨W.heap.size + 1, 1, none⟩); have q22 := hb3.cell (p := ⟨W.heap.size + 1, 2, none⟩); have p10 := hb3.frozen (p := ⟨W.heap.size, 0, none⟩); have p11 := hb3.frozen (p := ⟨W.heap.size, 1, none⟩); have p12 := hb3.frozen (p := ⟨W.heap.size, 2, none⟩); have p20 := hb3.frozen (p := ⟨W.heap.size + 1, 0, none⟩); have p21 := hb3.frozen (p := ⟨W.heap.size + 1, 1, none⟩); have p22 := hb3.frozen (p := ⟨W.heap.size + 1, 2, none⟩); try simp [go_sem] at q10; try simp [go_sem] at q11; try simp [go_sem] at q12; try simp [go_sem] at q20; try simp [go_sem] at q21; try simp [go_sem] at q22; try simp [go_sem] at p10; try simp [go_sem] at p11; try simp [go_sem] at p12; try simp [go_sem] at p20; try simp [go_sem] at p21; try simp [go_sem] at p22; have s3 := hb3.size; try simp at s3; (first | (have r1 : _ ∧ _ ∧ _ := alloc3 (x := .bool false) (y := .slice none 0 0) (z := .slice none 0 0) ⟨q10, q11, q12⟩ (.cells (roomCells m) 3); have v1 := falloc3 (w := w3) (N := W.heap.size) (by omega) ⟨p10, p11, p12⟩ (.cells (roomCells m) 3); obtain ⟨r10, r11, r12⟩ := r1; obtain ⟨v10, v11, v12⟩ := v1) | skip)))
    all_goals go_wp2
    all_goals go_meet
    · case rel =>
        refine ⟨_, rfl, by omega, below_trans (below_trans ((Env.start W).drew 1).bel hb3) (push (push (start w3) _) _), ?_⟩
        have h := win_mk (vf_cm (w := wR) (N := m) hb3 o3 hk3 (E.out.drew 1).bel ((E.out.drew 1).getBox 0 rfl)) (by have := hsl1.out; omega)
        rw [World.size_alloc] at h
        exact h
    · case rel =>
        have h := vf_cm (w := wR) (N := m) (hb3.alloc hb3.size (.cells #[.bool false, .slice a3 sl.length k3, .slice (some ⟨w3.heap.size + 1, 0, none⟩) 0 m] 24)) (o3.below (push (start w3) _)) hk3 (E.out.drew 1).bel ((E.out.drew 1).getBox 0 rfl)
        rw [World.size_alloc] at h
        have hoa : ∀ p, a3 = some p → p.block ≠ w3.heap.size := by
          rintro p rfl
          obtain ⟨b, o, e, hc⟩ := o3.row 0 (by have := hsl1.out; omega)
          cases e
          exact Nat.ne_of_lt (World.block_lt_of_cell? _ _ hc)
        refine ⟨_, rfl, by omega, below_trans (below_trans ((Env.start W).drew 1).bel hb3) (push (push (start w3) _) _), a3, k3, w3.heap.size + 1, h, by omega, hoa, ?_, ⟨?_, ?_, ?_⟩, ?_⟩
        · have := (((E.out.drew 1).step hb3).getBox 0 rfl).lt; exact this
        · simp [go_sem]
        · simp [go_sem]
        · simp [go_sem]
        · simp [go_sem]
    · case rel =>
        refine ⟨_, rfl, by omega, below_trans (below_trans (((Env.start W).alloc (.cells (roomCells m) 3)).drew 1).bel hb3) (push (start w3) _), ?_⟩
        have hg := heap_alloc_new W (.cells (roomCells m) 3)
        exact win_mk (vf_mc (w := wR) (N := m) hb3 o3 hk3 hg (E.out.getBox 0 rfl).lt ((E.out.alloc _).drew 1).bel (((E.out.alloc _).drew 1).getBox 0 rfl)) (by have := hsl1.out; omega)
    · case rel =>
        refine ⟨_, rfl, by omega, set3 (below_trans ((((Env.start W).alloc (.cells (roomCells m) 3)).alloc (.cells #[.bool false, .slice none 0 0, .slice none 0 0] 24)).drew 1).bel hb3) (by omega) _ _ _, ?_⟩
        have hg := heap_alloc_new W (.cells (roomCells m) 3)
        have hg2 := (heap_alloc_old _ (.cells #[.bool false, .slice none 0 0, .slice none 0 0] 24) (lt_heap hg)).trans hg
        exact win_set (vf_mc (w := wR) (N := m) hb3 o3 hk3 hg2 (E.out.getBox 0 rfl).lt (((E.out.alloc _).alloc _).drew 1).bel ((((E.out.alloc _).alloc _).drew 1).getBox 0 rfl)) (by omega) (by have := (E.out.getBox 0 rfl).lt; omega) (fun p e => by have h := own_fresh o3 p e; simp at h; omega) q20 q21 q22 p22
    · case rel =>
        refine ⟨_, rfl, by omega, set3 (below_trans (below_trans (((Env.start W).alloc (.cells #[.bool false, .slice none 0 0, .slice none 0 0] 24)).drew 1).bel hb3) (push (start w3) _)) (by omega) _ _ _, ?_⟩
        exact win_set (vf_cm (w := wR) (N := m) hb3 o3 hk3 ((E.out.alloc _).drew 1).bel (((E.out.alloc _).drew 1).getBox 0 rfl)) (by omega) (E.out.getBox 0 rfl).lt (fun p e => by have h := own_fresh o3 p e; simp at h; omega) r10 r11 r12 v12
    · case rel =>
        refine ⟨_, rfl, by omega, set3 (below_trans ((((Env.start W).alloc (.cells #[.bool false, .slice none 0 0, .slice none 0 0] 24)).alloc (.cells (roomCells m) 3)).drew 1).bel hb3) (by omega) _ _ _, ?_⟩
        have hg := heap_alloc_new (W.alloc (.cells #[.bool false, .slice none 0 0, .slice none 0 0] 24)) (.cells (roomCells m) 3)
        rw [World.size_alloc] at hg
        exact win_set (vf_mc (w := wR) (N := m) hb3 o3 hk3 hg (by have := (E.out.getBox 0 rfl).lt; omega) (((E.out.alloc _).alloc _).drew 1).bel ((((E.out.alloc _).alloc _).drew 1).getBox 0 rfl)) (by omega) (E.out.getBox 0 rfl).lt (fun p e => by have h := own_fresh o3 p e; simp at h; omega) q10 q11 q12 p12
  case rest =>
    obtain ⟨Bo, rfl, hBo, hbx, a3, k3, gd, hV, hne, hna, hwB, ⟨c0, c1, c2⟩, cf⟩ := hcut
    obtain ⟨v1, v2, v3, v4, v5, v6, v7⟩ := hV
    rw [hsl1.out] at c1 v4
    have hroom := own_room0 v1 (show wR.heap.size + 1 ≤ gd by omega) (show m ≤ maxLen by unfold maxLen; omega)
    have lgd := lt_heap v1
    have lBo : Bo < wc.heap.size := World.block_lt_of_cell? wc _ c0
    obtain ⟨wa, hwa⟩ : ∃ wa : World, wa = wc.alloc (.cells (roomCells 1) 3) := ⟨_, rfl⟩
    have hba : Below wc.heap.size wc wa := by rw [hwa]; exact push (start wc) _
    have swa : wa.heap.size = wc.heap.size + 1 := by rw [hwa]; simp
    have hmk1 : (Instr.makeSlice 22 (.int .i64 1) (.int .i64 1)).run Tryz.prog wc = .ok (.slice (some ⟨wc.heap.size, 0, none⟩) 1 1) wa := by rw [hwa]; exact run_make_room 1 1 (Nat.le_refl _) (by omega) wc
    have g0 : wa.cell? ⟨wc.heap.size, 0, none⟩ = some (.int .i64 0) := by rw [hwa]; simp [roomCells]
    have gf : wa.frozen? ⟨wc.heap.size, 0, none⟩ = false := by rw [hwa]; simp [go_sem]
    have hWin0 : WinC wR wa m gd wc.heap.size Bo (.slice a3 1 k3) [] 0 wa :=
      ⟨⟨(hba.cell (by exact lBo)).trans c0, (hba.cell (by exact lBo)).trans c1, (hba.cell (by exact lBo)).trans c2⟩, (hba.frozen (by exact lBo)).trans cf, rfl, hroom.below hba, ⟨_, g0⟩, gf, fun _ _ _ _ _ => rfl, below_trans v7 hba, Nat.le_refl _⟩
    obtain ⟨gat, hgat⟩ : ∃ gat, gat = wc.heap.size := ⟨_, rfl⟩
    rw [← hgat] at hmk1 g0 gf hWin0 swa lgd lBo
    have n1 : gat ≠ gd := by omega
    have n2 : gat ≠ Bo := by omega
    have n3 : wR.heap.size < gat := by omega
    have n4 : w.heap.size ≠ Bo := by have := swR.out; omega
    have n5 : w.heap.size ≠ gat := by have := swR.out; omega
    have n6 : w.heap.size ≠ gd := by have := swR.out; omega
    replace v1 := Lib.hid v1
    replace v2 := Lib.hid v2
    replace v3 := Lib.hid v3
    replace v4 := Lib.hid v4
    replace v6 := Lib.hid v6
    replace v7 := Lib.hid v7
    replace hroom := Lib.hid hroom
    replace hbx := Lib.hid hbx
    replace hba := Lib.hid hba
    replace hwa := Lib.hid hwa
    replace hgat := Lib.hid hgat
    replace swa := Lib.hid swa
    replace hna := Lib.hid hna
    replace hWin0 := Lib.hid hWin0
    have g0' := Lib.hid g0
    clear hS0 rs hmk x0 x1 x2 c0 c1 c2 cf g0 gf
    go_wp2
    go_loopw [34] (fun v wr => ∃ i : Nat, v = .int .i64 i ∧ i ≤ m ∧ WinC wR wa m gd gat Bo (.slice a3 1 k3) ((d.drop k).take i) i wr ∧ (i < m → wr.cell? ⟨gat, 0, none⟩ = some (.int .i64 i))) (fun v _ => m - (intOf v).toNat)
    case atStart => exact ⟨0, rfl, Nat.zero_le _, hWin0.out, fun _ => g0'.out⟩
    case round =>
      obtain ⟨i, rfl, hi, hWin, hat⟩ := hrel
      have EX := E0.out.step hWin.2.2.2.2.2.2.2.1
      obtain ⟨wo, hwo⟩ : ∃ wo : World, wo = wr := ⟨_, rfl⟩
      subst hwo
      by_cases hlt : i < m
      · have kat := hat hlt
        obtain ⟨⟨y0, y1, y2⟩, -⟩ := EX.getBox 0 rfl
        obtain ⟨ba, oa, rfl, kA⟩ := EX.getRow 1 rfl 0 (by simp)
        obtain ⟨bo, oo, rfl, kO⟩ := EX.getRow 3 rfl 0 (by simp)
        simp only [List.getD_cons_zero, Nat.add_zero] at kA kO
        obtain ⟨p, hp⟩ : ∃ p : Nat, i + k = p := ⟨_, rfl⟩
        have z0 : (0 : Int) ≤ (p : Int) := by omega
        have z1 : (p : Int) < (d.length : Int) := by omega
        have zz : ((p : Nat) : Int).toNat = p := by omega
        have z0' : (0 : Int) ≤ (i : Int) + (k : Int) := by omega
        have z1' : (i : Int) + (k : Int) < (d.length : Int) := by omega
        replace hp := Lib.hid hp
        replace hat := Lib.hid hat
        replace hWin := Lib.hid hWin
        replace EX := Lib.hid EX
        go_wp2
        go_loopw [38, 11, 12] (fun q pl ins wr => wr = wo ∧ ((q = .int .i64 0 ∧ pl = .int .i64 0 ∧ ins = .bool true) ∨ (q = .int .i64 1 ∧ pl = .int .i64 (p : Nat) ∧ ins = .bool true))) (fun q _ _ _ => 1 - (intOf q).toNat)
        case atStart => exact ⟨rfl, .inl ⟨rfl, rfl, rfl⟩⟩
        case round =>
          obtain ⟨rfl, hc⟩ := hrel
          rcases hc with ⟨rfl, rfl, rfl⟩ | ⟨rfl, rfl, rfl⟩
          · go_wp2
            go_roundw
            case rel => exact ⟨by trivial, .inr ⟨by go_num, by have := hp.out; go_num, rfl⟩⟩
            case measure => simp [intOf]
          · go_wp2_with fail
            refine (fillC_any _ _ _ _ _ _ _).mono ?_
            rintro en w5 ⟨rfl, hb5⟩
            have EY := EX.out.step hb5
            clear y0 y1 y2 kA kO kat
            obtain ⟨⟨y0, y1, y2⟩, -⟩ := EY.getBox 0 rfl
            obtain ⟨bd, od, rfl, kD⟩ := EY.getRow 2 rfl p (by omega)
            have lw := hb5.size
            obtain ⟨⟨b0, b1, b2⟩, bf, hyl, hO, ⟨u0, hu⟩, hf, hr, hbel, hsz⟩ := id hWin.out
            have lB := World.block_lt_of_cell? _ _ b0
            have c2 := (hb5.cell (by exact lB)).trans b2
            have cf := (hb5.frozen (by exact lB)).trans bf
            have hO5 := hO.below hb5
            have lB5 : Bo < w5.heap.size := Nat.lt_of_lt_of_le lB lw
            have hys := win_take (d := d) (k := k) (i := i) (by omega)
            rw [hp.out] at hys
            generalize d.getD p 0 = x at *
            replace hys := Lib.hid hys
            have hwapp := fun w6 h1 h2 h3 h4 => winC_app (n := x) (w6 := w6) hWin.out hb5 n1 n2 hne hwB h1 h2 h3 h4
            replace hwapp := Lib.hid hwapp
            replace hO5 := Lib.hid hO5
            replace hyl := Lib.hid hyl
            replace EY := Lib.hid EY
            clear b0 b1 b2 bf hO hu hf hr hbel hb5 hsz lB
            go_upto_region 18 with (first | (at_builtin; refine app_fit rfl (.tmp 82) (.tmp 84) rfl (wR.heap.size + 1) gd m i ((d.drop k).take i) x rfl hyl.out.symm hO5.out rfl (by rw [hyl.out]; exact hlt) ?_; intro w6 ho6 hbut6 hbe6 hs6; have c26 := (cell_of_eq (hbut6 Bo lB5 hne.symm) 2).trans c2; have cf6 := (frozen_of_eq (hbut6 Bo lB5 hne.symm) 2).trans cf; have hw7 := Lib.hid (hwapp.out w6 ho6 hbut6 hbe6 hs6); clear ho6 hbut6 hbe6 hs6) | fail)
            generalize w6.setCell ⟨Bo, 2, none⟩ (.slice (some ⟨gd, 0, none⟩) (i + 1) m) = w7 at *
            rw [← hys.out] at hw7
            obtain ⟨C7, hc7⟩ := hw7.out
            have kat7 := hc7.trans (hat.out hlt)
            have gf7 := C7.2.2.2.2.2.1
            have E7 := E0.out.step C7.2.2.2.2.2.2.2.1
            have h8 := winC_put C7 n1 n2 (Nat.le_of_lt n3) (.int .i64 ((i : Int) + 1))
            have h9 := fun W (h : WinC wR wa m gd gat Bo (.slice a3 1 k3) ((d.drop k).take (i + 1)) (i + 1) W) => (winC_put h n1 n2 (Nat.le_of_lt n3) (.int .i64 0)).1
            clear y0 y1 y2 kD c2 cf c26 cf6 hw7 hc7 lB5 lw
            replace C7 := Lib.hid C7
            replace E7 := Lib.hid E7
            replace h8 := Lib.hid h8
            replace h9 := Lib.hid h9
            go_wp2
            go_loopw [17] (fun q wr => (q = .int .i64 0 ∧ wr = w7) ∨ (q = .int .i64 (-1) ∧ i + 1 = m ∧ WinC wR wa m gd gat Bo (.slice a3 1 k3) ((d.drop k).take (i + 1)) (i + 1) wr)) (fun q _ => (intOf q + 1).toNat)
            case atStart => exact .inl ⟨rfl, rfl⟩
            case round =>
              rcases hrel with ⟨rfl, rfl⟩ | ⟨rfl, him, hW⟩
              · go_upto_region 22 with fail
                generalize wr.setCell ⟨gat, 0, none⟩ (.int .i64 ((i : Int) + 1)) = w8 at *
                obtain ⟨C8, kat8⟩ := h8.out
                have E8 := E0.out.step C8.2.2.2.2.2.2.2.1
                obtain ⟨bh, oh, rfl, kH⟩ := E8.getRow 4 rfl 0 (by simp)
                simp only [List.getD_cons_zero, Nat.add_zero] at kH
                have gf8 := C8.2.2.2.2.2.1
                have h90 := Lib.hid (fun n => h9.out _ (winC_drew C8 n))
                have C80 := Lib.hid C8
                clear kat7 gf7 h8 h9 C8
                replace E8 := Lib.hid E8
                by_cases him : i + 1 = m
                · have t1 : decide ((i : Int) + 1 < (m : Int)) = false := decide_eq_false (by omega)
                  go_quiet (fail)
                  go_wp2
                  go_roundw
                  case rel => exact .inr ⟨by go_num, him, h90.out _⟩
                  case measure => simp [intOf]
                · have t1 : decide ((i : Int) + 1 < (m : Int)) = true := decide_eq_true (by omega)
                  go_quiet (fail)
                  go_wp2
                  go_roundw
                  case rel => exact ⟨i + 1, by go_num, hlt, winC_drew C80.out _, fun _ => by show w8.cell? _ = _; rw [kat8]; simp⟩
                  case measure => simp [intOf]; omega
              · replace hW := Lib.hid hW
                clear kat7 gf7
                go_wp2
                go_roundw
                case rel => exact ⟨i + 1, by go_num, hlt, hW.out, fun h => absurd h (by omega)⟩
                case measure => simp [intOf]; omega
      · obtain rfl : i = m := by omega
        obtain ⟨⟨b0, b1, b2⟩, bf, hyl, hO, -, -, hr, hbel, hsz⟩ := id hWin
        have e1 : decide (((i : Nat) : Int) < ((i : Nat) : Int)) = false := decide_eq_false (by omega)
        have hRR : BoxF wo wR.heap.size false none 0 0 none 0 0 := (v6.out.below hba.out).same9 (hr _ (by have := v6.out.lt; have := swa.out; have := hgat.out; omega) (by omega) (by omega) (by omega))
        have ra : Row wo a3 [(i : Int)] := by
          have r0 : Row wa a3 sl := v2.out.below hba.out
          rw [hsl.out] at r0
          intro j hj
          obtain ⟨b', o', e, hc⟩ := r0 j hj
          have hp := v3.out ⟨b', o', none⟩ e
          have hp2 := hna.out ⟨b', o', none⟩ e
          obtain ⟨b'', o'', e', hc'⟩ := v2.out j (by rw [hsl1.out]; simpa using hj)
          have hlt' := World.block_lt_of_cell? _ _ hc'
          rw [e] at e'
          cases e'
          exact ⟨b', o', e, (cell_of_eq (hr b' (World.block_lt_of_cell? _ _ hc) hp.2 (by have := hgat.out; have h : b' < wc.heap.size := hlt'; omega) hp2) (o' + j)).trans hc⟩
        have rb := hO.row
        have hsw := swR.out
        obtain ⟨⟨t0, t1, t2⟩, u0, u1, u2⟩ := hRR
        replace hO := Lib.hid hO
        replace hr := Lib.hid hr
        replace hbel := Lib.hid hbel
        replace hyl := Lib.hid hyl
        replace EX := Lib.hid EX
        replace hWin := Lib.hid hWin
        replace ra := Lib.hid ra
        replace rb := Lib.hid rb
        rw [hsw] at t0 t1 t2 u0 u1 u2
        replace hsw := Lib.hid hsw
        go_wp2
        refine bodyPost_ret (v := arrV false a3 1 k3 (some ⟨gd, 0, none⟩) i i) (by simp [results, Tryz.results198, go_sem, cell?_set_same, arrV, t0, t1, t2]) rfl ?_
        have hk : ∀ (u0 u1 u2 : Value) (b : Nat), b ≠ w.heap.size + 1 → (((wo.setCell ⟨w.heap.size + 1, 0, none⟩ u0).setCell ⟨w.heap.size + 1, 1, none⟩ u1).setCell ⟨w.heap.size + 1, 2, none⟩ u2).heap[b]? = wo.heap[b]? := fun u0 u1 u2 b hb => by
          rw [Below.heap_setCell _ _ _ b hb, Below.heap_setCell _ _ _ b hb, Below.heap_setCell _ _ _ b hb]
        have hsw' := hsw.out
        refine ⟨a3, k3, some ⟨gd, 0, none⟩, i, rfl, ?_, ?_, fun p e => by have := (v3.out p e).1; omega, fun p e => by cases e; show w.heap.size ≤ gd; omega, v4.out, set3 (below_trans hbw.out hbel.out) (by omega) _ _ _⟩
        · intro j hj
          obtain ⟨b', o', e, hc⟩ := ra.out j hj
          have := (v3.out _ e).1
          exact ⟨b', o', e, (cell_of_eq (hk _ _ _ b' (by have h : wR.heap.size < b' := this; omega)) (o' + j)).trans hc⟩
        · intro j hj
          obtain ⟨b', o', e, hc⟩ := rb.out j hj
          cases e
          exact ⟨gd, 0, rfl, (cell_of_eq (hk _ _ _ gd (by omega)) (0 + j)).trans hc⟩
end Go.Proofs.YtaplaoelamnoiaaGreatDoor
