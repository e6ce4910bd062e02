/- Texts that lie in one file: what is plain, rows, boxes, squares, and what is known of a world. No condition. -/
import Derived.Test.YtaplaoelamnoiaaGreatDoorBd19
import Derived.Test.YtaplaoelamnoiaaGreatDoorWkClone
import Derived.Test.YtaplaoelamnoiaaGreatDoorBdT06
import Derived.Test.YtaplaoelamnoiaaGreatDoorBd05
import Derived.Test.YtaplaoelamnoiaaGreatDoorBdT01
import Derived.Test.YtaplaoelamnoiaaGreatDoorBdT02
import Derived.Deep.RegionHeld3
import Derived.Deep.Cut
import Derived.Test.YtaplaoelamnoiaaGreatDoorBd14
import Derived.Test.YtaplaoelamnoiaaGreatDoorWkEach1
import Derived.Test.YtaplaoelamnoiaaGreatDoorBdT16
import Derived.Test.YtaplaoelamnoiaaGreatDoorBd04
/- The calls cut.ones and cut.parts. Condition: a mask that lies as a row; an array of one axis. -/
namespace Go.Proofs.YtaplaoelamnoiaaGreatDoor
open Go.RowKit

/-- How many ones a mask has. -/
def onesN (l : List Int) : Nat := l.countP fun v => v == 1

set_option maxRecDepth 20000 in
set_option maxHeartbeats 4000000 in
theorem ones_any (a : Option Addr) (c : Nat) (l : List Int) (w : World) (hl : Row w a l) (hm : ∀ v ∈ l, v = 0 ∨ v = 1) (h4 : l.length ≤ 4096) :
    Calls Tryz.prog 199 #[.slice a l.length c] w fun e w' => e = .returned (.tuple #[.int .i64 (onesN l), .nilIface]) ∧ w' = w := by
  obtain ⟨nl, hnl⟩ : ∃ nl, nl = l.length := ⟨_, rfl⟩
  rw [← hnl]
  rw [← hnl] at h4
  obtain ⟨K, hK⟩ : ∃ K, K = onesN l := ⟨_, rfl⟩
  rw [← hK]
  replace hK := Lib.hid hK
  replace hnl := Lib.hid hnl
  replace hl := Lib.hid hl
  replace hm := Lib.hid hm
  go_enter Tryz.func199, Tryz.ntmps199
  go_wp2
  go_loopw [8, 2] (fun v u wr => ∃ i : Nat, v = .int .i64 i ∧ i ≤ nl ∧ u = .int .i64 ((onesN (l.take i) : Nat) : Int) ∧ wr = w) (fun v _ _ => nl - (intOf v).toNat)
  case atStart => exact ⟨0, rfl, Nat.zero_le _, rfl, rfl⟩
  case round =>
    obtain ⟨i, rfl, hi, rfl, hw⟩ := hrel
    subst hw
    by_cases hlt : i < nl
    · have hil : i < l.length := by rw [← hnl.out]; exact hlt
      obtain ⟨b1, o1, rfl, c1⟩ := hl.out i hil
      have hst : onesN (l.take (i + 1)) = onesN (l.take i) + (if l.getD i 0 = 1 then 1 else 0) := by
        unfold onesN
        rw [List.take_succ_eq_append_getElem hil, List.countP_append]
        simp [hil, List.countP_cons]
      have hle : onesN (l.take i) ≤ i := Nat.le_trans (List.countP_le_length) (by rw [List.length_take]; omega)
      have hv : l.getD i 0 = 0 ∨ l.getD i 0 = 1 := by
        have : l.getD i 0 = l[i] := by simp [hil]
        rw [this]; exact hm.out _ (List.getElem_mem hil)
      generalize l.getD i 0 = x at *
      generalize onesN (l.take i) = r at *
      have z0 : (0 : Int) ≤ ((i : Nat) : Int) := by omega
      have z1 : ((i : Nat) : Int) < ((nl : Nat) : Int) := by omega
      have zz : ((i : Nat) : Int).toNat = i := by simp
      replace hst := Lib.hid hst
      rcases hv with rfl | rfl
      · go_wp2
        go_roundw
        case rel => exact ⟨i + 1, by simp, hlt, by rw [hst.out]; simp, by first | rfl | trivial⟩
        case measure => simp [intOf]; omega
      · go_wp2
        go_roundw
        case rel => exact ⟨i + 1, by simp, hlt, by rw [hst.out]; simp, by first | rfl | trivial⟩
        case measure => simp [intOf]; omega
    · have hie : i = nl := by omega
      subst hie
      rw [hnl.out, List.take_length, ← hK.out]
      rw [← hnl.out]
      have e1 : decide (((i : Nat) : Int) < ((i : Nat) : Int)) = false := decide_eq_false (by omega)
      go_wp2
      go_ret2
      exact ⟨rfl, rfl⟩

set_option maxRecDepth 20000 in
set_option maxHeartbeats 4000000 in
theorem parts_any (ch : Bool) (a : Option Addr) (c : Nat) (b : Option Addr) (n k : Nat) (m : Int) (w : World) (hs : Row w a [m]) :
    Calls Tryz.prog 200 #[.int .i64 0, arrV ch a 1 c b n k] w fun e w' => e = .returned (.tuple #[.int .i64 (if n = 0 then 0 else 1), .int .i64 (if n = 0 then 0 else 1)]) ∧ Below w.heap.size w w' := by
  have E := (Env.start w).addRow hs
  replace E := E.box ch a 1 c b n k
  obtain ⟨W, hWe⟩ : ∃ W : World, W = w.alloc (.cells #[.bool ch, .slice a 1 c, .slice b n k] 24) := ⟨_, rfl⟩
  rw [← hWe] at E
  have hWe' := Lib.hid hWe.symm
  replace hWe := Lib.hid hWe
  obtain ⟨⟨x0, x1, x2⟩, -⟩ := E.getBox 0 rfl
  obtain ⟨b1, o1, rfl, c1⟩ := E.getRow 1 rfl 0 (by simp)
  simp only [List.getD_cons_zero, Nat.add_zero] at c1
  have hb := Lib.hid E.bel
  clear E hs
  obtain ⟨r, hr⟩ : ∃ r : Int, r = if n = 0 then 0 else 1 := ⟨_, rfl⟩
  rw [← hr]
  go_enter Tryz.func200, Tryz.ntmps200
  go_upto_region 1 with fail
  rw [hWe'.out]
  by_cases hn : n = 0
  · subst hn
    rw [if_pos rfl] at hr
    replace hr := Lib.hid hr
    go_wp2
    go_ret2
    exact ⟨by rw [hr.out]; rfl, hb.out⟩
  · have e0 : (((n : Nat) : Int) == 0) = false := by rw [beq_eq_false_iff_ne]; omega
    rw [if_neg hn] at hr
    replace hr := Lib.hid hr
    go_wp2
    go_loopw [15, 4, 5] (fun v p q wr => (v = .int .i64 0 ∨ v = .int .i64 1) ∧ p = .int .i64 1 ∧ q = .int .i64 1 ∧ wr = W) (fun v _ _ _ => 1 - (intOf v).toNat)
    case atStart => exact ⟨.inl rfl, rfl, rfl, rfl⟩
    case round =>
      obtain ⟨hv, rfl, rfl, rfl⟩ := hrel
      rcases hv with rfl | rfl
      · go_wp2
        go_roundw
        case rel => exact ⟨.inr (by go_num), rfl, rfl, by first | rfl | trivial⟩
        case measure => simp [intOf]
      · go_wp2
        go_ret2
        exact ⟨by rw [hr.out]; rfl, hb.out⟩
end Go.Proofs.YtaplaoelamnoiaaGreatDoor

/- The call cut.Keep on a list. Condition: a mask and a list of one length; the list's room holds it. -/
namespace Go.Proofs.YtaplaoelamnoiaaGreatDoor
open Go.RowKit

/-- Those of the first n cells that a mask keeps. -/
def keepN (mask d : List Int) (n : Nat) : List Int := (List.range n).filterMap fun j => if mask.getD j 0 = 1 then some (d.getD j 0) else none
theorem keepN_succ (mask d : List Int) (n : Nat) : keepN mask d (n + 1) = keepN mask d n ++ (if mask.getD n 0 = 1 then [d.getD n 0] else []) := by
  unfold keepN
  rw [List.range_succ, List.filterMap_append]
  congr 1
  by_cases h : mask.getD n 0 = 1
  · simp only [List.filterMap_cons, List.filterMap_nil, if_pos h]
  · simp only [List.filterMap_cons, List.filterMap_nil, if_neg h]
theorem keepN_length (mask d : List Int) : ∀ n : Nat, n ≤ mask.length → (keepN mask d n).length = onesN (mask.take n)
  | 0, _ => rfl
  | n + 1, h => by
    rw [keepN_succ, List.length_append, keepN_length mask d n (by omega), List.take_succ_eq_append_getElem (by omega)]
    unfold onesN
    rw [List.countP_append]
    congr 1
    have e : mask.getD n 0 = mask[n]'(by omega) := by simp [show n < mask.length by omega]
    rw [e]
    by_cases h1 : mask[n]'(by omega) = 1
    · simp [h1]
    · simp [h1]

theorem own_one {w : World} {B : Nat} {v : Value} {x : Int} (h : Own w B v [x]) : ∃ ga k3, v = .slice (some ⟨ga, 0, none⟩) 1 k3 := by
  rcases h.2 with ⟨_, e⟩ | ⟨g, cap, cur, e, _⟩
  · simp at e
  · exact ⟨g, cap, e⟩
theorem own_weak {w : World} {B B' : Nat} {v : Value} {ys : List Int} (h : Own w B v ys) (hB : B' ≤ B) : Own w B' v ys := by
  refine ⟨h.1, ?_⟩
  rcases h.2 with e | ⟨g, cap, cur, e, hb, r⟩
  · exact .inl e
  · exact .inr ⟨g, cap, cur, e, Nat.le_trans hB hb, r⟩

set_option maxRecDepth 20000 in
set_option maxHeartbeats 8000000 in
theorem keep_any (am : Option Addr) (cm : Nat) (mask d : List Int) (a : Option Addr) (c : Nat) (b : Option Addr) (k : Nat) (w : World) (hl : mask.length = d.length) (hf : M.flaw false [(d.length : Int)] d = 0) (hm : ∀ v ∈ mask, v = 0 ∨ v = 1) (hk : d.length ≤ k)
    (hmr : Row w am mask) (hs : Row w a [(d.length : Int)]) (hd : Row w b d) :
    Calls Tryz.prog 150 #[.slice am mask.length cm, .int .i64 0, arrV false a 1 c b d.length k] w fun en w' => ArrPostF (.ok ⟨false, [((keepN mask d d.length).length : Int)], keepN mask d d.length⟩) w en w' := by
  have l2 := (flaw_len hf).1
  have kc := fun W h1 h2 => check_any false a b [(d.length : Int)] d 1 c d.length k W h1 h2 (by simp [maxLen]) (by simp only [maxLen]; omega) rfl rfl
  rw [hf, errV_zero] at kc
  have ko := fun W h => ones_any am cm mask W h hm (by omega)
  rw [show onesN mask = (keepN mask d d.length).length by rw [keepN_length mask d _ (by omega), ← hl, List.take_length]] at ko
  rw [hl] at ko
  have E0 := (((Env.start w).addRow hmr).addRow hd).addRow hs
  replace E0 := E0.box false a 1 c b d.length k
  obtain ⟨wR, hwR⟩ : ∃ wR : World, wR = w.alloc (.cells #[.bool false, .slice a 1 c, .slice b d.length k] 24) := ⟨_, rfl⟩
  have swR : wR.heap.size = w.heap.size + 1 := by rw [hwR]; simp
  rw [← hwR] at E0
  have hbw := E0.bel
  have E : Env wR wR _ := ⟨Below.refl _ _, E0.2⟩
  replace E := E.box false none 0 0 none 0 0
  obtain ⟨W, hWe⟩ : ∃ W : World, W = wR.alloc (.cells #[.bool false, .slice none 0 0, .slice none 0 0] 24) := ⟨_, rfl⟩
  rw [← hWe] at E
  have hWe' : Hid ((w.alloc (.cells #[.bool false, .slice a 1 c, .slice b d.length k] 24)).alloc (.cells #[.bool false, .slice none 0 0, .slice none 0 0] 24) = W) := Lib.hid (by rw [hWe, hwR])
  obtain ⟨ks, hks⟩ : ∃ ks, ks = keepN mask d d.length := ⟨_, rfl⟩
  rw [← hks] at ko
  rw [← hks, hl]
  obtain ⟨nl, hnl⟩ : ∃ nl, nl = d.length := ⟨_, rfl⟩
  rw [← hnl] at hwR hWe' E0 E kc ko hk l2 hks hl
  rw [← hnl]
  replace hWe := Lib.hid hWe
  replace hwR := Lib.hid hwR
  replace hbw := Lib.hid hbw
  replace swR := Lib.hid swR
  replace kc := Lib.hid kc
  replace ko := Lib.hid ko
  replace E0 := Lib.hid E0
  replace E := Lib.hid E
  replace hks := Lib.hid hks
  replace hnl := Lib.hid hnl
  replace hl := Lib.hid hl
  replace hm := Lib.hid hm
  clear hs hd hmr hf
  go_enter Tryz.func150, Tryz.ntmps150
  go_wp2_with fail
  rw [hWe'.out]
  refine (kc.out W (E.out.getRow 2 rfl) (E.out.getRow 3 rfl)).mono ?_
  rintro en w1 ⟨rfl, hb⟩
  replace E := E.out.step hb
  clear hb
  obtain ⟨⟨y0, y1, y2⟩, -⟩ := E.getBox 1 rfl
  obtain ⟨b1, o1, rfl, c1⟩ := E.getRow 2 rfl 0 (by simp)
  simp only [List.getD_cons_zero, Nat.add_zero] at c1
  replace E := Lib.hid E
  go_wp2_with fail
  refine (ko.out w1 (E.out.getRow 4 rfl)).mono ?_
  rintro en w2 ⟨rfl, hw2⟩
  subst hw2
  have hlx := (E.out.getBox 1 rfl).lt
  have nn1 : w2.heap.size ≠ w.heap.size := by omega
  have rs := E.out.getRow 2 rfl
  have hS0 : w2.drew.cell? ⟨w.heap.size, 0, none⟩ = some (.bool false) ∧ w2.drew.cell? ⟨w.heap.size, 1, none⟩ = some (.slice (some ⟨b1, o1, none⟩) 1 c) ∧ w2.drew.cell? ⟨w.heap.size, 2, none⟩ = some (.slice b nl k) := ⟨y0, y1, y2⟩
  go_upto_region 11 with fail
  go_cut [11] from 12 (fun s11 wx => ∃ Bo ga k3, s11 = .pointer (some ⟨Bo, 0, none⟩) ∧ w2.heap.size ≤ Bo ∧ BoxF wx Bo false (some ⟨ga, 0, none⟩) 1 k3 none 0 0 ∧ Own wx w2.heap.size (.slice (some ⟨ga, 0, none⟩) 1 k3) [(nl : Int)] ∧ ga ≠ Bo ∧ Below w2.heap.size w2 wx)
  case first =>
    go_region_held3 (fun w' => w'.cell? ⟨w.heap.size, 0, none⟩ = some (.bool false) ∧ w'.cell? ⟨w.heap.size, 1, none⟩ = some (.slice (some ⟨b1, o1, none⟩) 1 c) ∧ w'.cell? ⟨w.heap.size, 2, none⟩ = some (.slice b nl k))
      (first | go_keep | (exact held3 hb3 (by assumption)))
      (first
        | (go_at_call 72; refine (clone_any (some ⟨b1, o1, none⟩) [(nl : Int)] 1 c _ (by first | exact rs.drewN 1 | exact (rs.alloc _).drewN 1) (by simp) rfl).mono ?_; rintro e w3 ⟨v3, rfl, o3, hb3⟩; obtain ⟨hX0, hX1, hX2⟩ := held3 (N := w.heap.size) (x := .bool false) (y := .slice (some ⟨b1, o1, none⟩) 1 c) (z := .slice b nl k) hb3 (by first | exact hS0 | exact alloc3 hS0 _); obtain ⟨ga, k3, rfl⟩ : ∃ ga k3, v3 = .slice (some ⟨ga, 0, none⟩) 1 k3 := own_one o3; have q10 := hb3.cell (p := ⟨w2.heap.size, 0, none⟩); have q11 := hb3.cell (p := ⟨w2.heap.size, 1, none⟩); have q12 := hb3.cell (p := ⟨w2.heap.size, 2, none⟩); have p10 := hb3.frozen (p := ⟨w2.heap.size, 0, none⟩); have p11 := hb3.frozen (p := ⟨w2.heap.size, 1, none⟩); have p12 := hb3.frozen (p := ⟨w2.heap.size, 2, none⟩); try simp [go_sem] at q10; try simp [go_sem] at q11; try simp [go_sem] at q12; try simp [go_sem] at p10; try simp [go_sem] at p11; try simp [go_sem] at p12; have s3 := hb3.size; try simp at s3))
    all_goals go_wp2
    all_goals go_meet
    · case rel =>
        have hob := own_block o3
        exact ⟨w3.heap.size, ga, k3, rfl, by omega, boxF_new w3 _ _ _ _ _ _ _, o3.below (push (start w3) _), by omega, below_trans (below_trans ((Env.start w2).drew 1).bel hb3) (push (start w3) _)⟩
    · case rel =>
        have hob := own_block o3
        simp only [World.size_drew, World.size_alloc] at hob
        have E3 := (((Env.start w2).box false none 0 0 none 0 0).drew 1).step hb3
        have E4 := E3.store (Nat.le_refl _) (fun i => by simp) false (some ⟨ga, 0, none⟩) 1 k3 none 0 0
        refine ⟨w2.heap.size, ga, k3, rfl, Nat.le_refl _, E4.getBox 0 rfl, own_weak (((o3.setCell _ _ ?_).setCell _ _ ?_).setCell _ _ ?_) ?_, by omega, E4.bel⟩
        all_goals (simp only [World.size_drew, World.size_alloc]; omega)
  case rest =>
    obtain ⟨Bo, ga, k3, rfl, hBo, hBx, hO, hgB, hbx⟩ := hcut
    have hob := own_block hO
    have kc := own_cell hO (i := 0) (by simp)
    have kf := own_frozen hO 0
    simp only [List.getD_cons_zero] at kc
    have hO2 := own_store hO (i := 0) (by simp) (ks.length : Int)
    simp only [List.set_cons_zero] at hO2
    have hBx2 : BoxF (wc.setCell ⟨ga, 0, none⟩ (.int .i64 (ks.length : Int))) Bo false (some ⟨ga, 0, none⟩) 1 k3 none 0 0 := hBx.same9 (Below.heap_setCell _ _ _ Bo (Ne.symm hgB))
    have hbx2 : Below w2.heap.size w2 (wc.setCell ⟨ga, 0, none⟩ (.int .i64 (ks.length : Int))) := hbx.setCell (p := ⟨ga, 0, none⟩) hob.1 _
    obtain ⟨⟨z0, z1, z2⟩, -⟩ := hBx
    replace hO := Lib.hid hO
    replace hO2 := Lib.hid hO2
    replace hBx2 := Lib.hid hBx2
    replace hbx2 := Lib.hid hbx2
    clear hS0 rs y0 y1 y2 c1
    go_upto_region 13 with fail
    generalize wc.setCell ⟨ga, 0, none⟩ (.int .i64 (ks.length : Int)) = wy at *
    have E2 := E.out.step hbx2.out
    obtain ⟨⟨y0, y1, y2⟩, -⟩ := E2.getBox 1 rfl
    clear z0 z1 z2 kc kf
    replace E2 := Lib.hid E2
    go_wp2_with fail
    refine (parts_any false (some ⟨b1, o1, none⟩) c b nl k (nl : Int) wy (E2.out.getRow 2 rfl)).mono ?_
    rintro en w5 ⟨rfl, hb⟩
    have E5 := E2.out.step hb
    have hB5 := hBx2.out.below hb
    have hO5 := hO2.out.below hb
    have hb25 := below_trans hbx2.out hb
    clear y0 y1 y2 hb E2
    obtain ⟨r, hr⟩ : ∃ r : Int, r = if nl = 0 then 0 else 1 := ⟨_, rfl⟩
    rw [← hr]
    have hOut0 : OutAt w2 w5 Bo w5.heap.size false (.slice (some ⟨ga, 0, none⟩) 1 k3) (.slice none 0 0) [] w5 := ⟨⟨hB5.1, hB5.2.2.2⟩, Own.nil _ _, hb25, Nat.le_refl _, fun _ _ _ => rfl⟩
    have hBlt := hB5.lt
    have hsz25 := hb25.size
    have hga5 := own_block hO5
    have hRlt := (E.out.getBox 0 rfl).lt
    replace hr := Lib.hid hr
    replace hO5 := Lib.hid hO5
    replace hOut0 := Lib.hid hOut0
    replace E5 := Lib.hid E5
    clear hB5 hb25 hO2 hO hBx2 hbx2 hbx
    go_wp2
    go_loopw [71, 14] (fun v u wr => (v = .int .i64 0 ∧ u = .int .i64 0 ∧ ∃ dv, OutAt w2 w5 Bo w5.heap.size false (.slice (some ⟨ga, 0, none⟩) 1 k3) dv [] wr) ∨ (v = .int .i64 1 ∧ nl ≠ 0 ∧ ∃ dv, OutAt w2 w5 Bo w5.heap.size false (.slice (some ⟨ga, 0, none⟩) 1 k3) dv ks wr)) (fun v _ _ => 1 - (intOf v).toNat)
    case atStart => exact .inl ⟨rfl, rfl, _, hOut0.out⟩
    case round =>
      rcases hrel with ⟨rfl, rfl, dv, hOA⟩ | ⟨rfl, hnz, dv, hOA⟩
      · by_cases hz : nl = 0
        · obtain rfl : r = 0 := by rw [hr.out, if_pos hz]
          have hk0 : ks = [] := by rw [hks.out, hz]; rfl
          rw [← hk0] at hOA
          replace hk0 := Lib.hid hk0
          replace hz := Lib.hid hz
          obtain ⟨⟨⟨q0, q1, q2⟩, qf⟩, hown, hbel, hszB, hrest⟩ := id hOA
          have hRR := hOA.box (R := wR.heap.size) (by omega) (by omega) (E5.out.getBox 0 rfl)
          obtain ⟨a', c', rfl, -, -, r2⟩ := hown.view
          have r1 : Row wr (some ⟨ga, 0, none⟩) [(ks.length : Int)] := by
            intro i hi
            obtain ⟨b', o', e, hc⟩ := hO5.out.row i hi
            cases e
            exact ⟨_, _, rfl, (cell_of_eq (hrest ga hga5.2 hgB) _).trans hc⟩
          have f1 : Fresh w2 (some ⟨ga, 0, none⟩) := fun p e => by cases e; exact hob.1
          have f2 : Fresh w2 a' := fun p e => Nat.le_trans hsz25 (own_fresh hown p e)
          have hswR := swR.out
          have hcap : [(ks.length : Int)].length ≤ k3 := by
            obtain ⟨aa, kk, e, hkk, -, -⟩ := hO5.out.view
            cases e
            exact hkk
          have hfin := result_any (x := ⟨false, [(ks.length : Int)], ks⟩) (k := c') (n0 := wR.heap.size) (by omega) (below_trans hbw.out E.out.bel) hRlt r1 r2 f1 f2 hcap hbel
          obtain ⟨⟨t0, t1, t2⟩, u0, u1, u2⟩ := hRR
          rw [hswR] at hfin t0 t1 t2 u0 u1 u2
          replace hfin := Lib.hid hfin
          replace hown := Lib.hid hown
          replace hbel := Lib.hid hbel
          replace hrest := Lib.hid hrest
          replace hOA := Lib.hid hOA
          replace hswR := Lib.hid hswR
          clear r1 r2 f1 f2 hcap
          go_wp2
          refine bodyPost_ret (v := .tuple #[arrV false (some ⟨ga, 0, none⟩) 1 k3 a' ks.length c', .nilIface]) (by simp [results, Tryz.results150, go_sem, cell?_set_same, arrV, t0, t1, t2]) rfl ?_
          exact hfin.out
        · obtain rfl : r = 1 := by rw [hr.out, if_neg hz]
          replace hOA := Lib.hid hOA
          go_wp2
          go_loopw [75, 14] (fun v u wr => ∃ j : Nat, v = .int .i64 j ∧ j ≤ nl ∧ u = .int .i64 j ∧ ∃ dv, OutAt w2 w5 Bo w5.heap.size false (.slice (some ⟨ga, 0, none⟩) 1 k3) dv (keepN mask d j) wr) (fun v _ _ => nl - (intOf v).toNat)
          case atStart => exact ⟨0, rfl, Nat.zero_le _, rfl, dv, hOA.out⟩
          case round =>
            obtain ⟨j, rfl, hj, rfl, dv, hOB⟩ := hrel
            by_cases hlt : j < nl
            · have hjm : j < mask.length := by rw [hl.out]; exact hlt
              have hjd : j < d.length := by rw [← hnl.out]; exact hlt
              obtain ⟨⟨⟨q0, q1, q2⟩, qf⟩, hown, hbel, hszB, hrest⟩ := id hOB
              have Er := E.out.step hbel
              obtain ⟨bm, om, rfl, cmk⟩ := Er.getRow 4 rfl j hjm
              obtain ⟨bd, od, rfl, cd⟩ := Er.getRow 3 rfl j hjd
              obtain ⟨⟨x0, x1, x2⟩, -⟩ := Er.getBox 1 rfl
              have hks1 := keepN_succ mask d j
              have hv : mask.getD j 0 = 0 ∨ mask.getD j 0 = 1 := by
                have : mask.getD j 0 = mask[j] := by simp [hjm]
                rw [this]; exact hm.out _ (List.getElem_mem hjm)
              generalize mask.getD j 0 = bit at *
              generalize d.getD j 0 = dj at *
              have z0 : (0 : Int) ≤ ((j : Nat) : Int) := by omega
              have z1 : ((j : Nat) : Int) < ((nl : Nat) : Int) := by omega
              have zz : ((j : Nat) : Int).toNat = j := by simp
              replace hown := Lib.hid hown
              replace hbel := Lib.hid hbel
              replace hrest := Lib.hid hrest
              replace hOB := Lib.hid hOB
              replace Er := Lib.hid Er
              rcases hv with rfl | rfl
              · rw [if_neg (by decide), List.append_nil] at hks1
                replace hks1 := Lib.hid hks1
                go_wp2
                go_roundw
                case rel => exact ⟨j + 1, by simp, hlt, by simp, dv, by rw [hks1.out]; exact hOB.out⟩
                case measure => simp [intOf]; omega
              · rw [if_pos rfl] at hks1
                replace hks1 := Lib.hid hks1
                have hown' : Own wr.drew w5.heap.size dv (keepN mask d j) := hown.out
                have hrow' : Row wr.drew (some ⟨bd, od + j, none⟩) [dj] := by
                  intro i hi
                  obtain rfl : i = 0 := by simpa using hi
                  exact ⟨bd, od + j, rfl, cd⟩
                have hlk : (keepN mask d j).length ≤ j := by
                  unfold keepN
                  exact Nat.le_trans (List.length_filterMap_le _ _) (by simp)
                have hlen : (keepN mask d j).length + [dj].length < 17592186044416 := by simp; omega
                have hkj : ¬ k = j := by omega
                have s1 : (j : Int) ≤ (j : Int) + 1 := by omega
                have s2 : (j : Int) + 1 ≤ ((k : Nat) : Int) := by omega
                have s3 : (0 : Int) ≤ (j : Int) + 1 := by omega
                have s4 : IntKind.i64.wrap ((j : Int) + 1) = (j : Int) + 1 := IntWalk.i64_in _ (by omega)
                go_upto_region 21 with fail
                go_region_law ((refine step_app_row rfl (.tmp 82) (.tmp 89) rfl w5.heap.size dv (keepN mask d j) [dj] ⟨bd, od + j, none⟩ 1 (k - j) rfl hown' rfl rfl hrow' hlen (by simp; omega) ((keepN mask d j).length + 1) rfl ?_; intro a' c' w' ho' hb'; have d2 := (hb'.cell (p := ⟨Bo, 2, none⟩) hBlt).trans q2; have g2 := (hb'.frozen (p := ⟨Bo, 2, none⟩) hBlt).trans qf))
                all_goals go_wp2
                all_goals go_roundw
                all_goals
                  first
                    | exact ⟨j + 1, by simp, hlt, by simp, _, by rw [hks1.out]; exact hOB.out.step hBo hBlt ((((Env.start wr).drew 1).bel.mono hszB).trans hb') ho'⟩
                    | (simp [intOf]; omega)
            · obtain rfl : j = nl := by omega
              rw [← hks.out] at hOB
              replace hOB := Lib.hid hOB
              have e1 : decide (((j : Nat) : Int) < ((j : Nat) : Int)) = false := decide_eq_false (by omega)
              go_wp2
              go_roundw
              case rel => exact .inr ⟨by go_num, hz, dv, hOB.out⟩
              case measure => simp [intOf]
      · obtain rfl : r = 1 := by rw [hr.out, if_neg hnz]
        obtain ⟨⟨⟨q0, q1, q2⟩, qf⟩, hown, hbel, hszB, hrest⟩ := id hOA
        have hRR := hOA.box (R := wR.heap.size) (by omega) (by omega) (E5.out.getBox 0 rfl)
        obtain ⟨a', c', rfl, -, -, r2⟩ := hown.view
        have r1 : Row wr (some ⟨ga, 0, none⟩) [(ks.length : Int)] := by
          intro i hi
          obtain ⟨b', o', e, hc⟩ := hO5.out.row i hi
          cases e
          exact ⟨_, _, rfl, (cell_of_eq (hrest ga hga5.2 hgB) _).trans hc⟩
        have f1 : Fresh w2 (some ⟨ga, 0, none⟩) := fun p e => by cases e; exact hob.1
        have f2 : Fresh w2 a' := fun p e => Nat.le_trans hsz25 (own_fresh hown p e)
        have hswR := swR.out
        have hcap : [(ks.length : Int)].length ≤ k3 := by
          obtain ⟨aa, kk, e, hkk, -, -⟩ := hO5.out.view
          cases e
          exact hkk
        have hfin := result_any (x := ⟨false, [(ks.length : Int)], ks⟩) (k := c') (n0 := wR.heap.size) (by omega) (below_trans hbw.out E.out.bel) hRlt r1 r2 f1 f2 hcap hbel
        obtain ⟨⟨t0, t1, t2⟩, u0, u1, u2⟩ := hRR
        rw [hswR] at hfin t0 t1 t2 u0 u1 u2
        replace hfin := Lib.hid hfin
        replace hown := Lib.hid hown
        replace hbel := Lib.hid hbel
        replace hrest := Lib.hid hrest
        replace hOA := Lib.hid hOA
        replace hswR := Lib.hid hswR
        clear r1 r2 f1 f2 hcap
        go_wp2
        refine bodyPost_ret (v := .tuple #[arrV false (some ⟨ga, 0, none⟩) 1 k3 a' ks.length c', .nilIface]) (by simp [results, Tryz.results150, go_sem, cell?_set_same, arrV, t0, t1, t2]) rfl ?_
        exact hfin.out
end Go.Proofs.YtaplaoelamnoiaaGreatDoor

/- The law TopSieve, in plain Lean: a number from 2 on is no product of two smaller ones just if none divides it. No condition. -/
namespace Go.Proofs.YtaplaoelamnoiaaGreatDoor
open Go.RowKit

/-- Is there a divisor from 2 on, below i? -/
def hasDiv (i : Nat) : Prop := ∃ d, 2 ≤ d ∧ d < i ∧ i % d = 0
theorem hasDiv_iff (i n : Nat) (hi : i < n) : hasDiv i ↔ ∃ a b : Nat, (2 ≤ a ∧ a < n) ∧ (2 ≤ b ∧ b < n) ∧ a * b = i := by
  constructor
  · rintro ⟨d, h1, h2, h3⟩
    have hm : d * (i / d) = i := Nat.mul_div_cancel' (Nat.dvd_of_mod_eq_zero h3)
    have hle : i / d ≤ i := Nat.div_le_self i d
    generalize i / d = q at *
    have hb : 2 ≤ q := by
      match q, hm with
      | 0, hm => rw [Nat.mul_zero] at hm; omega
      | 1, hm => rw [Nat.mul_one] at hm; omega
      | q + 2, _ => omega
    exact ⟨d, q, ⟨h1, by omega⟩, ⟨hb, by omega⟩, hm⟩
  · rintro ⟨a, b, ⟨h1, _⟩, ⟨h2, _⟩, rfl⟩
    refine ⟨a, h1, ?_, Nat.mul_mod_right a b⟩
    have : a * 2 ≤ a * b := Nat.mul_le_mul_left a h2
    omega
/-- The numbers from 2 on, below n. -/
def fromTwo (n : Nat) : List Int := (List.range (n - 2)).map fun i => ((i + 2 : Nat) : Int)
theorem fromTwo_length (n : Nat) : (fromTwo n).length = n - 2 := by simp [fromTwo]
theorem fromTwo_at {n i : Nat} (h : i < n - 2) : (fromTwo n).getD i 0 = ((i + 2 : Nat) : Int) := by
  simp [fromTwo, List.getD_eq_getElem?_getD, h]
theorem fromTwo_mem {n : Nat} {v : Int} : v ∈ fromTwo n ↔ ∃ a : Nat, (2 ≤ a ∧ a < n) ∧ v = (a : Int) := by
  unfold fromTwo
  rw [List.mem_map]
  constructor
  · rintro ⟨i, hi, rfl⟩
    have := List.mem_range.1 hi
    exact ⟨i + 2, ⟨by omega, by omega⟩, rfl⟩
  · rintro ⟨a, ⟨h1, h2⟩, rfl⟩
    exact ⟨a - 2, List.mem_range.2 (by omega), by congr 1; omega⟩
end Go.Proofs.YtaplaoelamnoiaaGreatDoor

/- The call seek.firsts: a map that has a row's ints. Condition: a row that lies as a list of ints of 64 bits. -/
namespace Go.Proofs.YtaplaoelamnoiaaGreatDoor
open Go.RowKit

theorem intLaw : Go.Maps.Keyed Tryz.prog 3 := Go.Maps.int_keyed Tryz.underlying3
theorem run_makeMap_hint (n : Int) (w : World) : (Instr.makeMap 260 (some (.int .i64 n))).run Tryz.prog w = .ok (.map (some w.heap.size)) (w.alloc (.map #[] 0)) := by
  simp [Instr.makeMap, run_underlying Tryz.underlying260, asInt, asIntOf, Result.andThen]
/-- A map that has the ints of a list. -/
def HasInts (D : DataW Value) (l : List Int) : Prop := ∀ v : Int, Maps.has D (.int .i64 v) = decide (v ∈ l)

set_option maxRecDepth 20000 in
set_option maxHeartbeats 8000000 in
theorem firsts_any (ch : Bool) (a : Option Addr) (n c : Nat) (b : Option Addr) (d : List Int) (k : Nat) (w : World) (hd : Row w b d) (h64 : All64 d) (ld : d.length ≤ 100000) :
    Calls Tryz.prog 204 #[arrV ch a n c b d.length k] w fun en w' => ∃ (g : Nat) (D : DataW Value), en = .returned (.map (some g)) ∧ w.heap.size ≤ g ∧ w'.ownsMap Tryz.prog 3 (plainElem Tryz.prog 3) g d.length D ∧ HasInts D d ∧ Below w.heap.size w w' := by
  have hmm := run_makeMap_hint
  have hb1 : Below w.heap.size w ((w.alloc (.cells #[.bool ch, .slice a n c, .slice b d.length k] 24)).alloc (.map #[] 0)) := push (push (start w) _) _
  have hown1 : ((w.alloc (.cells #[.bool ch, .slice a n c, .slice b d.length k] 24)).alloc (.map #[] 0)).ownsMap Tryz.prog 3 (plainElem (H := Value) Tryz.prog 3) (w.heap.size + 1) 0 (.map []) := by
    have h := World.ownsMap_made (w.alloc (.cells #[.bool ch, .slice a n c, .slice b d.length k] 24)) Tryz.prog 3 (plainElem (H := Value) Tryz.prog 3)
    rw [World.size_alloc] at h
    exact h
  obtain ⟨W, hWe⟩ : ∃ W : World, W = (w.alloc (.cells #[.bool ch, .slice a n c, .slice b d.length k] 24)).alloc (.map #[] 0) := ⟨_, rfl⟩
  have sW : W.heap.size = w.heap.size + 1 + 1 := by rw [hWe]; simp
  have bX : BoxC w.heap.size [.bool ch, .slice a n c, .slice b d.length k] W := by rw [hWe]; exact (boxC_alloc w #[.bool ch, .slice a n c, .slice b d.length k] 24).same (heap_alloc_old _ _ (by simp))
  rw [← hWe] at hb1 hown1
  obtain ⟨nl, hnl⟩ : ∃ nl, nl = d.length := ⟨_, rfl⟩
  rw [← hnl]
  rw [← hnl] at bX hWe ld
  have hWe' := Lib.hid hWe.symm
  obtain ⟨x0, -⟩ := bX 0 _ rfl
  obtain ⟨x1, -⟩ := bX 1 _ rfl
  obtain ⟨x2, -⟩ := bX 2 _ rfl
  replace hWe := Lib.hid hWe
  replace hb1 := Lib.hid hb1
  replace hown1 := Lib.hid hown1
  replace sW := Lib.hid sW
  replace hd := Lib.hid hd
  replace h64 := Lib.hid h64
  replace hnl := Lib.hid hnl
  clear bX
  go_enter Tryz.func204, Tryz.ntmps204
  go_upto_region 2 with fail
  rw [hWe'.out]
  go_wp2
  go_loopw [15] (fun v wr => ∃ (i : Nat) (D : DataW Value), v = .int .i64 i ∧ i ≤ nl ∧ wr.ownsMap Tryz.prog 3 (plainElem Tryz.prog 3) (w.heap.size + 1) i D ∧ HasInts D (d.take i) ∧ Below w.heap.size w wr ∧ w.heap.size + 1 < wr.heap.size) (fun v _ => nl - (intOf v).toNat)
  case atStart => exact ⟨0, .map [], rfl, Nat.zero_le _, hown1.out, fun v => by simp [Maps.has], hb1.out, by have := sW.out; omega⟩
  case round =>
    obtain ⟨i, D, rfl, hi, hown, hhas, hb, hsz⟩ := hrel
    clear x0 x1 x2
    by_cases hlt : i < nl
    case neg =>
      have hie : i = nl := by omega
      subst hie
      rw [hnl.out, List.take_length] at hhas
      have hb' := Lib.hid hb
      replace hown := Lib.hid hown
      replace hhas := Lib.hid hhas
      replace hsz := Lib.hid hsz
      clear hb
      have e1 : decide (((i : Nat) : Int) < ((i : Nat) : Int)) = false := decide_eq_false (by omega)
      go_wp2
      go_ret
      exact ⟨w.heap.size + 1, D, rfl, by omega, hown.out, hhas.out, hb'.out⟩
    case pos =>
      have hil : i < d.length := by rw [← hnl.out]; exact hlt
      obtain ⟨b1, o1, rfl, c1⟩ := (hd.out.below hb) i hil
      have hv64 : I64 (d.getD i 0) := by
        have : d.getD i 0 = d[i] := by simp [hil]
        rw [this]; exact h64.out _ (List.getElem_mem hil)
      have htk : d.take (i + 1) = d.take i ++ [d.getD i 0] := by rw [List.take_succ_eq_append_getElem hil]; simp [hil]
      generalize d.getD i 0 = v at *
      have hkey : keyOf Tryz.prog 3 (.int .i64 v) = some (.int .i64 v) := Go.Maps.keyOf_int_mk Tryz.underlying3 (WalkArith.wf_i64 hv64)
      have z0 : (0 : Int) ≤ ((i : Nat) : Int) := by omega
      have z1 : ((i : Nat) : Int) < ((nl : Nat) : Int) := by omega
      have zz : ((i : Nat) : Int).toNat = i := by simp
      have hv := hhas v
      have hm : Go.Maps.IsMap D := hown.isMap
      replace hb := Lib.hid hb
      replace hsz := Lib.hid hsz
      replace htk := Lib.hid htk
      replace hown := Lib.hid hown
      replace hm := Lib.hid hm
      cases hin : decide (v ∈ d.take i)
      · rw [hin] at hv
        have hne := of_decide_eq_false hin
        replace hin := Lib.hid hin
        replace hhas := Lib.hid hhas
        go_wp2_with (first
          | (at_lookup; refine wpList_lookup_own_ok_int _ rfl _ _ 260 rfl 3 3 .i64 intLaw Tryz.underlying260 Tryz.underlying3 (zeroInt _) (w.heap.size + 1) i D rfl hown.out _ _ rfl hkey ?_; rw [hv]; intro cv _ _)
          | (at_mapUpdate; refine wpList_mapUpdate_own _ rfl _ _ _ 260 rfl 3 3 intLaw Tryz.underlying260 _ (w.heap.size + 1) i D rfl hown.out (by simp only [maxLen]; omega) _ _ _ rfl rfl hkey _ [] (plainElem_int Tryz.underlying3 (WalkArith.wf_i64 (by omega))) ?_; intro w4 hown4 hg4; have hown4 := Lib.hid hown4; have hg4 := Lib.hid hg4)
          | fail)
        go_roundw
        case rel =>
          refine ⟨i + 1, _, by simp, hlt, hown4.out, fun u => ?_, hb.out.grown hg4.out (by have := hsz.out; omega) (by intro k hk; cases hk; omega), by have := hsz.out; have := hg4.out.size; omega⟩
          rw [htk.out]
          by_cases huv : u = v
          · subst huv
            rw [Go.Maps.has_put_same hm.out (by trivial)]
            simp
          · rw [Go.Maps.has_put_other (fun e => huv (by injection e)), hhas.out u]
            simp [huv]
        case measure => simp [intOf]; omega
      · rw [hin] at hv
        have hme := of_decide_eq_true hin
        replace hin := Lib.hid hin
        replace hhas := Lib.hid hhas
        go_wp2_with (first
          | (at_lookup; refine wpList_lookup_own_ok_int _ rfl _ _ 260 rfl 3 3 .i64 intLaw Tryz.underlying260 Tryz.underlying3 (zeroInt _) (w.heap.size + 1) i D rfl hown.out _ _ rfl hkey ?_; rw [hv]; intro cv _ _)
          | fail)
        go_roundw
        case rel =>
          refine ⟨i + 1, D, by simp, hlt, hown.out.mono (by omega), fun u => ?_, hb.out, hsz.out⟩
          rw [htk.out, hhas.out u]
          by_cases huv : u = v
          · subst huv
            simp [hme]
          · simp [huv]
        case measure => simp [intOf]; omega
end Go.Proofs.YtaplaoelamnoiaaGreatDoor

/- The calls seek.check and seek.In. Condition: two sound arrays of numbers of 64 bits. -/
namespace Go.Proofs.YtaplaoelamnoiaaGreatDoor
open Go.RowKit

set_option maxRecDepth 20000 in
set_option maxHeartbeats 4000000 in
theorem seekCheck_any (x y : Arr) (hx : M.flaw x.ch x.s x.d = 0) (hy : M.flaw y.ch y.s y.d = 0) (w : World) (a : Option Addr) (c : Nat) (b : Option Addr) (k : Nat) (a' : Option Addr) (c' : Nat) (b' : Option Addr) (k' : Nat) (hs : Row w a x.s) (hd : Row w b x.d) (hs' : Row w a' y.s) (hd' : Row w b' y.d) :
    Calls Tryz.prog 203 #[arrV x.ch a x.s.length c b x.d.length k, arrV y.ch a' y.s.length c' b' y.d.length k'] w fun en w' => en = .returned .nilIface ∧ Below w.heap.size w w' := by
  have l1 := (flaw_len hx).2
  have l2 := (flaw_len hx).1
  have l3 := (flaw_len hy).2
  have l4 := (flaw_len hy).1
  have kc1 := fun W h1 h2 => check_any x.ch a b x.s x.d x.s.length c x.d.length k W h1 h2 (by simp only [maxLen]; omega) (by simp only [maxLen]; omega) rfl rfl
  have kc2 := fun W h1 h2 => check_any y.ch a' b' y.s y.d y.s.length c' y.d.length k' W h1 h2 (by simp only [maxLen]; omega) (by simp only [maxLen]; omega) rfl rfl
  rw [hx, errV_zero] at kc1
  rw [hy, errV_zero] at kc2
  have E := ((((Env.start w).addRow hd').addRow hs').addRow hd).addRow hs
  replace E := E.box x.ch a x.s.length c b x.d.length k
  replace E := E.box y.ch a' y.s.length c' b' y.d.length k'
  simp only [World.size_alloc] at E
  obtain ⟨W, hWe⟩ : ∃ W : World, W = (w.alloc (.cells #[.bool x.ch, .slice a x.s.length c, .slice b x.d.length k] 24)).alloc (.cells #[.bool y.ch, .slice a' y.s.length c', .slice b' y.d.length k'] 24) := ⟨_, rfl⟩
  rw [← hWe] at E
  have hWe' := Lib.hid hWe.symm
  replace hWe := Lib.hid hWe
  replace kc1 := Lib.hid kc1
  replace kc2 := Lib.hid kc2
  clear hx hy l1 l2 l3 l4 hs hd hs' hd'
  replace E := Lib.hid E
  go_enter Tryz.func203, Tryz.ntmps203
  go_wp2_with fail
  rw [hWe'.out]
  refine (kc1.out W (E.out.getRow 2 rfl) (E.out.getRow 3 rfl)).mono ?_
  rintro en w1 ⟨rfl, hb⟩
  replace E := E.out.step hb
  clear hb
  obtain ⟨⟨y0, y1, y2⟩, -⟩ := E.getBox 0 rfl
  replace E := Lib.hid E
  go_wp2_with fail
  refine (kc2.out w1 (E.out.getRow 4 rfl) (E.out.getRow 5 rfl)).mono ?_
  rintro en w2 ⟨rfl, hb⟩
  replace E := Lib.hid (E.out.step hb)
  clear hb y0 y1 y2
  go_wp2
  go_ret
  exact ⟨rfl, E.out.bel⟩

/-- Which of the numbers another list has. -/
def inL (d e : List Int) : List Int := d.map fun v => if v ∈ e then 1 else 0
theorem inL_take {d e : List Int} {i : Nat} (hi : i < d.length) : inL (d.take (i + 1)) e = inL (d.take i) e ++ [if d.getD i 0 ∈ e then 1 else 0] := by
  unfold inL
  rw [List.take_succ_eq_append_getElem hi, List.map_append]
  simp [hi]
theorem ownsMap_of_eq {w W : World} {g n : Nat} {D : DataW Value} (h : w.ownsMap Tryz.prog 3 (plainElem Tryz.prog 3) g n D) (he : W.heap[g]? = w.heap[g]?) : W.ownsMap Tryz.prog 3 (plainElem Tryz.prog 3) g n D := by
  obtain ⟨es, clock, hm, hF, hs, hD⟩ := h
  exact ⟨es, clock, he.trans hm, hF, hs, hD⟩

set_option maxRecDepth 20000 in
set_option maxHeartbeats 8000000 in
theorem in_any (x y : Arr) (hx : M.flaw x.ch x.s x.d = 0) (hy : M.flaw y.ch y.s y.d = 0) (x64 : All64 x.d) (y64 : All64 y.d) (cx : x.ch = false) (cy : y.ch = false) (w : World) (a : Option Addr) (c : Nat) (b : Option Addr) (k : Nat) (a' : Option Addr) (c' : Nat) (b' : Option Addr) (k' : Nat) (hs : Row w a x.s) (hd : Row w b x.d) (hs' : Row w a' y.s) (hd' : Row w b' y.d) :
    Calls Tryz.prog 157 #[arrV x.ch a x.s.length c b x.d.length k, arrV y.ch a' y.s.length c' b' y.d.length k'] w fun en w' => ArrPostF (.ok ⟨false, x.s, inL x.d y.d⟩) w en w' := by
  have l1 := (flaw_len hx).2
  have l2 := (flaw_len hx).1
  have l4 := (flaw_len hy).1
  have kc := fun W h1 h2 h3 h4 => seekCheck_any x y hx hy W a c b k a' c' b' k' h1 h2 h3 h4
  have kf := fun W h => firsts_any y.ch a' y.s.length c' b' y.d k' W h y64 (by omega)
  obtain ⟨xch, s, d⟩ := x
  obtain ⟨ych, s', d'⟩ := y
  dsimp only at *
  subst cx
  subst cy
  have E0 := ((((Env.start w).addRow hd').addRow hs').addRow hd).addRow hs
  replace E0 := E0.box false a s.length c b d.length k
  replace E0 := E0.box false a' s'.length c' b' d'.length k'
  simp only [World.size_alloc] at E0
  obtain ⟨wR, hwR⟩ : ∃ wR : World, wR = (w.alloc (.cells #[.bool false, .slice a s.length c, .slice b d.length k] 24)).alloc (.cells #[.bool false, .slice a' s'.length c', .slice b' d'.length k'] 24) := ⟨_, rfl⟩
  have swR : wR.heap.size = w.heap.size + 1 + 1 := by rw [hwR]; simp
  rw [← hwR] at E0
  have hbw := E0.bel
  have E : Env wR wR _ := ⟨Below.refl _ _, E0.2⟩
  replace E := E.box false none 0 0 none 0 0
  obtain ⟨W, hWe⟩ : ∃ W : World, W = wR.alloc (.cells #[.bool false, .slice none 0 0, .slice none 0 0] 24) := ⟨_, rfl⟩
  rw [← hWe] at E
  have hWe' : Hid (((w.alloc (.cells #[.bool false, .slice a s.length c, .slice b d.length k] 24)).alloc (.cells #[.bool false, .slice a' s'.length c', .slice b' d'.length k'] 24)).alloc (.cells #[.bool false, .slice none 0 0, .slice none 0 0] 24) = W) := Lib.hid (by rw [hWe, hwR])
  replace hWe := Lib.hid hWe
  replace hwR := Lib.hid hwR
  replace hbw := Lib.hid hbw
  replace swR := Lib.hid swR
  replace kc := Lib.hid kc
  replace kf := Lib.hid kf
  replace E0 := Lib.hid E0
  clear hs hd hs' hd' hx hy
  replace E := Lib.hid E
  replace x64 := Lib.hid x64
  replace y64 := Lib.hid y64
  go_enter Tryz.func157, Tryz.ntmps157
  go_wp2_with fail
  rw [hWe'.out]
  refine (kc.out W (E.out.getRow 3 rfl) (E.out.getRow 4 rfl) (E.out.getRow 5 rfl) (E.out.getRow 6 rfl)).mono ?_
  rintro en w1 ⟨rfl, hb⟩
  replace E := E.out.step hb
  clear hb
  obtain ⟨⟨y0, y1, y2⟩, -⟩ := E.getBox 1 rfl
  replace E := Lib.hid E
  go_wp2_with fail
  refine (kf.out w1 (E.out.getRow 6 rfl)).mono ?_
  rintro en w2 ⟨g, D, rfl, hg, hown, hhas, hb⟩
  have hgR : Hid (wR.heap.size < g) := Lib.hid (Nat.lt_of_lt_of_le (E.out.getBox 0 rfl).lt hg)
  replace E := E.out.step hb
  clear hb y0 y1 y2
  have hlg := hown.lt
  have hx3 := (E.getBox 2 rfl).1
  have rs := E.getRow 3 rfl
  have ls' : s.length < 17592186044416 := by omega
  obtain ⟨nl, hnl⟩ : ∃ nl, nl = d.length := ⟨_, rfl⟩
  rw [← hnl] at E hx3 l2
  rw [← hnl]
  have hN' : nl < 17592186044416 := by omega
  have hmk := run_make_room nl nl (Nat.le_refl _) hN'
  have hS0 : w2.drew.cell? ⟨w.heap.size, 0, none⟩ = some (.bool false) ∧ w2.drew.cell? ⟨w.heap.size, 1, none⟩ = some (.slice a s.length c) ∧ w2.drew.cell? ⟨w.heap.size, 2, none⟩ = some (.slice b nl k) := hx3
  have hlx := (E.getBox 2 rfl).lt
  have nn1 : w2.heap.size ≠ w.heap.size := by omega
  have nn2 : w2.heap.size + 1 ≠ w.heap.size := by omega
  replace hown := Lib.hid hown
  replace hhas := Lib.hid hhas
  replace hnl := Lib.hid hnl
  obtain ⟨x0, x1, x2⟩ := hx3
  rw [← swR.out]
  go_upto_region 5 with fail
  go_cut [8] from 9 (fun s8 wx => ∃ Bo, s8 = .pointer (some ⟨Bo, 0, none⟩) ∧ w2.heap.size ≤ Bo ∧ Below w2.heap.size w2 wx ∧ FilAt wR s nl Bo wx)
  case first =>
    go_region_held3 (fun w' => w'.cell? ⟨w.heap.size, 0, none⟩ = some (.bool false) ∧ w'.cell? ⟨w.heap.size, 1, none⟩ = some (.slice a s.length c) ∧ w'.cell? ⟨w.heap.size, 2, none⟩ = some (.slice b nl k))
      (first | go_keep | (exact held3 hb3 (by assumption)) | (exact alloc3 hS0 _) | (exact alloc3 (alloc3 hS0 _) _))
      (first
        | (go_at_call 72; refine (clone_any a s _ c _ (by first | exact rs.drewN 1 | exact (rs.alloc _).drewN 1 | exact ((rs.alloc _).alloc _).drewN 1) ls' rfl).mono ?_; rintro e w3 ⟨v3, rfl, o3, hb3⟩; obtain ⟨hX0, hX1, hX2⟩ := held3 (N := w.heap.size) (x := .bool false) (y := .slice a s.length c) (z := .slice b nl k) hb3 (by first | exact hS0 | exact alloc3 hS0 _ | exact alloc3 (alloc3 hS0 _) _); obtain ⟨a3, k3, rfl, hk3, -, -⟩ := o3.view; have q10 := hb3.cell (p := ⟨w2.heap.size, 0, none⟩); have q11 := hb3.cell (p := ⟨w2.heap.size, 1, none⟩); have q12 := hb3.cell (p := ⟨w2.heap.size, 2, none⟩); have q20 := hb3.cell (p := ⟨w2.heap.size + 1, 0, none⟩); have q21 := hb3.cell (p := ⟨w2.heap.size + 1, 1, none⟩); have q22 := hb3.cell (p := ⟨w2.heap.size + 1, 2, none⟩); have p10 := hb3.frozen (p := ⟨w2.heap.size, 0, none⟩); have p11 := hb3.frozen (p := ⟨w2.heap.size, 1, none⟩); have p12 := hb3.frozen (p := ⟨w2.heap.size, 2, none⟩); have p20 := hb3.frozen (p := ⟨w2.heap.size + 1, 0, none⟩); have p21 := hb3.frozen (p := ⟨w2.heap.size + 1, 1, none⟩); have p22 := hb3.frozen (p := ⟨w2.heap.size + 1, 2, none⟩); try simp [go_sem] at q10; try simp [go_sem] at q11; try simp [go_sem] at q12; try simp [go_sem] at q20; try simp [go_sem] at q21; try simp [go_sem] at q22; try simp [go_sem] at p10; try simp [go_sem] at p11; try simp [go_sem] at p12; try simp [go_sem] at p20; try simp [go_sem] at p21; try simp [go_sem] at p22; have s3 := hb3.size; try simp at s3; (first | (have r1 : _ ∧ _ ∧ _ := alloc3 (x := .bool false) (y := .slice none 0 0) (z := .slice none 0 0) ⟨q10, q11, q12⟩ (.cells (roomCells nl) 3); have v1 := falloc3 (w := w3) (N := w2.heap.size) (by omega) ⟨p10, p11, p12⟩ (.cells (roomCells nl) 3); obtain ⟨r10, r11, r12⟩ := r1; obtain ⟨v10, v11, v12⟩ := v1) | skip)))
    all_goals go_wp2
    all_goals go_meet
    · case rel =>
        refine ⟨_, rfl, by omega, below_trans (below_trans ((Env.start w2).drew 1).bel hb3) (push (push (start w3) _) _), ?_⟩
        have h := fil_mk (vf_cm (w := wR) (N := nl) hb3 o3 hk3 (E.drew 1).bel ((E.drew 1).getBox 0 rfl))
        rw [World.size_alloc] at h
        exact h
    · case rel =>
        refine ⟨_, rfl, by omega, below_trans (below_trans ((Env.start w2).drew 1).bel hb3) (push (push (start w3) _) _), a3, k3, w3.heap.size + 1, ?_, by omega, ?_, ?_, ?_, ?_⟩
        · have h := vf_cm (w := wR) (N := nl) (hb3.alloc hb3.size (.cells #[.bool false, .slice a3 s.length k3, .slice (some ⟨w3.heap.size + 1, 0, none⟩) nl nl] 24)) (o3.below (push (start w3) _)) hk3 (E.drew 1).bel ((E.drew 1).getBox 0 rfl)
          rw [World.size_alloc] at h
          exact h
        · have := (((E.drew 1).step hb3).getBox 0 rfl).lt; exact this
        · simp [go_sem]
        · simp [go_sem]
        · simp [go_sem]
    · case rel =>
        refine ⟨_, rfl, by omega, below_trans (below_trans (((Env.start w2).alloc (.cells (roomCells nl) 3)).drew 1).bel hb3) (push (start w3) _), ?_⟩
        have hg := heap_alloc_new w2 (.cells (roomCells nl) 3)
        exact fil_mk (vf_mc (w := wR) (N := nl) hb3 o3 hk3 hg (E.getBox 0 rfl).lt ((E.alloc _).drew 1).bel (((E.alloc _).drew 1).getBox 0 rfl))
    · case rel =>
        refine ⟨_, rfl, by omega, set3 (below_trans ((((Env.start w2).alloc (.cells (roomCells nl) 3)).alloc (.cells #[.bool false, .slice none 0 0, .slice none 0 0] 24)).drew 1).bel hb3) (by omega) _ _ _, ?_⟩
        have hg := heap_alloc_new w2 (.cells (roomCells nl) 3)
        have hg2 := (heap_alloc_old _ (.cells #[.bool false, .slice none 0 0, .slice none 0 0] 24) (lt_heap hg)).trans hg
        exact fil_set (vf_mc (w := wR) (N := nl) hb3 o3 hk3 hg2 (E.getBox 0 rfl).lt (((E.alloc _).alloc _).drew 1).bel ((((E.alloc _).alloc _).drew 1).getBox 0 rfl)) (by omega) (by have := (E.getBox 0 rfl).lt; omega) (fun p e => by have h := own_fresh o3 p e; simp at h; omega) q20 q21 q22
    · case rel =>
        refine ⟨_, rfl, by omega, set3 (below_trans (below_trans (((Env.start w2).alloc (.cells #[.bool false, .slice none 0 0, .slice none 0 0] 24)).drew 1).bel hb3) (push (start w3) _)) (by omega) _ _ _, ?_⟩
        exact fil_set (vf_cm (w := wR) (N := nl) hb3 o3 hk3 ((E.alloc _).drew 1).bel (((E.alloc _).drew 1).getBox 0 rfl)) (by omega) (E.getBox 0 rfl).lt (fun p e => by have h := own_fresh o3 p e; simp at h; omega) r10 r11 r12
    · case rel =>
        refine ⟨_, rfl, by omega, set3 (below_trans ((((Env.start w2).alloc (.cells #[.bool false, .slice none 0 0, .slice none 0 0] 24)).alloc (.cells (roomCells nl) 3)).drew 1).bel hb3) (by omega) _ _ _, ?_⟩
        have hg := heap_alloc_new (w2.alloc (.cells #[.bool false, .slice none 0 0, .slice none 0 0] 24)) (.cells (roomCells nl) 3)
        rw [World.size_alloc] at hg
        exact fil_set (vf_mc (w := wR) (N := nl) hb3 o3 hk3 hg (by have := (E.getBox 0 rfl).lt; omega) (((E.alloc _).alloc _).drew 1).bel ((((E.alloc _).alloc _).drew 1).getBox 0 rfl)) (by omega) (E.getBox 0 rfl).lt (fun p e => by have h := own_fresh o3 p e; simp at h; omega) q10 q11 q12
  case rest =>
    obtain ⟨Bo, rfl, hBo, hbx, a3, k3, gd, hV, hne, hwB, c0, c1, c2⟩ := hcut
    obtain ⟨v1, v2, v3, v4, v5, v6, v7⟩ := hV
    have E1 := E.step hbx
    have hown1 := hown.out.kept (⟨hbx.os, hbx.tape, hbx.output, hbx.size, fun k hk _ => hbx.block k hk⟩ : w2.grownBy wc none) (by simp)
    have hgne : g ≠ gd := by
      rintro rfl
      obtain ⟨es, clock, hm, -⟩ := hown1
      rw [v1] at hm
      cases hm
    have hroom := own_room2 v1 (show wR.heap.size + 1 ≤ gd by omega) (show nl ≤ maxLen by unfold maxLen; omega)
    have lgd := lt_heap v1
    have hRne : wR.heap.size ≠ gd := by omega
    have hBne : Bo ≠ gd := Ne.symm hne
    have hgc := hown1.lt
    obtain ⟨x0, x1, x2⟩ := (E1.getBox 2 rfl).1
    replace v1 := Lib.hid v1
    replace hroom := Lib.hid hroom
    replace hown1 := Lib.hid hown1
    replace E1 := Lib.hid E1
    replace E := Lib.hid E
    replace hbx := Lib.hid hbx
    clear hS0 rs hmk
    go_wp2
    go_loopw [33] (fun v wr => ∃ i : Nat, v = .int .i64 i ∧ i ≤ nl ∧ Own wr (wR.heap.size + 1) (.slice (some ⟨gd, 0, none⟩) nl nl) (inL (d.take i) d' ++ List.replicate (nl - i) 0) ∧ But gd wc wr ∧ Below wR.heap.size wR wr) (fun v _ => nl - (intOf v).toNat)
    case atStart => exact ⟨0, rfl, Nat.zero_le _, by rw [List.take_zero, Nat.sub_zero]; exact hroom.out, But.refl _ _, v7⟩
    case round =>
      obtain ⟨i, rfl, hi, hO, hbut, hbel⟩ := hrel
      clear x0 x1 x2
      have EX := E0.out.step hbel
      have k2 := (cell_of_eq (hbut Bo (World.block_lt_of_cell? wc _ c2) hBne) 2).trans c2
      by_cases hlt : i < nl
      · have hil : i < d.length := by rw [← hnl.out]; exact hlt
        obtain ⟨b1, o1, rfl, c1⟩ := EX.getRow 3 rfl i hil
        obtain ⟨y0, -, -⟩ := (EX.getBox 0 rfl).1
        obtain ⟨x0, -, -⟩ := (EX.getBox 1 rfl).1
        have hv64 : I64 (d.getD i 0) := by
          have : d.getD i 0 = d[i] := by simp [hil]
          rw [this]; exact x64.out _ (List.getElem_mem hil)
        have hnx := inL_take (e := d') hil
        have hll : (inL (d.take i) d').length = i := by unfold inL; rw [List.length_map, List.length_take]; omega
        generalize d.getD i 0 = v at *
        have hkey : keyOf Tryz.prog 3 (.int .i64 v) = some (.int .i64 v) := Go.Maps.keyOf_int_mk Tryz.underlying3 (WalkArith.wf_i64 hv64)
        have hownr := ownsMap_of_eq hown1.out (hbut g hgc hgne)
        have hv := hhas.out v
        have kfr := own_frozen hO i
        have kc := own_cell hO (i := i) (by simp [hll]; omega)
        have hstore := fun u => own_store hO (i := i) (by simp [hll]; omega) u
        simp only [fill_set' hll hlt] at hstore
        have z0 : (0 : Int) ≤ ((i : Nat) : Int) := by omega
        have z1 : ((i : Nat) : Int) < ((nl : Nat) : Int) := by omega
        have zz : ((i : Nat) : Int).toNat = i := by simp
        generalize (inL (d.take i) d' ++ List.replicate (nl - i) 0).getD i 0 = cc at kc
        have hO' : Own wr (wR.heap.size + 1) (.slice (some ⟨gd, 0, none⟩) nl nl) ((inL (d.take i) d' ++ [0]) ++ List.replicate (nl - (i + 1)) 0) := by
          have e : inL (d.take i) d' ++ List.replicate (nl - i) (0 : Int) = (inL (d.take i) d' ++ [0]) ++ List.replicate (nl - (i + 1)) 0 := by
            rw [show nl - i = nl - (i + 1) + 1 by omega, List.replicate_succ, List.append_assoc]; rfl
          rw [← e]; exact hO
        replace hO := Lib.hid hO
        replace hO' := Lib.hid hO'
        replace hstore := Lib.hid hstore
        replace hbut := Lib.hid hbut
        replace hbel := Lib.hid hbel
        replace hnx := Lib.hid hnx
        replace hll := Lib.hid hll
        replace EX := Lib.hid EX
        replace hownr := Lib.hid hownr
        clear c0 c2
        cases hin : decide (v ∈ d')
        · rw [hin] at hv
          have hne' := of_decide_eq_false hin
          replace hin := Lib.hid hin
          go_wp2_with (first
            | (at_lookup; refine wpList_lookup_own_ok_int _ rfl _ _ 260 rfl 3 3 .i64 intLaw Tryz.underlying260 Tryz.underlying3 (zeroInt _) g d'.length D rfl hownr.out _ _ rfl hkey ?_; rw [hv]; intro cv _ _)
            | fail)
          go_roundw
          case rel =>
            refine ⟨i + 1, by simp, hlt, ?_, hbut.out, hbel.out⟩
            rw [hnx.out, if_neg hne']
            exact hO'.out
          case measure => simp [intOf]; omega
        · rw [hin] at hv
          have hme := of_decide_eq_true hin
          replace hin := Lib.hid hin
          go_wp2_with (first
            | (at_lookup; refine wpList_lookup_own_ok_int _ rfl _ _ 260 rfl 3 3 .i64 intLaw Tryz.underlying260 Tryz.underlying3 (zeroInt _) g d'.length D rfl hownr.out _ _ rfl hkey ?_; rw [hv]; intro cv _ _)
            | fail)
          go_roundw
          case rel =>
            refine ⟨i + 1, by simp, hlt, ?_, hbut.out.set _ _, hbel.out.setCell (p := ⟨gd, i, none⟩) (by show wR.heap.size ≤ gd; omega) _⟩
            rw [hnx.out, if_pos hme]
            exact hstore.out 1
          case measure => simp [intOf]; omega
      · obtain rfl : i = nl := by omega
        have eB := hbut Bo (World.block_lt_of_cell? wc _ c2) hBne
        have k0 := (cell_of_eq eB 0).trans c0
        have k1 := (cell_of_eq eB 1).trans c1
        have hRw := v6.same9 (hbut wR.heap.size (v6.lt) hRne)
        rw [Nat.sub_self, List.replicate_zero, List.append_nil, hnl.out, List.take_length] at hO
        have hll : (inL d d').length = i := by unfold inL; rw [List.length_map, hnl.out]
        have ra : Row wr a3 s := by
          intro j hj
          obtain ⟨b, o, rfl, hc⟩ := v2 j hj
          exact ⟨b, o, rfl, (cell_of_eq (hbut b (World.block_lt_of_cell? _ _ hc) (v3 _ rfl).2) (o + j)).trans hc⟩
        have rb := hO.row
        obtain ⟨⟨z0, z1, z2⟩, y0, y1, y2⟩ := hRw
        replace hO := Lib.hid hO
        replace hbut := Lib.hid hbut
        replace hbel := Lib.hid hbel
        replace hll := Lib.hid hll
        replace EX := Lib.hid EX
        have e1 : decide (((i : Nat) : Int) < ((i : Nat) : Int)) = false := decide_eq_false (by omega)
        clear c0 c1 c2 eB
        go_wp2
        refine bodyPost_ret (v := .tuple #[arrV false a3 s.length k3 (some ⟨gd, 0, none⟩) i i, .nilIface]) (by simp [results, Tryz.results157, go_sem, cell?_set_same, z0, z1, z2]) rfl ?_
        have hk : ∀ (u0 u1 u2 : Value) (b : Nat), b ≠ wR.heap.size → (((wr.setCell ⟨wR.heap.size, 0, none⟩ u0).setCell ⟨wR.heap.size, 1, none⟩ u1).setCell ⟨wR.heap.size, 2, none⟩ u2).heap[b]? = wr.heap[b]? := fun u0 u1 u2 b hb => by
          rw [Below.heap_setCell _ _ _ b hb, Below.heap_setCell _ _ _ b hb, Below.heap_setCell _ _ _ b hb]
        have hsw := swR.out
        refine ArrPostF.ok (x := ⟨false, s, inL d d'⟩) rfl (by rw [hll.out]) ?_ ?_ (fun p e => by have := (v3 p e).1; omega) (fun p e => by cases e; show w.heap.size ≤ gd; omega) v4 (set3 (below_trans hbw.out hbel.out) (by omega) _ _ _)
        · intro j hj
          obtain ⟨b, o, rfl, hc⟩ := ra j hj
          exact ⟨b, o, rfl, (cell_of_eq (hk _ _ _ b (Nat.ne_of_gt (v3 _ rfl).1)) (o + j)).trans hc⟩
        · intro j hj
          obtain ⟨b, o, e, hc⟩ := rb j hj
          cases e
          exact ⟨gd, 0, rfl, (cell_of_eq (hk _ _ _ gd (Nat.ne_of_gt v5)) (0 + j)).trans hc⟩
end Go.Proofs.YtaplaoelamnoiaaGreatDoor

/- The calls prim.numbers, prim.number, prim.list and radix calls' frames. Condition: arrays of numbers. -/
namespace Go.Proofs.YtaplaoelamnoiaaGreatDoor
open Go.RowKit

set_option maxRecDepth 20000 in
set_option maxHeartbeats 4000000 in
theorem numbers_any (a : Option Addr) (n c : Nat) (b : Option Addr) (m k : Nat) (w : World) (hn : n ≤ 1) :
    Calls Tryz.prog 146 #[arrV false a n c b m k] w fun en w' => en = .returned (.tuple #[.slice b m k, .nilIface]) ∧ Below w.heap.size w w' := by
  have hb := Lib.hid (push (start w) (.cells #[.bool false, .slice a n c, .slice b m k] 24))
  have e0 : decide (1 < ((n : Nat) : Int)) = false := decide_eq_false (by omega)
  go_enter Tryz.func146, Tryz.ntmps146
  go_wp2
  go_ret2
  exact ⟨rfl, hb.out⟩

set_option maxRecDepth 20000 in
set_option maxHeartbeats 4000000 in
theorem pnumber_any (a : Option Addr) (c : Nat) (b : Option Addr) (k : Nat) (v : Int) (w : World) (hd : Row w b [v]) :
    Calls Tryz.prog 109 #[arrV false a 0 c b 1 k] w fun en w' => en = .returned (.tuple #[.int .i64 v, .nilIface]) ∧ Below w.heap.size w w' := by
  obtain ⟨W, hWe⟩ : ∃ W : World, W = w.alloc (.cells #[.bool false, .slice a 0 c, .slice b 1 k] 24) := ⟨_, rfl⟩
  have hb : Below w.heap.size w W := by rw [hWe]; exact push (start w) _
  have X := boxC_alloc w #[.bool false, .slice a 0 c, .slice b 1 k] 24
  rw [← hWe] at X
  obtain ⟨b1, o1, rfl, c1⟩ := (hd.below hb) 0 (by simp)
  obtain ⟨y0, -⟩ := X 0 _ rfl
  obtain ⟨y1, -⟩ := X 1 _ rfl
  obtain ⟨y2, -⟩ := X 2 _ rfl
  simp only [List.getD_cons_zero, Nat.add_zero] at c1
  have hWe' := Lib.hid hWe.symm
  replace hWe := Lib.hid hWe
  replace hb := Lib.hid hb
  replace hd := Lib.hid hd
  clear X
  go_enter Tryz.func109, Tryz.ntmps109
  go_upto_region 1 with fail
  rw [hWe'.out]
  go_wp2
  go_ret2
  exact ⟨rfl, hb.out⟩

set_option maxRecDepth 20000 in
set_option maxHeartbeats 4000000 in
theorem plist_any (b : Option Addr) (l : List Int) (m k : Nat) (w : World) (hd : Row w b l) (hm : m = l.length) :
    Calls Tryz.prog 154 #[.slice b m k] w fun en w' => ∃ g : Nat, en = .returned (arrV false (some ⟨g, 0, none⟩) 1 1 b m k) ∧ w.heap.size ≤ g ∧ Row w' (some ⟨g, 0, none⟩) [(l.length : Int)] ∧ Row w' b l ∧ Below w.heap.size w w' := by
  subst hm
  replace hd := Lib.hid hd
  go_enter Tryz.func154, Tryz.ntmps154
  go_wp2
  have hb := push (push (start w) (.cells #[.bool false, .slice (some ⟨w.heap.size + 1, 0, none⟩) 1 1, .slice b l.length k] 24)) (.cells #[.int .i64 (l.length : Int)] 3)
  refine bodyPost_ret (v := arrV false (some ⟨w.heap.size + 1, 0, none⟩) 1 1 b l.length k) (by simp [results, Tryz.results154, go_sem, arrV]) rfl ?_
  exact ⟨w.heap.size + 1, rfl, by omega, row_one (by simp [go_sem]), hd.out.below hb, hb⟩
end Go.Proofs.YtaplaoelamnoiaaGreatDoor

/- The calls prim.byList and prim.Two of the function that keeps what a mask has. Condition: a mask and a list of numbers of one length, in a room that holds it. -/
namespace Go.Proofs.YtaplaoelamnoiaaGreatDoor
open Go.RowKit

set_option maxRecDepth 20000 in
set_option maxHeartbeats 8000000 in
theorem byList_keep (n : Nat) (mask d : List Int) (hn : n ≤ 1) (hl : mask.length = d.length) (hf : M.flaw false [(d.length : Int)] d = 0) (hm : ∀ v ∈ mask, v = 0 ∨ v = 1)
    (w : World) (a : Option Addr) (c : Nat) (b : Option Addr) (k : Nat) (a' : Option Addr) (c' : Nat) (b' : Option Addr) (k' : Nat) (hk : d.length ≤ k') (hd : Row w b mask) (hs' : Row w a' [(d.length : Int)]) (hd' : Row w b' d) :
    Calls Tryz.prog 113 #[.int .i64 33, arrV false a n c b mask.length k, arrV false a' 1 c' b' d.length k'] w fun e w' => ArrPostF (.ok ⟨false, [((keepN mask d d.length).length : Int)], keepN mask d d.length⟩) w e w' := by
  have kl := fun W => last_any false a' 1 c' b' d.length k' W (by omega)
  have kn := fun W => numbers_any a n c b mask.length k W hn
  have kr := fun W h0 h1 h2 => keep_any b k mask d a' c' b' k' W hl hf hm hk h0 h1 h2
  obtain ⟨z, hz⟩ : ∃ z : Arr, z = ⟨false, [((keepN mask d d.length).length : Int)], keepN mask d d.length⟩ := ⟨_, rfl⟩
  rw [← hz] at kr
  rw [← hz]
  replace hz := Lib.hid hz
  have E := ((((Env.start w).addRow hd').addRow hs').addRow hd)
  replace E := E.box false a n c b mask.length k
  replace E := E.box false a' 1 c' b' d.length k'
  replace E := E.box false none 0 0 none 0 0
  simp only [World.size_alloc] at E
  obtain ⟨W, hWe⟩ : ∃ W : World, W = ((w.alloc (.cells #[.bool false, .slice a n c, .slice b mask.length k] 24)).alloc (.cells #[.bool false, .slice a' 1 c', .slice b' d.length k'] 24)).alloc (.cells #[.bool false, .slice none 0 0, .slice none 0 0] 24) := ⟨_, rfl⟩
  rw [← hWe] at E
  have hWe' := Lib.hid hWe.symm
  replace hWe := Lib.hid hWe
  replace kl := Lib.hid kl
  replace kn := Lib.hid kn
  replace kr := Lib.hid kr
  clear hl hf hm hk hd hs' hd' hn
  replace E := Lib.hid E
  go_enter Tryz.func113, Tryz.ntmps113
  go_wp2_with fail
  rw [hWe'.out]
  replace E := E.out
  refine (kl.out _).mono ?_
  rintro en w1 ⟨rfl, hb⟩
  replace E := E.step hb
  clear hb
  obtain ⟨⟨y0, y1, y2⟩, -⟩ := E.getBox 2 rfl
  replace E := Lib.hid E
  go_wp2_with fail
  replace E := E.out
  refine (kn.out _).mono ?_
  rintro en w2 ⟨rfl, hb⟩
  replace E := E.step hb
  clear hb
  clear y0 y1 y2
  obtain ⟨⟨y0, y1, y2⟩, -⟩ := E.getBox 1 rfl
  replace E := Lib.hid E
  go_wp2_with fail
  replace E := E.out
  refine (kr.out w2 (E.getRow 3 rfl) (E.getRow 4 rfl) (E.getRow 5 rfl)).mono ?_
  intro en w6 hp
  obtain ⟨a5, c5, b5, k5, rfl, r1, r2, f1, f2, hc, hb6⟩ := hp.is_ok rfl
  clear hp
  clear y0 y1 y2
  have hlt := (E.getBox 0 rfl).lt
  have hfin := Lib.hid (result_any (x := z) (k := k5) (n0 := w.heap.size + 1 + 1) (by omega) E.bel hlt r1 r2 f1 f2 hc hb6)
  obtain ⟨⟨t0, t1, t2⟩, u0, u1, u2⟩ := (E.step hb6).getBox 0 rfl
  clear E r1 r2 f1 f2 hc hb6 hlt
  go_wp2
  refine bodyPost_ret (v := .tuple #[arrV z.ch a5 z.s.length c5 b5 z.d.length k5, .nilIface]) (by simp [results, Tryz.results113, go_sem, cell?_set_same, arrV, t0, t1, t2]) rfl ?_
  exact hfin.out
set_option maxRecDepth 20000 in
set_option maxHeartbeats 8000000 in
theorem two_keep (x y z : Arr) (hx : M.flaw x.ch x.s x.d = 0) (hy : M.flaw y.ch y.s y.d = 0) 
    (kn : ∀ W, Calls Tryz.prog 106 #[.agg #[.int .i64 0, .int .i64 33, .int .i64 0]] W fun en w' => en = .returned (.bool true) ∧ Below W.heap.size W w')
    (kb : ∀ (W : World) (a : Option Addr) (c : Nat) (b : Option Addr) (k : Nat) (a' : Option Addr) (c' : Nat) (b' : Option Addr) (k' : Nat), y.d.length ≤ k' → Row W a x.s → Row W b x.d → Row W a' y.s → Row W b' y.d →
      Calls Tryz.prog 113 #[.int .i64 33, arrV x.ch a x.s.length c b x.d.length k, arrV y.ch a' y.s.length c' b' y.d.length k'] W fun e w' => ArrPostF (.ok z) W e w') : Two1C (fun k => y.d.length ≤ k) 0 33 0 x y z := by
  intro w a c b k a' c' b' k' hck hs hd hs' hd'
  obtain ⟨ch, s, d⟩ := x
  obtain ⟨ch', s', d'⟩ := y
  dsimp only at hx hy kb hck hs hd hs' hd' ⊢
  have l1 := (flaw_len hx).2
  have l2 := (flaw_len hx).1
  have l3 := (flaw_len hy).2
  have l4 := (flaw_len hy).1
  have kc1 := fun W h1 h2 => check_any ch a b s d s.length c d.length k W h1 h2 (by simp only [maxLen]; omega) (by simp only [maxLen]; omega) rfl rfl
  have kc2 := fun W h1 h2 => check_any ch' a' b' s' d' s'.length c' d'.length k' W h1 h2 (by simp only [maxLen]; omega) (by simp only [maxLen]; omega) rfl rfl
  rw [hx, errV_zero] at kc1
  rw [hy, errV_zero] at kc2
  replace kb := fun W => kb W a c b k a' c' b' k' hck
  obtain ⟨n1, hn1⟩ : ∃ n, n = s.length := ⟨_, rfl⟩
  obtain ⟨n2, hn2⟩ : ∃ n, n = d.length := ⟨_, rfl⟩
  obtain ⟨n3, hn3⟩ : ∃ n, n = s'.length := ⟨_, rfl⟩
  obtain ⟨n4, hn4⟩ : ∃ n, n = d'.length := ⟨_, rfl⟩
  rw [← hn1, ← hn2] at kc1 kb
  rw [← hn3, ← hn4] at kc2 kb
  rw [← hn1, ← hn2, ← hn3, ← hn4]
  obtain ⟨W, hWe⟩ : ∃ W : World, W = (((w.alloc (.cells #[.int .i64 0, .int .i64 33, .int .i64 0] 74)).alloc (.cells #[.bool ch, .slice a n1 c, .slice b n2 k] 24)).alloc (.cells #[.bool ch', .slice a' n3 c', .slice b' n4 k'] 24)).alloc (.cells #[.bool false, .slice none 0 0, .slice none 0 0] 24) := ⟨_, rfl⟩
  obtain ⟨bA, bX, bY, bR, sW⟩ := four_boxes _ _ _ _ _ _ _ _ _ W hWe
  have hb0 : Below w.heap.size w W := by rw [hWe]; exact push (push (push (push (start w) _) _) _) _
  have hWe' := Lib.hid hWe.symm
  replace hWe := Lib.hid hWe
  replace hn1 := Lib.hid hn1
  replace hn2 := Lib.hid hn2
  replace hn3 := Lib.hid hn3
  replace hn4 := Lib.hid hn4
  replace kc1 := Lib.hid kc1
  replace kc2 := Lib.hid kc2
  replace kb := Lib.hid kb
  replace kn := Lib.hid kn
  replace hs := Lib.hid hs
  replace hd := Lib.hid hd
  replace hs' := Lib.hid hs'
  replace hd' := Lib.hid hd'
  replace bA := Lib.hid bA
  replace bX := Lib.hid bX
  replace bY := Lib.hid bY
  replace bR := Lib.hid bR
  replace hb0 := Lib.hid hb0
  replace sW := Lib.hid sW
  clear hx hy l1 l2 l3 l4 hck
  have ix0 := idx_two0 (.bool ch) (.slice a n1 c) (.slice b n2 k) (.bool ch') (.slice a' n3 c') (.slice b' n4 k')
  have ix1 := idx_two1 (.bool ch) (.slice a n1 c) (.slice b n2 k) (.bool ch') (.slice a' n3 c') (.slice b' n4 k')
  go_enter Tryz.func91, Tryz.ntmps91
  go_wp2_with fail
  rw [hWe'.out]
  refine (kn.out _).mono ?_
  rintro en w1 ⟨rfl, hb1⟩
  have A1 := Lib.hid (bA.out.same (hb1.block _ (by have := sW.out; omega)))
  have X1 := Lib.hid (bX.out.same (hb1.block _ (by have := sW.out; omega)))
  have Y1 := Lib.hid (bY.out.same (hb1.block _ (by have := sW.out; omega)))
  have R1 := Lib.hid (bR.out.same (hb1.block _ (by have := sW.out; omega)))
  have hb01 := Lib.hid (hb0.out.trans (hb1.mono (by have := sW.out; omega)))
  have sw1 : Hid (w.heap.size + 1 + 1 + 1 < w1.heap.size) := Lib.hid (by have := sW.out; have := hb1.size; omega)
  obtain ⟨y0, -⟩ := A1.out 0 _ rfl
  obtain ⟨y1, -⟩ := X1.out 0 _ rfl
  obtain ⟨y2, -⟩ := X1.out 1 _ rfl
  obtain ⟨y3, -⟩ := X1.out 2 _ rfl
  obtain ⟨y4, -⟩ := Y1.out 0 _ rfl
  obtain ⟨y5, -⟩ := Y1.out 1 _ rfl
  obtain ⟨y6, -⟩ := Y1.out 2 _ rfl
  clear hb1 hb0 bA bX bY bR kn
  go_wp2
  go_loopw [38] (fun v wr => (v = .int .i64 0 ∨ v = .int .i64 1 ∨ v = .int .i64 2) ∧ Below w1.heap.size w1 wr) (fun v _ => 2 - (intOf v).toNat)
  case atStart => exact ⟨.inl rfl, Below.refl _ _⟩
  case round =>
    clear y0 y1 y2 y3 y4 y5 y6
    obtain ⟨hcase, hbw⟩ := hrel
    rcases hcase with rfl | rfl | rfl
    · have hba := push (start wr) (.cells #[.bool ch, .slice a n1 c, .slice b n2 k] 24)
      have q1 := hs.out.below ((hb01.out.trans (hbw.mono (by have := sw1.out; omega))).trans (hba.mono (by have := sw1.out; have := hbw.size; omega)))
      have q2 := hd.out.below ((hb01.out.trans (hbw.mono (by have := sw1.out; omega))).trans (hba.mono (by have := sw1.out; have := hbw.size; omega)))
      have kk := Lib.hid (kc1.out _ q1 q2)
      clear q1 q2
      replace hbw := Lib.hid hbw
      replace hba := Lib.hid hba
      go_wp2_with fail
      refine kk.out.mono ?_
      rintro en w5 ⟨rfl, hb5⟩
      have hbn := Lib.hid ((hbw.out.trans (hba.out.mono hbw.out.size)).trans (hb5.mono (by have := hbw.out.size; have := hba.out.size; omega)))
      clear hb5
      go_wp2
      go_roundw
      case rel => exact ⟨.inr (.inl (by go_num)), hbn.out⟩
      case measure => simp [intOf]
    · have hba := push (start wr) (.cells #[.bool ch', .slice a' n3 c', .slice b' n4 k'] 24)
      have q1 := hs'.out.below ((hb01.out.trans (hbw.mono (by have := sw1.out; omega))).trans (hba.mono (by have := sw1.out; have := hbw.size; omega)))
      have q2 := hd'.out.below ((hb01.out.trans (hbw.mono (by have := sw1.out; omega))).trans (hba.mono (by have := sw1.out; have := hbw.size; omega)))
      have kk := Lib.hid (kc2.out _ q1 q2)
      clear q1 q2
      replace hbw := Lib.hid hbw
      replace hba := Lib.hid hba
      go_wp2_with fail
      refine kk.out.mono ?_
      rintro en w5 ⟨rfl, hb5⟩
      have hbn := Lib.hid ((hbw.out.trans (hba.out.mono hbw.out.size)).trans (hb5.mono (by have := hbw.out.size; have := hba.out.size; omega)))
      clear hb5
      go_wp2
      go_roundw
      case rel => exact ⟨.inr (.inr (by go_num)), hbn.out⟩
      case measure => simp [intOf]
    · have A2 := A1.out.same (hbw.block _ (by have := sw1.out; omega))
      have X2 := X1.out.same (hbw.block _ (by have := sw1.out; omega))
      have Y2 := Y1.out.same (hbw.block _ (by have := sw1.out; omega))
      have R2 := Lib.hid (R1.out.same (hbw.block _ (by have := sw1.out; omega)))
      have hb2 := Lib.hid (hb01.out.trans (hbw.mono (by have := sw1.out; omega)))
      have s2 : Hid (w.heap.size + 1 + 1 + 1 < wr.heap.size) := Lib.hid (by have := sw1.out; have := hbw.size; omega)
      obtain ⟨y0, -⟩ := A2 0 _ rfl
      obtain ⟨y7, -⟩ := A2 1 _ rfl
      obtain ⟨y1, -⟩ := X2 0 _ rfl
      obtain ⟨y2, -⟩ := X2 1 _ rfl
      obtain ⟨y3, -⟩ := X2 2 _ rfl
      obtain ⟨y4, -⟩ := Y2 0 _ rfl
      obtain ⟨y5, -⟩ := Y2 1 _ rfl
      obtain ⟨y6, -⟩ := Y2 2 _ rfl
      clear A2 X2 Y2 hbw
      go_wp2_with fail
      refine (kb.out _ (hs.out.below hb2.out) (hd.out.below hb2.out) (hs'.out.below hb2.out) (hd'.out.below hb2.out)).mono ?_
      intro en w6 hp
      obtain ⟨a5, c5, b5, k5, rfl, r1, r2, f1, f2, hc, hb6⟩ := hp.is_ok rfl
      clear hp y0 y1 y2 y3 y4 y5 y6 y7
      have R6 := R2.out.same (hb6.block _ (by have := s2.out; omega))
      have hb06 := Lib.hid (hb2.out.trans (hb6.mono (by have := s2.out; omega)))
      have g1 : ∀ p, a5 = some p → w.heap.size + 1 + 1 + 1 < p.block := fun p e => by have := f1 p e; have := s2.out; omega
      have g2 : ∀ p, b5 = some p → w.heap.size + 1 + 1 + 1 < p.block := fun p e => by have := f2 p e; have := s2.out; omega
      replace r1 := Lib.hid r1
      replace r2 := Lib.hid r2
      replace g1 := Lib.hid g1
      replace g2 := Lib.hid g2
      replace hc := Lib.hid hc
      obtain ⟨t0, u0⟩ := R6 0 _ rfl
      obtain ⟨t1, u1⟩ := R6 1 _ rfl
      obtain ⟨t2, u2⟩ := R6 2 _ rfl
      clear R6 hb6 f1 f2
      go_wp2
      refine bodyPost_ret (v := .tuple #[arrV z.ch a5 z.s.length c5 b5 z.d.length k5, .nilIface]) (by simp [results, Tryz.results91, go_sem, cell?_set_same, arrV, t0, t1, t2]) rfl ?_
      refine ArrPostF.ok rfl rfl (r1.out.but (But.set3 _ _ _ _ _ _) (fun _ p e => ?_)) (r2.out.but (But.set3 _ _ _ _ _ _) (fun _ p e => ?_)) (fun p e => ?_) (fun p e => ?_) hc.out (set3 hb06.out (by omega) _ _ _)
      · have := g1.out p e; omega
      · have := g2.out p e; omega
      · have := g1.out p e; omega
      · have := g2.out p e; omega
set_option maxRecDepth 20000 in
set_option maxHeartbeats 4000000 in
theorem known2_keep (w : World) : Calls Tryz.prog 106 #[.agg #[.int .i64 0, .int .i64 33, .int .i64 0]] w fun en w' => en = .returned (.bool true) ∧ Below w.heap.size w w' := by
  go_enter Tryz.func106, Tryz.ntmps106
  go_wp2
  go_ret
  exact ⟨rfl, push (start w) _⟩
theorem prim_keep (s mask d : List Int) (hs : s.length ≤ 1) (hx : M.flaw false s mask = 0) (hl : mask.length = d.length) (hf : M.flaw false [(d.length : Int)] d = 0) (hm : ∀ v ∈ mask, v = 0 ∨ v = 1) :
    Two1C (fun k => d.length ≤ k) 0 33 0 ⟨false, s, mask⟩ ⟨false, [(d.length : Int)], d⟩ ⟨false, [((keepN mask d d.length).length : Int)], keepN mask d d.length⟩ :=
  two_keep ⟨false, s, mask⟩ ⟨false, [(d.length : Int)], d⟩ _ hx hf known2_keep fun W a c b k a' c' b' k' hk _ h2 h3 h4 => byList_keep s.length mask d hs hl hf hm W a c b k a' c' b' k' hk h2 h3 h4
end Go.Proofs.YtaplaoelamnoiaaGreatDoor

/- The calls prim.byBoth and prim.Two of the function that tells which numbers a list has. Condition: sound arrays of numbers of 64 bits. -/
namespace Go.Proofs.YtaplaoelamnoiaaGreatDoor
open Go.RowKit

set_option maxRecDepth 20000 in
set_option maxHeartbeats 4000000 in
theorem both_in (x y : Arr) (hx : M.flaw x.ch x.s x.d = 0) (hy : M.flaw y.ch y.s y.d = 0) (x64 : All64 x.d) (y64 : All64 y.d) (cx : x.ch = false) (cy : y.ch = false)
    (w : World) (a : Option Addr) (c : Nat) (b : Option Addr) (k : Nat) (a' : Option Addr) (c' : Nat) (b' : Option Addr) (k' : Nat) (hs : Row w a x.s) (hd : Row w b x.d) (hs' : Row w a' y.s) (hd' : Row w b' y.d) :
    Calls Tryz.prog 114 #[.int .i64 25, arrV x.ch a x.s.length c b x.d.length k, arrV y.ch a' y.s.length c' b' y.d.length k'] w fun e w' => ArrPostF (.ok ⟨false, x.s, inL x.d y.d⟩) w e w' := by
  have ke := fun W h1 h2 h3 h4 => in_any x y hx hy x64 y64 cx cy W a c b k a' c' b' k' h1 h2 h3 h4
  obtain ⟨z, hz⟩ : ∃ z : Arr, z = ⟨false, x.s, inL x.d y.d⟩ := ⟨_, rfl⟩
  rw [← hz] at ke
  rw [← hz]
  obtain ⟨W, hWe⟩ : ∃ W : World, W = ((w.alloc (.cells #[.bool x.ch, .slice a x.s.length c, .slice b x.d.length k] 24)).alloc (.cells #[.bool y.ch, .slice a' y.s.length c', .slice b' y.d.length k'] 24)).alloc (.cells #[.bool false, .slice none 0 0, .slice none 0 0] 24) := ⟨_, rfl⟩
  obtain ⟨-, -, bR, sW⟩ := three_boxes _ _ _ _ _ _ _ W hWe
  have hb0 : Below w.heap.size w W := by rw [hWe]; exact push (push (push (start w) _) _) _
  have kk := Lib.hid (ke W (hs.below hb0) (hd.below hb0) (hs'.below hb0) (hd'.below hb0))
  have hWe' := Lib.hid hWe.symm
  replace hWe := Lib.hid hWe
  replace bR := Lib.hid bR
  replace hb0 := Lib.hid hb0
  replace sW := Lib.hid sW
  clear hx hy x64 y64 hz hs hd hs' hd' ke cx cy
  go_enter Tryz.func114, Tryz.ntmps114
  go_wp2_with fail
  rw [hWe'.out]
  refine kk.out.mono ?_
  intro en w6 hp
  obtain ⟨a5, c5, b5, k5, rfl, r1, r2, f1, f2, hc, hb6⟩ := hp.is_ok rfl
  clear hp
  obtain ⟨t0, u0⟩ := (bR.out.same (hb6.block _ (by have := sW.out; omega))) 0 _ rfl
  obtain ⟨t1, u1⟩ := (bR.out.same (hb6.block _ (by have := sW.out; omega))) 1 _ rfl
  obtain ⟨t2, u2⟩ := (bR.out.same (hb6.block _ (by have := sW.out; omega))) 2 _ rfl
  have hfin := Lib.hid (result_any (k := k5) (n0 := w.heap.size + 1 + 1) (by omega) hb0.out (by have := sW.out; omega) r1 r2 f1 f2 hc hb6)
  clear r1 r2 f1 f2 hc hb6
  go_wp2
  refine bodyPost_ret (v := .tuple #[arrV z.ch a5 z.s.length c5 b5 z.d.length k5, .nilIface]) (by simp [results, Tryz.results114, go_sem, cell?_set_same, arrV, t0, t1, t2]) rfl ?_
  exact hfin.out

set_option maxRecDepth 20000 in
set_option maxHeartbeats 4000000 in
theorem known2_in (w : World) : Calls Tryz.prog 106 #[.agg #[.int .i64 0, .int .i64 25, .int .i64 0]] w fun en w' => en = .returned (.bool true) ∧ Below w.heap.size w w' := by
  go_enter Tryz.func106, Tryz.ntmps106
  go_wp2
  go_ret
  exact ⟨rfl, push (start w) _⟩
theorem prim_in (x y : Arr) (hx : M.flaw x.ch x.s x.d = 0) (hy : M.flaw y.ch y.s y.d = 0) (x64 : All64 x.d) (y64 : All64 y.d) (cx : x.ch = false) (cy : y.ch = false) : Two1 0 25 0 x y ⟨false, x.s, inL x.d y.d⟩ :=
  two_both 25 x y _ hx hy rfl rfl rfl rfl rfl rfl rfl rfl known2_in fun W a c b k a' c' b' k' h1 h2 h3 h4 => both_in x y hx hy x64 y64 cx cy W a c b k a' c' b' k' h1 h2 h3 h4
end Go.Proofs.YtaplaoelamnoiaaGreatDoor

/- The numbers from 2 on are those up to n but the first two, in plain Lean. No condition. -/
namespace Go.Proofs.YtaplaoelamnoiaaGreatDoor
open Go.RowKit

theorem upTo_drop (n : Nat) : (upTo n).drop 2 = fromTwo n := by
  apply List.ext_getElem
  · simp [upTo, fromTwo]
  · intro i h1 h2
    simp only [upTo, fromTwo, List.getElem_drop, List.getElem_map, List.getElem_range]
    omega
theorem fromTwo_succ {n : Nat} (h : 2 ≤ n) : fromTwo (n + 1) = fromTwo n ++ [(n : Int)] := by
  unfold fromTwo
  rw [show n + 1 - 2 = n - 2 + 1 by omega, List.range_succ, List.map_append]
  simp only [List.map_cons, List.map_nil]
  rw [show n - 2 + 2 = n by omega]
end Go.Proofs.YtaplaoelamnoiaaGreatDoor

/- The call cut.Drop on a list. Condition: a list, and no more dropped than it has. -/
namespace Go.Proofs.YtaplaoelamnoiaaGreatDoor
open Go.RowKit

set_option maxRecDepth 20000 in
set_option maxHeartbeats 8000000 in
theorem drop_any (ao : Option Addr) (co k : Nat) (d : List Int) (a : Option Addr) (c : Nat) (b : Option Addr) (kk : Nat) (w : World) (hk : k ≤ d.length) (hf : M.flaw false [(d.length : Int)] d = 0)
    (ho : Row w ao [(k : Int)]) (hs : Row w a [(d.length : Int)]) (hd : Row w b d) :
    Calls Tryz.prog 149 #[.slice ao 1 co, arrV false a 1 c b d.length kk] w fun en w' => ArrPostF (.ok ⟨false, [((d.length - k : Nat) : Int)], d.drop k⟩) w en w' := by
  have l2 := (flaw_len hf).1
  have kc := fun W h1 h2 => check_any false a b [(d.length : Int)] d 1 c d.length kk W h1 h2 (by simp [maxLen]) (by simp only [maxLen]; omega) rfl rfl
  rw [hf, errV_zero] at kc
  have kw := fun (A1 A2 : Option Addr) (c1 c2 : Nat) (W : World) h1 h2 h3 h4 => window_any A1 c1 A2 c2 k (d.length - k) d a c b kk W (by omega) (by omega) h1 h2 h3 h4
  have hlast : (d.drop k).take (d.length - k) = d.drop k := List.take_of_length_le (by simp)
  rw [hlast] at kw
  have hdl : (d.drop k).length = d.length - k := by simp
  obtain ⟨ks, hks⟩ : ∃ ks, ks = d.drop k := ⟨_, rfl⟩
  rw [← hks] at kw hdl
  rw [← hks]
  obtain ⟨q, hq⟩ : ∃ q, q = d.length - k := ⟨_, rfl⟩
  rw [← hq] at kw hdl
  rw [← hq]
  obtain ⟨nl, hnl⟩ : ∃ nl, nl = d.length := ⟨_, rfl⟩
  rw [← hnl] at kc kw hk hq l2
  rw [← hnl] at hs
  rw [← hnl]
  have E0 := (((Env.start w).addRow ho).addRow hd).addRow hs
  replace E0 := E0.box false a 1 c b nl kk
  obtain ⟨wR, hwR⟩ : ∃ wR : World, wR = w.alloc (.cells #[.bool false, .slice a 1 c, .slice b nl kk] 24) := ⟨_, rfl⟩
  have swR : wR.heap.size = w.heap.size + 1 := by rw [hwR]; simp
  rw [← hwR] at E0
  have hbw := E0.bel
  have E : Env wR wR _ := ⟨Below.refl _ _, E0.2⟩
  replace E := E.box false none 0 0 none 0 0
  obtain ⟨W, hWe⟩ : ∃ W : World, W = wR.alloc (.cells #[.bool false, .slice none 0 0, .slice none 0 0] 24) := ⟨_, rfl⟩
  rw [← hWe] at E
  have hWe' : Hid ((w.alloc (.cells #[.bool false, .slice a 1 c, .slice b nl kk] 24)).alloc (.cells #[.bool false, .slice none 0 0, .slice none 0 0] 24) = W) := Lib.hid (by rw [hWe, hwR])
  replace hWe := Lib.hid hWe
  replace hwR := Lib.hid hwR
  replace hbw := Lib.hid hbw
  replace swR := Lib.hid swR
  replace kc := Lib.hid kc
  replace kw := Lib.hid kw
  replace E0 := Lib.hid E0
  replace E := Lib.hid E
  replace hks := Lib.hid hks
  replace hq := Lib.hid hq
  replace hdl := Lib.hid hdl
  replace hnl := Lib.hid hnl
  clear hs hd ho hf hlast
  go_enter Tryz.func149, Tryz.ntmps149
  go_wp2_with fail
  rw [hWe'.out]
  refine (kc.out W (E.out.getRow 2 rfl) (E.out.getRow 3 rfl)).mono ?_
  rintro en w1 ⟨rfl, hb⟩
  replace E := E.out.step hb
  clear hb
  obtain ⟨⟨y0, y1, y2⟩, -⟩ := E.getBox 1 rfl
  have hlx := (E.getBox 1 rfl).lt
  have rs := E.getRow 2 rfl
  have nn1 : w1.heap.size ≠ w.heap.size := by omega
  have hmk1 := fun W => run_make_room 1 1 (Nat.le_refl _) (by omega) W
  simp only [Int.natCast_one] at hmk1
  have hS0 : w1.drew.cell? ⟨w.heap.size, 0, none⟩ = some (.bool false) ∧ w1.drew.cell? ⟨w.heap.size, 1, none⟩ = some (.slice a 1 c) ∧ w1.drew.cell? ⟨w.heap.size, 2, none⟩ = some (.slice b nl kk) := (E.getBox 1 rfl).1
  replace E := Lib.hid E
  go_upto_region 6 with fail
  go_cut [7, 8] from 9 (fun s7 s8 wx => ∃ gs ks' gf, s7 = .slice (some ⟨gs, 0, none⟩) 1 ks' ∧ s8 = .slice (some ⟨gf, 0, none⟩) 1 1 ∧ gs ≠ gf ∧ w1.heap.size ≤ gs ∧ w1.heap.size ≤ gf ∧ Own wx w1.heap.size (.slice (some ⟨gs, 0, none⟩) 1 ks') [(nl : Int)] ∧ Own wx w1.heap.size (.slice (some ⟨gf, 0, none⟩) 1 1) [0] ∧ Below w1.heap.size w1 wx)
  case first =>
    go_region_held3 (fun w' => w'.cell? ⟨w.heap.size, 0, none⟩ = some (.bool false) ∧ w'.cell? ⟨w.heap.size, 1, none⟩ = some (.slice a 1 c) ∧ w'.cell? ⟨w.heap.size, 2, none⟩ = some (.slice b nl kk))
      (first | go_keep | (exact held3 hb3 (by assumption)) | (exact alloc3 hS0 _))
      (first
        | (go_at_call 72; refine (clone_any a [(nl : Int)] 1 c _ (by first | exact rs.drewN 1 | exact (rs.alloc _).drewN 1) (by simp) rfl).mono ?_; rintro e w3 ⟨v3, rfl, o3, hb3⟩; obtain ⟨hX0, hX1, hX2⟩ := held3 (N := w.heap.size) (x := .bool false) (y := .slice a 1 c) (z := .slice b nl kk) hb3 (by first | exact hS0 | exact alloc3 hS0 _); obtain ⟨ga, k3, rfl⟩ : ∃ ga k3, v3 = .slice (some ⟨ga, 0, none⟩) 1 k3 := own_one o3))
    all_goals go_wp2
    all_goals go_meet
    · case rel =>
        have hob := own_block o3
        simp only [World.size_drew] at hob
        have hR := own_room2 (n := 1) (heap_alloc_new w3 (.cells (roomCells 1) 3)) (show w1.heap.size ≤ w3.heap.size by omega) (by simp [maxLen])
        exact ⟨ga, k3, w3.heap.size, rfl, rfl, by omega, hob.1, by omega, own_weak (o3.below (push (start w3) _)) (by simp), hR, below_trans (below_trans ((Env.start w1).drew 1).bel hb3) (push (start w3) _)⟩
    · case rel =>
        have hob := own_block o3
        simp only [World.size_drew, World.size_alloc] at hob
        have hR := own_room2 (n := 1) (heap_alloc_new w1 (.cells (roomCells 1) 3)) (Nat.le_refl _) (by simp [maxLen])
        have hR3 : Own w3 w1.heap.size (.slice (some ⟨w1.heap.size, 0, none⟩) 1 1) [0] := Own.below (w := (w1.alloc (.cells (roomCells 1) 3)).drew) hR hb3
        exact ⟨ga, k3, w1.heap.size, rfl, rfl, by omega, by omega, Nat.le_refl _, own_weak o3 (by simp), hR3, below_trans (((Env.start w1).alloc (.cells (roomCells 1) 3)).drew 1).bel hb3⟩
  case rest =>
    obtain ⟨gs, ks', gf, rfl, rfl, hne, hgs, hgf, oS, oF, hbx⟩ := hcut
    have E1 := E.out.step hbx
    have lS := own_block oS
    have lF := own_block oF
    have kS := own_cell oS (i := 0) (by simp)
    have kF := own_cell oF (i := 0) (by simp)
    have fS := own_frozen oS 0
    have fF := own_frozen oF 0
    simp only [List.getD_cons_zero] at kS kF
    obtain ⟨bo, oo, rfl, kO⟩ := E1.getRow 4 rfl 0 (by simp)
    simp only [List.getD_cons_zero, Nat.add_zero] at kO
    have hk1 : (k : Int) ≤ (nl : Int) := by omega
    have hqk : (nl : Int) - (k : Int) = (q : Int) := by have := hq.out; omega
    replace hqk := Lib.hid hqk
    replace oS := Lib.hid oS
    replace oF := Lib.hid oF
    replace hbx := Lib.hid hbx
    replace E1 := Lib.hid E1
    clear y0 y1 y2 rs hS0 hmk1
    go_wp2
    go_loopw [33] (fun v wr => (v = .int .i64 0 ∧ wr = wc) ∨ (v = .int .i64 1 ∧ Row wr (some ⟨gs, 0, none⟩) [(q : Int)] ∧ Row wr (some ⟨gf, 0, none⟩) [(k : Int)] ∧ Below w1.heap.size w1 wr)) (fun v _ => 1 - (intOf v).toNat)
    case atStart => exact .inl ⟨rfl, rfl⟩
    case round =>
      rcases hrel with ⟨rfl, rfl⟩ | ⟨rfl, r1, r2, hb⟩
      · go_upto_region 10 with fail
        go_region
        have hmm : min (max (k : Int) (-(nl : Int))) (nl : Int) = (k : Int) := by omega
        rw [hmm]
        have oS' : Own wr.drew w1.heap.size (.slice (some ⟨gs, 0, none⟩) 1 ks') [(nl : Int)] := oS.out
        have oF' : Own wr.drew w1.heap.size (.slice (some ⟨gf, 0, none⟩) 1 1) [0] := oF.out
        have hbx' : Below w1.heap.size w1 wr.drew := below_drewN hbx.out 1
        clear kS kF fS fF kO hmm
        generalize wr.drew = wz at *
        have kS := own_cell oS' (i := 0) (by simp)
        have kF := own_cell oF' (i := 0) (by simp)
        have fS := own_frozen oS' 0
        have fF := own_frozen oF' 0
        simp only [List.getD_cons_zero] at kS kF
        have h1 := own_store oS' (i := 0) (by simp) (q : Int)
        have h2 := own_store (own_other oF' ⟨gs, 0, none⟩ (.int .i64 (q : Int)) (Ne.symm hne)) (i := 0) (by simp) (k : Int)
        have h3 := (own_other h1 ⟨gf, 0, none⟩ (.int .i64 (k : Int)) hne).row
        have h4 := h2.row
        simp only [List.set_cons_zero] at h3 h4
        have hb4 := (hbx'.setCell (p := ⟨gs, 0, none⟩) hgs (.int .i64 (q : Int))).setCell (p := ⟨gf, 0, none⟩) hgf (.int .i64 (k : Int))
        rw [← hqk.out] at h3 h4 hb4
        replace h1 := Lib.hid h1
        replace h2 := Lib.hid h2
        replace h3 := Lib.hid h3
        replace h4 := Lib.hid h4
        replace hb4 := Lib.hid hb4
        replace oS' := Lib.hid oS'
        replace oF' := Lib.hid oF'
        replace hbx' := Lib.hid hbx'
        go_wp2
        go_roundw
        case rel => exact .inr ⟨by go_num, by first | exact h3.out | (rw [← hqk.out]; exact h3.out), by first | exact h4.out | (rw [← hqk.out]; exact h4.out), hb4.out⟩
        case measure => simp [intOf]
      · have E2 := E.out.step hb
        obtain ⟨⟨y0, y1, y2⟩, -⟩ := E2.getBox 1 rfl
        clear kS kF fS fF kO
        replace r1 := Lib.hid r1
        replace r2 := Lib.hid r2
        replace hb := Lib.hid hb
        replace E2 := Lib.hid E2
        go_wp2_with fail
        refine (kw.out _ _ 1 ks' wr r2.out r1.out (E2.out.getRow 2 rfl) (E2.out.getRow 3 rfl)).mono ?_
        rintro en w6 ⟨a5, c5, b5, k5, rfl, p1, p2, f1, f2, hc, hb6⟩
        clear y0 y1 y2
        have E6 := E2.out.step hb6
        have hlt := (E2.out.getBox 0 rfl).lt
        have hsw := swR.out
        have hfin := result_any (x := ⟨false, [(q : Int)], ks⟩) (k := k5) (n0 := wR.heap.size) (by omega) (below_trans hbw.out E2.out.bel) hlt p1 p2 f1 f2 hc hb6
        obtain ⟨⟨t0, t1, t2⟩, u0, u1, u2⟩ := E6.getBox 0 rfl
        rw [hsw] at hfin t0 t1 t2 u0 u1 u2
        have hl6 := hdl.out
        rw [hl6] at hfin
        replace hfin := Lib.hid hfin
        replace hl6 := Lib.hid hl6
        replace hsw := Lib.hid hsw
        clear p1 p2 f1 f2 hc hb6 E6
        go_wp2
        refine bodyPost_ret (v := .tuple #[arrV false a5 1 c5 b5 q k5, .nilIface]) (by simp [results, Tryz.results149, go_sem, cell?_set_same, arrV, t0, t1, t2]) rfl ?_
        exact hfin.out
end Go.Proofs.YtaplaoelamnoiaaGreatDoor

/- The calls prim.byList and prim.Two of the function that drops the first ones of a list. Condition: a number, and a list that has no fewer. -/
namespace Go.Proofs.YtaplaoelamnoiaaGreatDoor
open Go.RowKit

set_option maxRecDepth 20000 in
set_option maxHeartbeats 8000000 in
theorem byList_drop (n m : Nat) (d : List Int) (hn : n ≤ 1) (hm : m ≤ d.length) (hf : M.flaw false [(d.length : Int)] d = 0)
    (w : World) (a : Option Addr) (c : Nat) (b : Option Addr) (k : Nat) (a' : Option Addr) (c' : Nat) (b' : Option Addr) (k' : Nat) (hd : Row w b [(m : Int)]) (hs' : Row w a' [(d.length : Int)]) (hd' : Row w b' d) :
    Calls Tryz.prog 113 #[.int .i64 23, arrV false a n c b 1 k, arrV false a' 1 c' b' d.length k'] w fun e w' => ArrPostF (.ok ⟨false, [((d.length - m : Nat) : Int)], d.drop m⟩) w e w' := by
  have kl := fun W => last_any false a' 1 c' b' d.length k' W (by omega)
  have kn := fun W => numbers_any a n c b 1 k W hn
  have kr := fun W h0 h1 h2 => drop_any b k m d a' c' b' k' W hm hf h0 h1 h2
  obtain ⟨z, hz⟩ : ∃ z : Arr, z = ⟨false, [((d.length - m : Nat) : Int)], d.drop m⟩ := ⟨_, rfl⟩
  rw [← hz] at kr
  rw [← hz]
  replace hz := Lib.hid hz
  have E := ((((Env.start w).addRow hd').addRow hs').addRow hd)
  replace E := E.box false a n c b 1 k
  replace E := E.box false a' 1 c' b' d.length k'
  replace E := E.box false none 0 0 none 0 0
  simp only [World.size_alloc] at E
  obtain ⟨W, hWe⟩ : ∃ W : World, W = ((w.alloc (.cells #[.bool false, .slice a n c, .slice b 1 k] 24)).alloc (.cells #[.bool false, .slice a' 1 c', .slice b' d.length k'] 24)).alloc (.cells #[.bool false, .slice none 0 0, .slice none 0 0] 24) := ⟨_, rfl⟩
  rw [← hWe] at E
  have hWe' := Lib.hid hWe.symm
  replace hWe := Lib.hid hWe
  replace kl := Lib.hid kl
  replace kn := Lib.hid kn
  replace kr := Lib.hid kr
  clear hm hf hd hs' hd' hn
  replace E := Lib.hid E
  go_enter Tryz.func113, Tryz.ntmps113
  go_wp2_with fail
  rw [hWe'.out]
  replace E := E.out
  refine (kl.out _).mono ?_
  rintro en w1 ⟨rfl, hb⟩
  replace E := E.step hb
  clear hb
  obtain ⟨⟨y0, y1, y2⟩, -⟩ := E.getBox 2 rfl
  replace E := Lib.hid E
  go_wp2_with fail
  replace E := E.out
  refine (kn.out _).mono ?_
  rintro en w2 ⟨rfl, hb⟩
  replace E := E.step hb
  clear hb
  clear y0 y1 y2
  obtain ⟨⟨y0, y1, y2⟩, -⟩ := E.getBox 1 rfl
  replace E := Lib.hid E
  go_wp2_with fail
  replace E := E.out
  refine (kr.out w2 (E.getRow 3 rfl) (E.getRow 4 rfl) (E.getRow 5 rfl)).mono ?_
  intro en w6 hp
  obtain ⟨a5, c5, b5, k5, rfl, r1, r2, f1, f2, hc, hb6⟩ := hp.is_ok rfl
  clear hp
  clear y0 y1 y2
  have hlt := (E.getBox 0 rfl).lt
  have hfin := Lib.hid (result_any (x := z) (k := k5) (n0 := w.heap.size + 1 + 1) (by omega) E.bel hlt r1 r2 f1 f2 hc hb6)
  obtain ⟨⟨t0, t1, t2⟩, u0, u1, u2⟩ := (E.step hb6).getBox 0 rfl
  clear E r1 r2 f1 f2 hc hb6 hlt
  go_wp2
  refine bodyPost_ret (v := .tuple #[arrV z.ch a5 z.s.length c5 b5 z.d.length k5, .nilIface]) (by simp [results, Tryz.results113, go_sem, cell?_set_same, arrV, t0, t1, t2]) rfl ?_
  exact hfin.out
set_option maxRecDepth 20000 in
set_option maxHeartbeats 8000000 in
theorem two_drop (x y z : Arr) (hx : M.flaw x.ch x.s x.d = 0) (hy : M.flaw y.ch y.s y.d = 0) 
    (kn : ∀ W, Calls Tryz.prog 106 #[.agg #[.int .i64 0, .int .i64 23, .int .i64 0]] W fun en w' => en = .returned (.bool true) ∧ Below W.heap.size W w')
    (kb : ∀ (W : World) (a : Option Addr) (c : Nat) (b : Option Addr) (k : Nat) (a' : Option Addr) (c' : Nat) (b' : Option Addr) (k' : Nat), Row W a x.s → Row W b x.d → Row W a' y.s → Row W b' y.d →
      Calls Tryz.prog 113 #[.int .i64 23, arrV x.ch a x.s.length c b x.d.length k, arrV y.ch a' y.s.length c' b' y.d.length k'] W fun e w' => ArrPostF (.ok z) W e w') : Two1 0 23 0 x y z := by
  intro w a c b k a' c' b' k' hs hd hs' hd'
  obtain ⟨ch, s, d⟩ := x
  obtain ⟨ch', s', d'⟩ := y
  dsimp only at hx hy kb hs hd hs' hd' ⊢
  have l1 := (flaw_len hx).2
  have l2 := (flaw_len hx).1
  have l3 := (flaw_len hy).2
  have l4 := (flaw_len hy).1
  have kc1 := fun W h1 h2 => check_any ch a b s d s.length c d.length k W h1 h2 (by simp only [maxLen]; omega) (by simp only [maxLen]; omega) rfl rfl
  have kc2 := fun W h1 h2 => check_any ch' a' b' s' d' s'.length c' d'.length k' W h1 h2 (by simp only [maxLen]; omega) (by simp only [maxLen]; omega) rfl rfl
  rw [hx, errV_zero] at kc1
  rw [hy, errV_zero] at kc2
  replace kb := fun W => kb W a c b k a' c' b' k'
  obtain ⟨n1, hn1⟩ : ∃ n, n = s.length := ⟨_, rfl⟩
  obtain ⟨n2, hn2⟩ : ∃ n, n = d.length := ⟨_, rfl⟩
  obtain ⟨n3, hn3⟩ : ∃ n, n = s'.length := ⟨_, rfl⟩
  obtain ⟨n4, hn4⟩ : ∃ n, n = d'.length := ⟨_, rfl⟩
  rw [← hn1, ← hn2] at kc1 kb
  rw [← hn3, ← hn4] at kc2 kb
  rw [← hn1, ← hn2, ← hn3, ← hn4]
  obtain ⟨W, hWe⟩ : ∃ W : World, W = (((w.alloc (.cells #[.int .i64 0, .int .i64 23, .int .i64 0] 74)).alloc (.cells #[.bool ch, .slice a n1 c, .slice b n2 k] 24)).alloc (.cells #[.bool ch', .slice a' n3 c', .slice b' n4 k'] 24)).alloc (.cells #[.bool false, .slice none 0 0, .slice none 0 0] 24) := ⟨_, rfl⟩
  obtain ⟨bA, bX, bY, bR, sW⟩ := four_boxes _ _ _ _ _ _ _ _ _ W hWe
  have hb0 : Below w.heap.size w W := by rw [hWe]; exact push (push (push (push (start w) _) _) _) _
  have hWe' := Lib.hid hWe.symm
  replace hWe := Lib.hid hWe
  replace hn1 := Lib.hid hn1
  replace hn2 := Lib.hid hn2
  replace hn3 := Lib.hid hn3
  replace hn4 := Lib.hid hn4
  replace kc1 := Lib.hid kc1
  replace kc2 := Lib.hid kc2
  replace kb := Lib.hid kb
  replace kn := Lib.hid kn
  replace hs := Lib.hid hs
  replace hd := Lib.hid hd
  replace hs' := Lib.hid hs'
  replace hd' := Lib.hid hd'
  replace bA := Lib.hid bA
  replace bX := Lib.hid bX
  replace bY := Lib.hid bY
  replace bR := Lib.hid bR
  replace hb0 := Lib.hid hb0
  replace sW := Lib.hid sW
  clear hx hy l1 l2 l3 l4
  have ix0 := idx_two0 (.bool ch) (.slice a n1 c) (.slice b n2 k) (.bool ch') (.slice a' n3 c') (.slice b' n4 k')
  have ix1 := idx_two1 (.bool ch) (.slice a n1 c) (.slice b n2 k) (.bool ch') (.slice a' n3 c') (.slice b' n4 k')
  go_enter Tryz.func91, Tryz.ntmps91
  go_wp2_with fail
  rw [hWe'.out]
  refine (kn.out _).mono ?_
  rintro en w1 ⟨rfl, hb1⟩
  have A1 := Lib.hid (bA.out.same (hb1.block _ (by have := sW.out; omega)))
  have X1 := Lib.hid (bX.out.same (hb1.block _ (by have := sW.out; omega)))
  have Y1 := Lib.hid (bY.out.same (hb1.block _ (by have := sW.out; omega)))
  have R1 := Lib.hid (bR.out.same (hb1.block _ (by have := sW.out; omega)))
  have hb01 := Lib.hid (hb0.out.trans (hb1.mono (by have := sW.out; omega)))
  have sw1 : Hid (w.heap.size + 1 + 1 + 1 < w1.heap.size) := Lib.hid (by have := sW.out; have := hb1.size; omega)
  obtain ⟨y0, -⟩ := A1.out 0 _ rfl
  obtain ⟨y1, -⟩ := X1.out 0 _ rfl
  obtain ⟨y2, -⟩ := X1.out 1 _ rfl
  obtain ⟨y3, -⟩ := X1.out 2 _ rfl
  obtain ⟨y4, -⟩ := Y1.out 0 _ rfl
  obtain ⟨y5, -⟩ := Y1.out 1 _ rfl
  obtain ⟨y6, -⟩ := Y1.out 2 _ rfl
  clear hb1 hb0 bA bX bY bR kn
  go_wp2
  go_loopw [38] (fun v wr => (v = .int .i64 0 ∨ v = .int .i64 1 ∨ v = .int .i64 2) ∧ Below w1.heap.size w1 wr) (fun v _ => 2 - (intOf v).toNat)
  case atStart => exact ⟨.inl rfl, Below.refl _ _⟩
  case round =>
    clear y0 y1 y2 y3 y4 y5 y6
    obtain ⟨hcase, hbw⟩ := hrel
    rcases hcase with rfl | rfl | rfl
    · have hba := push (start wr) (.cells #[.bool ch, .slice a n1 c, .slice b n2 k] 24)
      have q1 := hs.out.below ((hb01.out.trans (hbw.mono (by have := sw1.out; omega))).trans (hba.mono (by have := sw1.out; have := hbw.size; omega)))
      have q2 := hd.out.below ((hb01.out.trans (hbw.mono (by have := sw1.out; omega))).trans (hba.mono (by have := sw1.out; have := hbw.size; omega)))
      have kk := Lib.hid (kc1.out _ q1 q2)
      clear q1 q2
      replace hbw := Lib.hid hbw
      replace hba := Lib.hid hba
      go_wp2_with fail
      refine kk.out.mono ?_
      rintro en w5 ⟨rfl, hb5⟩
      have hbn := Lib.hid ((hbw.out.trans (hba.out.mono hbw.out.size)).trans (hb5.mono (by have := hbw.out.size; have := hba.out.size; omega)))
      clear hb5
      go_wp2
      go_roundw
      case rel => exact ⟨.inr (.inl (by go_num)), hbn.out⟩
      case measure => simp [intOf]
    · have hba := push (start wr) (.cells #[.bool ch', .slice a' n3 c', .slice b' n4 k'] 24)
      have q1 := hs'.out.below ((hb01.out.trans (hbw.mono (by have := sw1.out; omega))).trans (hba.mono (by have := sw1.out; have := hbw.size; omega)))
      have q2 := hd'.out.below ((hb01.out.trans (hbw.mono (by have := sw1.out; omega))).trans (hba.mono (by have := sw1.out; have := hbw.size; omega)))
      have kk := Lib.hid (kc2.out _ q1 q2)
      clear q1 q2
      replace hbw := Lib.hid hbw
      replace hba := Lib.hid hba
      go_wp2_with fail
      refine kk.out.mono ?_
      rintro en w5 ⟨rfl, hb5⟩
      have hbn := Lib.hid ((hbw.out.trans (hba.out.mono hbw.out.size)).trans (hb5.mono (by have := hbw.out.size; have := hba.out.size; omega)))
      clear hb5
      go_wp2
      go_roundw
      case rel => exact ⟨.inr (.inr (by go_num)), hbn.out⟩
      case measure => simp [intOf]
    · have A2 := A1.out.same (hbw.block _ (by have := sw1.out; omega))
      have X2 := X1.out.same (hbw.block _ (by have := sw1.out; omega))
      have Y2 := Y1.out.same (hbw.block _ (by have := sw1.out; omega))
      have R2 := Lib.hid (R1.out.same (hbw.block _ (by have := sw1.out; omega)))
      have hb2 := Lib.hid (hb01.out.trans (hbw.mono (by have := sw1.out; omega)))
      have s2 : Hid (w.heap.size + 1 + 1 + 1 < wr.heap.size) := Lib.hid (by have := sw1.out; have := hbw.size; omega)
      obtain ⟨y0, -⟩ := A2 0 _ rfl
      obtain ⟨y7, -⟩ := A2 1 _ rfl
      obtain ⟨y1, -⟩ := X2 0 _ rfl
      obtain ⟨y2, -⟩ := X2 1 _ rfl
      obtain ⟨y3, -⟩ := X2 2 _ rfl
      obtain ⟨y4, -⟩ := Y2 0 _ rfl
      obtain ⟨y5, -⟩ := Y2 1 _ rfl
      obtain ⟨y6, -⟩ := Y2 2 _ rfl
      clear A2 X2 Y2 hbw
      go_wp2_with fail
      refine (kb.out _ (hs.out.below hb2.out) (hd.out.below hb2.out) (hs'.out.below hb2.out) (hd'.out.below hb2.out)).mono ?_
      intro en w6 hp
      obtain ⟨a5, c5, b5, k5, rfl, r1, r2, f1, f2, hc, hb6⟩ := hp.is_ok rfl
      clear hp y0 y1 y2 y3 y4 y5 y6 y7
      have R6 := R2.out.same (hb6.block _ (by have := s2.out; omega))
      have hb06 := Lib.hid (hb2.out.trans (hb6.mono (by have := s2.out; omega)))
      have g1 : ∀ p, a5 = some p → w.heap.size + 1 + 1 + 1 < p.block := fun p e => by have := f1 p e; have := s2.out; omega
      have g2 : ∀ p, b5 = some p → w.heap.size + 1 + 1 + 1 < p.block := fun p e => by have := f2 p e; have := s2.out; omega
      replace r1 := Lib.hid r1
      replace r2 := Lib.hid r2
      replace g1 := Lib.hid g1
      replace g2 := Lib.hid g2
      replace hc := Lib.hid hc
      obtain ⟨t0, u0⟩ := R6 0 _ rfl
      obtain ⟨t1, u1⟩ := R6 1 _ rfl
      obtain ⟨t2, u2⟩ := R6 2 _ rfl
      clear R6 hb6 f1 f2
      go_wp2
      refine bodyPost_ret (v := .tuple #[arrV z.ch a5 z.s.length c5 b5 z.d.length k5, .nilIface]) (by simp [results, Tryz.results91, go_sem, cell?_set_same, arrV, t0, t1, t2]) rfl ?_
      refine ArrPostF.ok rfl rfl (r1.out.but (But.set3 _ _ _ _ _ _) (fun _ p e => ?_)) (r2.out.but (But.set3 _ _ _ _ _ _) (fun _ p e => ?_)) (fun p e => ?_) (fun p e => ?_) hc.out (set3 hb06.out (by omega) _ _ _)
      · have := g1.out p e; omega
      · have := g2.out p e; omega
      · have := g1.out p e; omega
      · have := g2.out p e; omega
set_option maxRecDepth 20000 in
set_option maxHeartbeats 4000000 in
theorem known2_drop (w : World) : Calls Tryz.prog 106 #[.agg #[.int .i64 0, .int .i64 23, .int .i64 0]] w fun en w' => en = .returned (.bool true) ∧ Below w.heap.size w w' := by
  go_enter Tryz.func106, Tryz.ntmps106
  go_wp2
  go_ret
  exact ⟨rfl, push (start w) _⟩
theorem prim_drop (s : List Int) (m : Nat) (d : List Int) (hs : s.length ≤ 1) (hx : M.flaw false s [(m : Int)] = 0) (hm : m ≤ d.length) (hf : M.flaw false [(d.length : Int)] d = 0) :
    Two1 0 23 0 ⟨false, s, [(m : Int)]⟩ ⟨false, [(d.length : Int)], d⟩ ⟨false, [((d.length - m : Nat) : Int)], d.drop m⟩ :=
  two_drop ⟨false, s, [(m : Int)]⟩ ⟨false, [(d.length : Int)], d⟩ _ hx hf known2_drop fun W a c b k a' c' b' k' _ h2 h3 h4 => byList_drop s.length m d hs hm hf W a c b k a' c' b' k' h2 h3 h4
end Go.Proofs.YtaplaoelamnoiaaGreatDoor

/- The calls prim.plainOne and prim.One of the function iota. Condition: a number of 64 bits. -/
namespace Go.Proofs.YtaplaoelamnoiaaGreatDoor
open Go.RowKit

set_option maxRecDepth 20000 in
set_option maxHeartbeats 4000000 in
theorem plain_iota (n : Int) (z : Arr) (hn : I64 n) (hz : M.iota n = .ok z) (w : World) (a : Option Addr) (c : Nat) (b : Option Addr) (k : Nat) (hd : Row w b [n]) :
    Calls Tryz.prog 118 #[.int .i64 24, arrV false a 0 c b 1 k] w fun e w' => ArrPostF (.ok z) w e w' := by
  have kl := fun W => last_any false a 0 c b 1 k W (by omega)
  have kv := fun W h => pnumber_any a c b k n W h
  have ki := fun W => iotaF_any n W hn
  rw [hz] at ki
  have E := (Env.start w).addRow hd
  replace E := E.box false a 0 c b 1 k
  replace E := E.box false none 0 0 none 0 0
  simp only [World.size_alloc] at E
  obtain ⟨W, hWe⟩ : ∃ W : World, W = (w.alloc (.cells #[.bool false, .slice a 0 c, .slice b 1 k] 24)).alloc (.cells #[.bool false, .slice none 0 0, .slice none 0 0] 24) := ⟨_, rfl⟩
  rw [← hWe] at E
  have hWe' := Lib.hid hWe.symm
  replace hWe := Lib.hid hWe
  replace kl := Lib.hid kl
  replace kv := Lib.hid kv
  replace ki := Lib.hid ki
  clear hz hd hn
  replace E := Lib.hid E
  go_enter Tryz.func118, Tryz.ntmps118
  go_wp2_with fail
  rw [hWe'.out]
  refine (kl.out _).mono ?_
  rintro en w1 ⟨rfl, hb⟩
  replace E := E.out.step hb
  clear hb
  obtain ⟨⟨y0, y1, y2⟩, -⟩ := E.getBox 1 rfl
  replace E := Lib.hid E
  go_wp2_with fail
  refine (kv.out w1 (E.out.getRow 2 rfl)).mono ?_
  rintro en w2 ⟨rfl, hb⟩
  replace E := Lib.hid (E.out.step hb)
  clear hb y0 y1 y2
  go_wp2_with fail
  refine (ki.out w2).mono ?_
  intro en w6 hp
  obtain ⟨a5, c5, b5, k5, rfl, r1, r2, f1, f2, hc, hb6⟩ := hp.is_ok rfl
  clear hp
  replace E := E.out
  have hlt := (E.getBox 0 rfl).lt
  have hfin := Lib.hid (result_any (x := z) (k := k5) (n0 := w.heap.size + 1) (by omega) E.bel hlt r1 r2 f1 f2 hc hb6)
  obtain ⟨⟨t0, t1, t2⟩, u0, u1, u2⟩ := (E.step hb6).getBox 0 rfl
  clear E r1 r2 f1 f2 hc hb6 hlt
  go_wp2
  refine bodyPost_ret (v := .tuple #[arrV z.ch a5 z.s.length c5 b5 z.d.length k5, .nilIface]) (by simp [results, Tryz.results118, go_sem, cell?_set_same, arrV, t0, t1, t2]) rfl ?_
  exact hfin.out
set_option maxRecDepth 20000 in
set_option maxHeartbeats 4000000 in
theorem known1_iota (w : World) : Calls Tryz.prog 115 #[.agg #[.int .i64 0, .int .i64 24, .int .i64 0]] w fun en w' => en = .returned (.bool true) ∧ Below w.heap.size w w' := by
  go_enter Tryz.func115, Tryz.ntmps115
  go_wp2
  go_ret
  exact ⟨rfl, push (start w) _⟩
theorem prim_iota (n : Int) (z : Arr) (hx : M.flaw false [] [n] = 0) (hn : I64 n) (hz : M.iota n = .ok z) : One1 0 24 0 ⟨false, [], [n]⟩ z :=
  one_plain 24 ⟨false, [], [n]⟩ z hx known1_iota fun W a c b k _ h2 => plain_iota n z hn hz W a c b k h2
end Go.Proofs.YtaplaoelamnoiaaGreatDoor
