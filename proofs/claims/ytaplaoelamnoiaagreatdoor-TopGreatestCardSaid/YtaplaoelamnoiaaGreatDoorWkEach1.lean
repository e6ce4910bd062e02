/- The call each.One: a function of one number on an array, cell by cell; each.filled with its closure. Condition: rows that lie as lists of ints of 64 bits. -/
import Derived.Test.YtaplaoelamnoiaaGreatDoorBg31
import Derived.Test.YtaplaoelamnoiaaGreatDoorBg11
import Derived.Test.YtaplaoelamnoiaaGreatDoorBg04
import Derived.Test.YtaplaoelamnoiaaGreatDoorBg24
import Derived.Deep.QuietTactic
import Derived.BigQuiet
import Derived.Laws.EntriesVeiled
import Derived.Deep.RegionHeld3
import Derived.Deep.Cut
namespace Go.Proofs.YtaplaoelamnoiaaGreatDoor
open Go.RowKit

set_option maxRecDepth 20000 in
set_option maxHeartbeats 8000000 in
theorem filled1_any (T : Nat → Except Int Int) (s : List Int) (a : Option Addr) (c N F A : Nat) (w : World) (hs : Row w a s) (ls : s.length ≤ 6) (hN : N ≤ 4096) 
    (hT : ∀ i, i < N → ∀ w', Below w.heap.size w w' → Calls Tryz.prog 220 #[.int .i64 i, .pointer (some ⟨F, 0, none⟩), .pointer (some ⟨A, 0, none⟩)] w' fun e w'' =>
      e = .returned (resI (T i)) ∧ ∃ n, w'' = w'.drewN n) :
    Calls Tryz.prog 210 #[.slice a s.length c, .int .i64 N, .func (.func 220) #[] #[.pointer (some ⟨F, 0, none⟩), .pointer (some ⟨A, 0, none⟩)]] w fun e w' =>
      ArrPostF (M.fillE s N T) w e w' := by
  have ls' : s.length < 17592186044416 := by omega
  have E := ((Env.start w).addRow hs).box false none 0 0 none 0 0
  have hN' : N < 17592186044416 := by clear ls' hT; omega
  have hmk := run_make_room N N (Nat.le_refl _) hN'
  replace hT := Lib.hid hT
  have rs := E.getRow 1 rfl
  have hS0 : (w.alloc (.cells #[.bool false, .slice none 0 0, .slice none 0 0] 24)).drew.cell? ⟨w.heap.size, 0, none⟩ = some (.bool false) ∧ (w.alloc (.cells #[.bool false, .slice none 0 0, .slice none 0 0] 24)).drew.cell? ⟨w.heap.size, 1, none⟩ = some (.slice none 0 0) ∧ (w.alloc (.cells #[.bool false, .slice none 0 0, .slice none 0 0] 24)).drew.cell? ⟨w.heap.size, 2, none⟩ = some (.slice none 0 0) := (E.getBox 0 rfl).1
  go_enter Tryz.func210, Tryz.ntmps210
  go_upto_region 1 with fail
  go_cut [8] from 9 (fun s8 wx => ∃ Bo, s8 = .pointer (some ⟨Bo, 0, none⟩) ∧ FilAt w s N Bo wx)
  case first =>
    go_region_held3 (fun w' => 0 ≤ w'.heap.size)
      (first | exact Nat.zero_le _)
      (first
        | (go_at_call 72; refine (clone_any a s _ c _ (by first | exact rs.drewN 1 | exact (rs.alloc _).drewN 1 | exact ((rs.alloc _).alloc _).drewN 1) ls' rfl).mono ?_; rintro e w3 ⟨v3, rfl, o3, hb3⟩; obtain ⟨a3, k3, rfl, hk3, -, -⟩ := o3.view; have q10 := hb3.cell (p := ⟨w.heap.size + 1, 0, none⟩); have q11 := hb3.cell (p := ⟨w.heap.size + 1, 1, none⟩); have q12 := hb3.cell (p := ⟨w.heap.size + 1, 2, none⟩); have q20 := hb3.cell (p := ⟨w.heap.size + 1 + 1, 0, none⟩); have q21 := hb3.cell (p := ⟨w.heap.size + 1 + 1, 1, none⟩); have q22 := hb3.cell (p := ⟨w.heap.size + 1 + 1, 2, none⟩); have p10 := hb3.frozen (p := ⟨w.heap.size + 1, 0, none⟩); have p11 := hb3.frozen (p := ⟨w.heap.size + 1, 1, none⟩); have p12 := hb3.frozen (p := ⟨w.heap.size + 1, 2, none⟩); have p20 := hb3.frozen (p := ⟨w.heap.size + 1 + 1, 0, none⟩); have p21 := hb3.frozen (p := ⟨w.heap.size + 1 + 1, 1, none⟩); have p22 := hb3.frozen (p := ⟨w.heap.size + 1 + 1, 2, none⟩); try simp [go_sem] at q10; try simp [go_sem] at q11; try simp [go_sem] at q12; try simp [go_sem] at q20; try simp [go_sem] at q21; try simp [go_sem] at q22; try simp [go_sem] at p10; try simp [go_sem] at p11; try simp [go_sem] at p12; try simp [go_sem] at p20; try simp [go_sem] at p21; try simp [go_sem] at p22; have s3 := hb3.size; try simp at s3; (first | (have r1 : _ ∧ _ ∧ _ := alloc3 (x := .bool false) (y := .slice none 0 0) (z := .slice none 0 0) ⟨q10, q11, q12⟩ (.cells (roomCells N) 3); have v1 := falloc3 (w := w3) (N := w.heap.size + 1) (by omega) ⟨p10, p11, p12⟩ (.cells (roomCells N) 3); obtain ⟨r10, r11, r12⟩ := r1; obtain ⟨v10, v11, v12⟩ := v1) | skip)))
    all_goals go_wp2
    all_goals go_meet
    · case rel =>
        refine ⟨_, rfl, ?_⟩
        have h := fil_mk (vf_cm (w := w) (N := N) hb3 o3 hk3 (E.drew 1).bel ((E.drew 1).getBox 0 rfl))
        rw [World.size_alloc] at h
        exact h
    · case rel =>
        refine ⟨_, rfl, a3, k3, w3.heap.size + 1, ?_, by omega, ?_, ?_, ?_, ?_⟩
        · have h := vf_cm (w := w) (N := N) (hb3.alloc hb3.size (.cells #[.bool false, .slice a3 s.length k3, .slice (some ⟨w3.heap.size + 1, 0, none⟩) N N] 24)) (o3.below (push (start w3) _)) hk3 (E.drew 1).bel ((E.drew 1).getBox 0 rfl)
          rw [World.size_alloc] at h
          exact h
        · have := (((E.drew 1).step hb3).getBox 0 rfl).lt; exact this
        · simp [go_sem]
        · simp [go_sem]
        · simp [go_sem]
    · case rel =>
        refine ⟨_, rfl, ?_⟩
        have hg := heap_alloc_new (w.alloc (.cells #[.bool false, .slice none 0 0, .slice none 0 0] 24)) (.cells (roomCells N) 3)
        rw [World.size_alloc] at hg
        exact fil_mk (vf_mc (w := w) (N := N) hb3 o3 hk3 hg (by omega) ((E.alloc _).drew 1).bel (((E.alloc _).drew 1).getBox 0 rfl))
    · case rel =>
        refine ⟨_, rfl, ?_⟩
        have hg := heap_alloc_new (w.alloc (.cells #[.bool false, .slice none 0 0, .slice none 0 0] 24)) (.cells (roomCells N) 3)
        rw [World.size_alloc] at hg
        have hg2 := (heap_alloc_old _ (.cells #[.bool false, .slice none 0 0, .slice none 0 0] 24) (lt_heap hg)).trans hg
        exact fil_set (vf_mc (w := w) (N := N) hb3 o3 hk3 hg2 (by omega) (((E.alloc _).alloc _).drew 1).bel ((((E.alloc _).alloc _).drew 1).getBox 0 rfl)) (by omega) (by omega) (fun p e => by have h := own_fresh o3 p e; simp at h; omega) q20 q21 q22
    · case rel =>
        refine ⟨_, rfl, ?_⟩
        exact fil_set (vf_cm (w := w) (N := N) hb3 o3 hk3 ((E.alloc _).drew 1).bel (((E.alloc _).drew 1).getBox 0 rfl)) (by omega) (by omega) (fun p e => by have h := own_fresh o3 p e; simp at h; omega) r10 r11 r12
    · case rel =>
        refine ⟨_, rfl, ?_⟩
        have hg := heap_alloc_new ((w.alloc (.cells #[.bool false, .slice none 0 0, .slice none 0 0] 24)).alloc (.cells #[.bool false, .slice none 0 0, .slice none 0 0] 24)) (.cells (roomCells N) 3)
        rw [World.size_alloc, World.size_alloc] at hg
        exact fil_set (vf_mc (w := w) (N := N) hb3 o3 hk3 hg (by omega) (((E.alloc _).alloc _).drew 1).bel ((((E.alloc _).alloc _).drew 1).getBox 0 rfl)) (by omega) (by omega) (fun p e => by have h := own_fresh o3 p e; simp at h; omega) q10 q11 q12
  case rest =>
    obtain ⟨Bo, rfl, a3, k3, gd, hV, hne, hwB, c0, c1, c2⟩ := hcut
    obtain ⟨v1, v2, v3, v4, v5, v6, v7⟩ := hV
    have hroom := own_room2 v1 (show w.heap.size + 1 ≤ gd by omega) (show N ≤ maxLen by unfold maxLen; omega)
    have lgd := lt_heap v1
    have hRne : w.heap.size ≠ gd := by omega
    have hBne : Bo ≠ gd := Ne.symm hne
    replace v1 := Lib.hid v1
    replace hroom := Lib.hid hroom
    replace hmk := Lib.hid hmk
    clear hS0 E rs
    go_wp2
    go_loopw [20] (fun v wr => ∃ (i : Nat) (l : List Int), i ≤ N ∧ v = .int .i64 i ∧ M.seqE i T = .ok l ∧ Own wr (w.heap.size + 1) (.slice (some ⟨gd, 0, none⟩) N N) (l ++ List.replicate (N - i) 0) ∧ But gd wc wr ∧ Below w.heap.size w wr) (fun v _ => N - (intOf v).toNat)
    case atStart => exact ⟨0, [], Nat.zero_le _, rfl, rfl, by rw [List.nil_append, Nat.sub_zero]; exact hroom.out, But.refl _ _, v7⟩
    case round =>
      obtain ⟨i, l, hi, rfl, hseq, hown, hbut, hbel⟩ := hrel
      have hll := seqE_length hseq
      by_cases hlt : i < N
      · have k2 := (cell_of_eq (hbut Bo (World.block_lt_of_cell? wc _ c2) hBne) 2).trans c2
        have kfr := own_frozen hown i
        have kc := own_cell hown (i := i) (by simp; omega)
        have hstore := fun n v => own_store (w := wr.drewN n) hown (i := i) (by simp; omega) v
        simp only [fill_set' hll hlt] at hstore
        have hRw := v6.same9 (hbut w.heap.size (v6.lt) hRne)
        have hcall := hT.out i hlt wr hbel
        generalize (l ++ List.replicate (N - i) 0).getD i 0 = cx at kc
        replace hll := Lib.hid hll
        replace hown := Lib.hid hown
        replace hcall := Lib.hid hcall
        replace hstore := Lib.hid hstore
        replace hbut := Lib.hid hbut
        clear c0 c1 c2 lgd
        cases hTi : T i with
        | error x =>
          have hr := Lib.hid (fill_error (s := s) hseq hlt hTi)
          replace hTi := Lib.hid hTi
          replace hseq := Lib.hid hseq
          go_wp2_with fail
          refine hcall.out.mono ?_
          rintro e w5 ⟨rfl, n5, rfl⟩
          rw [hTi.out]
          dsimp only [resI]
          have hb5 := below_drewN hbel n5
          have hR5 : BoxF (wr.drewN n5) w.heap.size false none 0 0 none 0 0 := hRw
          obtain ⟨⟨z0, z1, z2⟩, y0, y1, y2⟩ := hR5
          clear kc kfr k2
          generalize wr.drewN n5 = wq at *
          go_wp2
          refine bodyPost_ret (v := .tuple #[arrV false none 0 0 none 0 0, .iface 46 (.int .i64 x)]) (by simp [results, Tryz.results210, go_sem, cell?_set_same, z0, z1, z2]) rfl ?_
          exact .error hr.out rfl (set3 hb5 (Nat.le_refl _) _ _ _)
        | ok x =>
          have hnx := Lib.hid (seqE_next hseq hTi)
          replace hTi := Lib.hid hTi
          replace hseq := Lib.hid hseq
          go_wp2_with fail
          refine hcall.out.mono ?_
          rintro e w5 ⟨rfl, n5, rfl⟩
          rw [hTi.out]
          dsimp only [resI]
          have hs5 := hstore.out n5 x
          have k25 := cell_drewN k2 n5
          have kc5 := cell_drewN kc n5
          have kf5 : (wr.drewN n5).frozen? ⟨gd, i, none⟩ = false := kfr
          have hb5 := below_drewN hbel n5
          have hbu5 : But gd wc (wr.drewN n5) := hbut.out
          replace hs5 := Lib.hid hs5
          replace hbu5 := Lib.hid hbu5
          clear kc kfr k2
          generalize wr.drewN n5 = wq at *
          go_wp2
          go_roundw
          case rel => exact ⟨i + 1, l ++ [x], by omega, by go_num, hnx.out, hs5.out, hbu5.out.set _ _, hb5.setCell (p := ⟨gd, i, none⟩) (by show w.heap.size ≤ gd; omega) _⟩
          case measure => simp [intOf]; omega
      · obtain rfl : i = N := by omega
        have eB := hbut Bo (World.block_lt_of_cell? wc _ c2) hBne
        have k0 := (cell_of_eq eB 0).trans c0
        have k1 := (cell_of_eq eB 1).trans c1
        have k2 := (cell_of_eq eB 2).trans c2
        have hRw := v6.same9 (hbut w.heap.size (v6.lt) hRne)
        rw [Nat.sub_self, List.replicate_zero, List.append_nil] at hown
        have hr := Lib.hid (show M.fillE s i T = .ok ⟨false, s, l⟩ by unfold M.fillE; rw [hseq])
        have ra : Row wr a3 s := by
          intro j hj
          obtain ⟨b, o, rfl, hc⟩ := v2 j hj
          exact ⟨b, o, rfl, (cell_of_eq (hbut b (World.block_lt_of_cell? _ _ hc) (v3 _ rfl).2) (o + j)).trans hc⟩
        have rb := hown.row
        obtain ⟨⟨z0, z1, z2⟩, y0, y1, y2⟩ := hRw
        replace hseq := Lib.hid hseq
        replace hown := Lib.hid hown
        replace hbut := Lib.hid hbut
        replace hll := Lib.hid hll
        clear c0 c1 c2 eB
        go_wp2
        refine bodyPost_ret (v := .tuple #[arrV false a3 s.length k3 (some ⟨gd, 0, none⟩) i i, .nilIface]) (by simp [results, Tryz.results210, go_sem, cell?_set_same, z0, z1, z2]) rfl ?_
        have hk : ∀ (u0 u1 u2 : Value) (b : Nat), b ≠ w.heap.size → (((wr.setCell ⟨w.heap.size, 0, none⟩ u0).setCell ⟨w.heap.size, 1, none⟩ u1).setCell ⟨w.heap.size, 2, none⟩ u2).heap[b]? = wr.heap[b]? := fun u0 u1 u2 b hb => by
          rw [Below.heap_setCell _ _ _ b hb, Below.heap_setCell _ _ _ b hb, Below.heap_setCell _ _ _ b hb]
        refine ArrPostF.ok (x := ⟨false, s, l⟩) hr.out (by rw [hll.out]) ?_ ?_ (fun p e => Nat.le_of_lt (v3 p e).1) (fun p e => by cases e; exact Nat.le_of_lt v5) v4 (set3 hbel (Nat.le_refl _) _ _ _)
        · intro j hj
          obtain ⟨b, o, rfl, hc⟩ := ra j hj
          exact ⟨b, o, rfl, (cell_of_eq (hk _ _ _ b (Nat.ne_of_gt (v3 _ rfl).1)) (o + j)).trans hc⟩
        · intro j hj
          obtain ⟨b, o, e, hc⟩ := rb j hj
          cases e
          exact ⟨gd, 0, rfl, (cell_of_eq (hk _ _ _ gd (Nat.ne_of_gt v5)) (0 + j)).trans hc⟩

set_option maxRecDepth 20000 in
set_option maxHeartbeats 2000000 in
theorem tell1_any (f : Int) (ch : Bool) (a b : Option Addr) (d : List Int) (m c z : Nat) (F A i : Nat) (w : World) (hF : w.cell? ⟨F, 0, none⟩ = some (.int .i64 f)) (hA : w.cell? ⟨A, 2, none⟩ = some (.slice b d.length z)) (hd : Row w b d) (hi : i < d.length) (hl : d.length ≤ maxLen) :
    Calls Tryz.prog 220 #[.int .i64 i, .pointer (some ⟨F, 0, none⟩), .pointer (some ⟨A, 0, none⟩)] w fun e w' => e = .returned (resI (M.one f (d.getD i 0))) ∧ ∃ n, w' = w.drewN n := by
  obtain ⟨g, o, rfl, h⟩ := row_cell_at hd hi
  unfold maxLen at hl
  have q := fun n => cellOne_any f (d.getD i 0) (w.drewN n)
  generalize d.getD i 0 = X at *
  have hil : (i : Int) < ((d.length : Nat) : Int) := by omega
  cases hq : M.one f X with
  | ok v =>
    rw [hq] at q
    dsimp only [resI] at q ⊢
    replace hq := Lib.hid hq
    replace q := Lib.hid q
    go_enter Tryz.func220, Tryz.ntmps220
    go_wp2
    go_quiet ((go_at_call 219; exact Calls.quiet_of_same ((q.out _).mono fun _ _ h => ⟨h.1, h.2.symm⟩)))
    go_wp2
    go_ret2
    exact ⟨rfl, _, rfl⟩
  | error v =>
    rw [hq] at q
    dsimp only [resI] at q ⊢
    replace hq := Lib.hid hq
    replace q := Lib.hid q
    go_enter Tryz.func220, Tryz.ntmps220
    go_wp2
    go_quiet ((go_at_call 219; exact Calls.quiet_of_same ((q.out _).mono fun _ _ h => ⟨h.1, h.2.symm⟩)))
    go_wp2
    go_ret2
    exact ⟨rfl, _, rfl⟩

set_option maxRecDepth 20000 in
set_option maxHeartbeats 8000000 in
theorem each1_any (f : Int) (ch : Bool) (a b : Option Addr) (s d : List Int) (m c n z : Nat) (w : World) (hs : Row w a s) (hd : Row w b d) (ls : s.length ≤ maxLen) (ld : d.length ≤ maxLen) (hd64 : All64 d) (em : m = s.length) (en : n = d.length) :
    Calls Tryz.prog 174 #[.int .i64 f, arrV ch a m c b n z] w fun e w' => ArrPostF (M.each1 f ⟨ch, s, d⟩) w e w' := by
  subst em
  subst en
  have E := (((((Env.start w).addRow hd).addRow hs).alloc (.cells #[.int .i64 f] 72)).box ch a s.length c b d.length z).box false none 0 0 none 0 0
  have cF : ((w.alloc (.cells #[.int .i64 f] 72)).alloc (.cells #[.bool ch, .slice a s.length c, .slice b d.length z] 24) |>.alloc (.cells #[.bool false, .slice none 0 0, .slice none 0 0] 24)).cell? ⟨w.heap.size, 0, none⟩ = some (.int .i64 f) := by simp [go_sem]
  simp only [World.size_alloc] at E
  have k0 := fun W => cellOne_any f 0 W
  have kc := fun w h1 h2 => check_any ch a b s d _ c _ z w h1 h2 ls ld rfl rfl
  replace k0 := Lib.hid k0
  replace kc := Lib.hid kc
  cases hv : M.one f 0 with
  | error x =>
    have hr := Lib.hid (show M.each1 f ⟨ch, s, d⟩ = .error x by unfold M.each1; rw [hv])
    replace hv := Lib.hid hv
    go_enter Tryz.func174, Tryz.ntmps174
    go_wp2_with fail
    refine (k0.out _).mono ?_
    rw [hv.out]
    rintro e w1 ⟨rfl, rfl⟩
    dsimp only [resI]
    obtain ⟨⟨z0, z1, z2⟩, y0, y1, y2⟩ := E.getBox 0 rfl
    have hbel := E.bel
    clear E cF
    go_wp2
    refine bodyPost_ret (v := .tuple #[arrV false none 0 0 none 0 0, .iface 46 (.int .i64 x)]) (by simp [results, Tryz.results174, go_sem, cell?_set_same, z0, z1, z2]) rfl ?_
    exact .error hr.out rfl hbel
  | ok v0 =>
  have hr0 : M.each1 f ⟨ch, s, d⟩ = if M.flaw ch s d ≠ 0 then .error (M.flaw ch s d) else if ch = true then .error 6 else M.fillE s d.length fun i => M.one f (d.getD i 0) := by unfold M.each1; rw [hv]
  replace hv := Lib.hid hv
  go_enter Tryz.func174, Tryz.ntmps174
  go_wp2_with fail
  refine (k0.out _).mono ?_
  rw [hv.out]
  rintro e w1 ⟨rfl, rfl⟩
  dsimp only [resI]
  obtain ⟨⟨u0, u1, u2⟩, -, -, -⟩ := E.getBox 1 rfl
  replace hr0 := Lib.hid hr0
  go_wp2_with fail
  refine (kc.out _ (E.getRow 2 rfl) (E.getRow 3 rfl)).mono ?_
  rintro e w2 ⟨rfl, hb⟩
  replace E := E.step hb
  replace cF := (hb.cell (World.block_lt_of_cell? _ _ cF)).trans cF
  clear hb u0 u1 u2
  by_cases hf : M.flaw ch s d = 0
  case neg =>
    have hr := Lib.hid (hr0.out.trans (if_pos hf))
    rw [errV_ne hf]
    generalize M.flaw ch s d = nn at *
    replace hf := Lib.hid hf
    obtain ⟨⟨z0, z1, z2⟩, y0, y1, y2⟩ := E.getBox 0 rfl
    have hbel := E.bel
    clear E cF
    go_wp2
    refine bodyPost_ret (v := .tuple #[arrV false none 0 0 none 0 0, .iface 46 (.int .i64 nn)]) (by simp [results, Tryz.results174, go_sem, cell?_set_same, z0, z1, z2]) rfl ?_
    exact .error hr.out rfl (set3 hbel (by omega) _ _ _)
  rw [hf, errV_zero]
  have l6 := (flaw_len hf).2
  have l4 := (flaw_len hf).1
  have hr1 := hr0.out.trans (if_neg (fun h => h hf))
  replace hf := Lib.hid hf
  clear hr0
  cases ch with
  | true =>
    have hr := Lib.hid (hr1.trans (if_pos rfl))
    obtain ⟨⟨z0, z1, z2⟩, y0, y1, y2⟩ := E.getBox 0 rfl
    obtain ⟨⟨u0, u1, u2⟩, -, -, -⟩ := E.getBox 1 rfl
    have hbel := E.bel
    clear E cF hr1
    go_wp2
    refine bodyPost_ret (v := .tuple #[arrV false none 0 0 none 0 0, .iface 46 (.int .i64 6)]) (by simp [results, Tryz.results174, go_sem, cell?_set_same, z0, z1, z2]) rfl ?_
    exact .error hr.out rfl (set3 hbel (by omega) _ _ _)
  | false =>
    have hr := Lib.hid (hr1.trans (if_neg (by simp)))
    clear hr1
    have rD := E.getRow 3 rfl
    have cA := (E.getBox 1 rfl).1.2.2
    have hfil := filled1_any (fun i => M.one f (d.getD i 0)) s a c d.length w.heap.size (w.heap.size + 1) w2 (E.getRow 2 rfl) l6 l4 (fun i hi w' hb => tell1_any f false a b d 0 c z _ _ i w' (cell_below9 cF hb) (cell_below9 cA hb) (rD.below hb) hi ld)
    replace hfil := Lib.hid hfil
    have hbel := E.bel
    have eR := E.getBox 0 rfl
    have wR : w.heap.size + 1 + 1 < w2.heap.size := eR.lt
    obtain ⟨⟨u0, u1, u2⟩, -, -, -⟩ := E.getBox 1 rfl
    clear cA rD
    go_wp2_with fail
    refine hfil.out.mono ?_
    intro e w8 hp
    replace eR := eR.below hp.2.2
    have hb8 := below_trans hbel hp.2.2
    have hsz := hbel.size
    obtain ⟨⟨z0, z1, z2⟩, y0, y1, y2⟩ := eR
    clear u0 u1 u2
    cases hse : M.fillE s d.length (fun i => M.one f (d.getD i 0)) with
    | error x =>
      obtain ⟨rfl, hb⟩ := hp.is_error hse
      have hr2 := Lib.hid (hr.out.trans hse)
      clear hp
      replace hse := Lib.hid hse
      go_wp2
      refine bodyPost_ret (v := .tuple #[arrV false none 0 0 none 0 0, .iface 46 (.int .i64 x)]) (by simp [results, Tryz.results174, go_sem, cell?_set_same, z0, z1, z2]) rfl ?_
      exact .error hr2.out rfl (set3 hb8 (by omega) _ _ _)
    | ok x =>
      obtain ⟨a9, c9, b9, k9, rfl, ra, rb, fa, fb, hcap, hb⟩ := hp.is_ok hse
      have hr2 := Lib.hid (hr.out.trans hse)
      clear hp
      replace hse := Lib.hid hse
      go_wp2
      refine bodyPost_ret (v := .tuple #[arrV x.ch a9 x.s.length c9 b9 x.d.length k9, .nilIface]) (by simp [results, Tryz.results174, go_sem, cell?_set_same, z0, z1, z2]) rfl ?_
      have hfa : ∀ p, a9 = some p → p.block ≠ w.heap.size + 1 + 1 := fun p e => by have := fa p e; omega
      have hfb : ∀ p, b9 = some p → p.block ≠ w.heap.size + 1 + 1 := fun p e => by have := fb p e; omega
      have hk : ∀ (u0 u1 u2 : Value) (b : Nat), b ≠ w.heap.size + 1 + 1 → (((w8.setCell ⟨w.heap.size + 1 + 1, 0, none⟩ u0).setCell ⟨w.heap.size + 1 + 1, 1, none⟩ u1).setCell ⟨w.heap.size + 1 + 1, 2, none⟩ u2).heap[b]? = w8.heap[b]? := fun u0 u1 u2 b hb => by
        rw [Below.heap_setCell _ _ _ b hb, Below.heap_setCell _ _ _ b hb, Below.heap_setCell _ _ _ b hb]
      refine ArrPostF.ok (x := x) hr2.out rfl ?_ ?_ (fun p e => Nat.le_trans hsz (fa p e)) (fun p e => Nat.le_trans hsz (fb p e)) hcap (set3 hb8 (by omega) _ _ _)
      · intro j hj
        obtain ⟨bb, o, rfl, hc⟩ := ra j hj
        exact ⟨bb, o, rfl, (cell_of_eq (hk _ _ _ bb (hfa _ rfl)) (o + j)).trans hc⟩
      · intro j hj
        obtain ⟨bb, o, rfl, hc⟩ := rb j hj
        exact ⟨bb, o, rfl, (cell_of_eq (hk _ _ _ bb (hfb _ rfl)) (o + j)).trans hc⟩

end Go.Proofs.YtaplaoelamnoiaaGreatDoor
