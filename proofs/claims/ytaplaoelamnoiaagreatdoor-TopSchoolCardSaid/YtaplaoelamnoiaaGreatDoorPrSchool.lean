/- The calls prim.Two of the shaping, the encoding and the decoding function, by prim.byList. Condition: sound arrays. -/
import Derived.Test.YtaplaoelamnoiaaGreatDoorBd19
import Derived.Test.YtaplaoelamnoiaaGreatDoorPrResh
import Derived.Test.YtaplaoelamnoiaaGreatDoorBdS2
namespace Go.Proofs.YtaplaoelamnoiaaGreatDoor
open Go.RowKit

set_option maxRecDepth 20000 in
set_option maxHeartbeats 8000000 in
theorem two_resh (x y z : Arr) (hx : M.flaw x.ch x.s x.d = 0) (hy : M.flaw y.ch y.s y.d = 0) 
    (kn : ∀ W, Calls Tryz.prog 106 #[.agg #[.int .i64 0, .int .i64 18, .int .i64 0]] W fun en w' => en = .returned (.bool true) ∧ Below W.heap.size W w')
    (kb : ∀ (W : World) (a : Option Addr) (c : Nat) (b : Option Addr) (k : Nat) (a' : Option Addr) (c' : Nat) (b' : Option Addr) (k' : Nat), Row W a x.s → Row W b x.d → Row W a' y.s → Row W b' y.d →
      Calls Tryz.prog 113 #[.int .i64 18, arrV x.ch a x.s.length c b x.d.length k, arrV y.ch a' y.s.length c' b' y.d.length k'] W fun e w' => ArrPostF (.ok z) W e w') : Two1 0 18 0 x y z := by
  intro w a c b k a' c' b' k' hs hd hs' hd'
  obtain ⟨ch, s, d⟩ := x
  obtain ⟨ch', s', d'⟩ := y
  dsimp only at hx hy kb hs hd hs' hd' ⊢
  have l1 := (flaw_len hx).2
  have l2 := (flaw_len hx).1
  have l3 := (flaw_len hy).2
  have l4 := (flaw_len hy).1
  have kc1 := fun W h1 h2 => check_any ch a b s d s.length c d.length k W h1 h2 (by simp only [maxLen]; omega) (by simp only [maxLen]; omega) rfl rfl
  have kc2 := fun W h1 h2 => check_any ch' a' b' s' d' s'.length c' d'.length k' W h1 h2 (by simp only [maxLen]; omega) (by simp only [maxLen]; omega) rfl rfl
  rw [hx, errV_zero] at kc1
  rw [hy, errV_zero] at kc2
  replace kb := fun W => kb W a c b k a' c' b' k'
  obtain ⟨n1, hn1⟩ : ∃ n, n = s.length := ⟨_, rfl⟩
  obtain ⟨n2, hn2⟩ : ∃ n, n = d.length := ⟨_, rfl⟩
  obtain ⟨n3, hn3⟩ : ∃ n, n = s'.length := ⟨_, rfl⟩
  obtain ⟨n4, hn4⟩ : ∃ n, n = d'.length := ⟨_, rfl⟩
  rw [← hn1, ← hn2] at kc1 kb
  rw [← hn3, ← hn4] at kc2 kb
  rw [← hn1, ← hn2, ← hn3, ← hn4]
  obtain ⟨W, hWe⟩ : ∃ W : World, W = (((w.alloc (.cells #[.int .i64 0, .int .i64 18, .int .i64 0] 74)).alloc (.cells #[.bool ch, .slice a n1 c, .slice b n2 k] 24)).alloc (.cells #[.bool ch', .slice a' n3 c', .slice b' n4 k'] 24)).alloc (.cells #[.bool false, .slice none 0 0, .slice none 0 0] 24) := ⟨_, rfl⟩
  obtain ⟨bA, bX, bY, bR, sW⟩ := four_boxes _ _ _ _ _ _ _ _ _ W hWe
  have hb0 : Below w.heap.size w W := by rw [hWe]; exact push (push (push (push (start w) _) _) _) _
  have hWe' := Lib.hid hWe.symm
  replace hWe := Lib.hid hWe
  replace hn1 := Lib.hid hn1
  replace hn2 := Lib.hid hn2
  replace hn3 := Lib.hid hn3
  replace hn4 := Lib.hid hn4
  replace kc1 := Lib.hid kc1
  replace kc2 := Lib.hid kc2
  replace kb := Lib.hid kb
  replace kn := Lib.hid kn
  replace hs := Lib.hid hs
  replace hd := Lib.hid hd
  replace hs' := Lib.hid hs'
  replace hd' := Lib.hid hd'
  replace bA := Lib.hid bA
  replace bX := Lib.hid bX
  replace bY := Lib.hid bY
  replace bR := Lib.hid bR
  replace hb0 := Lib.hid hb0
  replace sW := Lib.hid sW
  clear hx hy l1 l2 l3 l4
  have ix0 := idx_two0 (.bool ch) (.slice a n1 c) (.slice b n2 k) (.bool ch') (.slice a' n3 c') (.slice b' n4 k')
  have ix1 := idx_two1 (.bool ch) (.slice a n1 c) (.slice b n2 k) (.bool ch') (.slice a' n3 c') (.slice b' n4 k')
  go_enter Tryz.func91, Tryz.ntmps91
  go_wp2_with fail
  rw [hWe'.out]
  refine (kn.out _).mono ?_
  rintro en w1 ⟨rfl, hb1⟩
  have A1 := Lib.hid (bA.out.same (hb1.block _ (by have := sW.out; omega)))
  have X1 := Lib.hid (bX.out.same (hb1.block _ (by have := sW.out; omega)))
  have Y1 := Lib.hid (bY.out.same (hb1.block _ (by have := sW.out; omega)))
  have R1 := Lib.hid (bR.out.same (hb1.block _ (by have := sW.out; omega)))
  have hb01 := Lib.hid (hb0.out.trans (hb1.mono (by have := sW.out; omega)))
  have sw1 : Hid (w.heap.size + 1 + 1 + 1 < w1.heap.size) := Lib.hid (by have := sW.out; have := hb1.size; omega)
  obtain ⟨y0, -⟩ := A1.out 0 _ rfl
  obtain ⟨y1, -⟩ := X1.out 0 _ rfl
  obtain ⟨y2, -⟩ := X1.out 1 _ rfl
  obtain ⟨y3, -⟩ := X1.out 2 _ rfl
  obtain ⟨y4, -⟩ := Y1.out 0 _ rfl
  obtain ⟨y5, -⟩ := Y1.out 1 _ rfl
  obtain ⟨y6, -⟩ := Y1.out 2 _ rfl
  clear hb1 hb0 bA bX bY bR kn
  go_wp2
  go_loopw [38] (fun v wr => (v = .int .i64 0 ∨ v = .int .i64 1 ∨ v = .int .i64 2) ∧ Below w1.heap.size w1 wr) (fun v _ => 2 - (intOf v).toNat)
  case atStart => exact ⟨.inl rfl, Below.refl _ _⟩
  case round =>
    clear y0 y1 y2 y3 y4 y5 y6
    obtain ⟨hcase, hbw⟩ := hrel
    rcases hcase with rfl | rfl | rfl
    · have hba := push (start wr) (.cells #[.bool ch, .slice a n1 c, .slice b n2 k] 24)
      have q1 := hs.out.below ((hb01.out.trans (hbw.mono (by have := sw1.out; omega))).trans (hba.mono (by have := sw1.out; have := hbw.size; omega)))
      have q2 := hd.out.below ((hb01.out.trans (hbw.mono (by have := sw1.out; omega))).trans (hba.mono (by have := sw1.out; have := hbw.size; omega)))
      have kk := Lib.hid (kc1.out _ q1 q2)
      clear q1 q2
      replace hbw := Lib.hid hbw
      replace hba := Lib.hid hba
      go_wp2_with fail
      refine kk.out.mono ?_
      rintro en w5 ⟨rfl, hb5⟩
      have hbn := Lib.hid ((hbw.out.trans (hba.out.mono hbw.out.size)).trans (hb5.mono (by have := hbw.out.size; have := hba.out.size; omega)))
      clear hb5
      go_wp2
      go_roundw
      case rel => exact ⟨.inr (.inl (by go_num)), hbn.out⟩
      case measure => simp [intOf]
    · have hba := push (start wr) (.cells #[.bool ch', .slice a' n3 c', .slice b' n4 k'] 24)
      have q1 := hs'.out.below ((hb01.out.trans (hbw.mono (by have := sw1.out; omega))).trans (hba.mono (by have := sw1.out; have := hbw.size; omega)))
      have q2 := hd'.out.below ((hb01.out.trans (hbw.mono (by have := sw1.out; omega))).trans (hba.mono (by have := sw1.out; have := hbw.size; omega)))
      have kk := Lib.hid (kc2.out _ q1 q2)
      clear q1 q2
      replace hbw := Lib.hid hbw
      replace hba := Lib.hid hba
      go_wp2_with fail
      refine kk.out.mono ?_
      rintro en w5 ⟨rfl, hb5⟩
      have hbn := Lib.hid ((hbw.out.trans (hba.out.mono hbw.out.size)).trans (hb5.mono (by have := hbw.out.size; have := hba.out.size; omega)))
      clear hb5
      go_wp2
      go_roundw
      case rel => exact ⟨.inr (.inr (by go_num)), hbn.out⟩
      case measure => simp [intOf]
    · have A2 := A1.out.same (hbw.block _ (by have := sw1.out; omega))
      have X2 := X1.out.same (hbw.block _ (by have := sw1.out; omega))
      have Y2 := Y1.out.same (hbw.block _ (by have := sw1.out; omega))
      have R2 := Lib.hid (R1.out.same (hbw.block _ (by have := sw1.out; omega)))
      have hb2 := Lib.hid (hb01.out.trans (hbw.mono (by have := sw1.out; omega)))
      have s2 : Hid (w.heap.size + 1 + 1 + 1 < wr.heap.size) := Lib.hid (by have := sw1.out; have := hbw.size; omega)
      obtain ⟨y0, -⟩ := A2 0 _ rfl
      obtain ⟨y7, -⟩ := A2 1 _ rfl
      obtain ⟨y1, -⟩ := X2 0 _ rfl
      obtain ⟨y2, -⟩ := X2 1 _ rfl
      obtain ⟨y3, -⟩ := X2 2 _ rfl
      obtain ⟨y4, -⟩ := Y2 0 _ rfl
      obtain ⟨y5, -⟩ := Y2 1 _ rfl
      obtain ⟨y6, -⟩ := Y2 2 _ rfl
      clear A2 X2 Y2 hbw
      go_wp2_with fail
      refine (kb.out _ (hs.out.below hb2.out) (hd.out.below hb2.out) (hs'.out.below hb2.out) (hd'.out.below hb2.out)).mono ?_
      intro en w6 hp
      obtain ⟨a5, c5, b5, k5, rfl, r1, r2, f1, f2, hc, hb6⟩ := hp.is_ok rfl
      clear hp y0 y1 y2 y3 y4 y5 y6 y7
      have R6 := R2.out.same (hb6.block _ (by have := s2.out; omega))
      have hb06 := Lib.hid (hb2.out.trans (hb6.mono (by have := s2.out; omega)))
      have g1 : ∀ p, a5 = some p → w.heap.size + 1 + 1 + 1 < p.block := fun p e => by have := f1 p e; have := s2.out; omega
      have g2 : ∀ p, b5 = some p → w.heap.size + 1 + 1 + 1 < p.block := fun p e => by have := f2 p e; have := s2.out; omega
      replace r1 := Lib.hid r1
      replace r2 := Lib.hid r2
      replace g1 := Lib.hid g1
      replace g2 := Lib.hid g2
      replace hc := Lib.hid hc
      obtain ⟨t0, u0⟩ := R6 0 _ rfl
      obtain ⟨t1, u1⟩ := R6 1 _ rfl
      obtain ⟨t2, u2⟩ := R6 2 _ rfl
      clear R6 hb6 f1 f2
      go_wp2
      refine bodyPost_ret (v := .tuple #[arrV z.ch a5 z.s.length c5 b5 z.d.length k5, .nilIface]) (by simp [results, Tryz.results91, go_sem, cell?_set_same, arrV, t0, t1, t2]) rfl ?_
      refine ArrPostF.ok rfl rfl (r1.out.but (But.set3 _ _ _ _ _ _) (fun _ p e => ?_)) (r2.out.but (But.set3 _ _ _ _ _ _) (fun _ p e => ?_)) (fun p e => ?_) (fun p e => ?_) hc.out (set3 hb06.out (by omega) _ _ _)
      · have := g1.out p e; omega
      · have := g2.out p e; omega
      · have := g1.out p e; omega
      · have := g2.out p e; omega
set_option maxRecDepth 20000 in
set_option maxHeartbeats 8000000 in
theorem two_dec (x y z : Arr) (hx : M.flaw x.ch x.s x.d = 0) (hy : M.flaw y.ch y.s y.d = 0) 
    (kn : ∀ W, Calls Tryz.prog 106 #[.agg #[.int .i64 0, .int .i64 30, .int .i64 0]] W fun en w' => en = .returned (.bool true) ∧ Below W.heap.size W w')
    (kb : ∀ (W : World) (a : Option Addr) (c : Nat) (b : Option Addr) (k : Nat) (a' : Option Addr) (c' : Nat) (b' : Option Addr) (k' : Nat), Row W a x.s → Row W b x.d → Row W a' y.s → Row W b' y.d →
      Calls Tryz.prog 113 #[.int .i64 30, arrV x.ch a x.s.length c b x.d.length k, arrV y.ch a' y.s.length c' b' y.d.length k'] W fun e w' => ArrPostF (.ok z) W e w') : Two1 0 30 0 x y z := by
  intro w a c b k a' c' b' k' hs hd hs' hd'
  obtain ⟨ch, s, d⟩ := x
  obtain ⟨ch', s', d'⟩ := y
  dsimp only at hx hy kb hs hd hs' hd' ⊢
  have l1 := (flaw_len hx).2
  have l2 := (flaw_len hx).1
  have l3 := (flaw_len hy).2
  have l4 := (flaw_len hy).1
  have kc1 := fun W h1 h2 => check_any ch a b s d s.length c d.length k W h1 h2 (by simp only [maxLen]; omega) (by simp only [maxLen]; omega) rfl rfl
  have kc2 := fun W h1 h2 => check_any ch' a' b' s' d' s'.length c' d'.length k' W h1 h2 (by simp only [maxLen]; omega) (by simp only [maxLen]; omega) rfl rfl
  rw [hx, errV_zero] at kc1
  rw [hy, errV_zero] at kc2
  replace kb := fun W => kb W a c b k a' c' b' k'
  obtain ⟨n1, hn1⟩ : ∃ n, n = s.length := ⟨_, rfl⟩
  obtain ⟨n2, hn2⟩ : ∃ n, n = d.length := ⟨_, rfl⟩
  obtain ⟨n3, hn3⟩ : ∃ n, n = s'.length := ⟨_, rfl⟩
  obtain ⟨n4, hn4⟩ : ∃ n, n = d'.length := ⟨_, rfl⟩
  rw [← hn1, ← hn2] at kc1 kb
  rw [← hn3, ← hn4] at kc2 kb
  rw [← hn1, ← hn2, ← hn3, ← hn4]
  obtain ⟨W, hWe⟩ : ∃ W : World, W = (((w.alloc (.cells #[.int .i64 0, .int .i64 30, .int .i64 0] 74)).alloc (.cells #[.bool ch, .slice a n1 c, .slice b n2 k] 24)).alloc (.cells #[.bool ch', .slice a' n3 c', .slice b' n4 k'] 24)).alloc (.cells #[.bool false, .slice none 0 0, .slice none 0 0] 24) := ⟨_, rfl⟩
  obtain ⟨bA, bX, bY, bR, sW⟩ := four_boxes _ _ _ _ _ _ _ _ _ W hWe
  have hb0 : Below w.heap.size w W := by rw [hWe]; exact push (push (push (push (start w) _) _) _) _
  have hWe' := Lib.hid hWe.symm
  replace hWe := Lib.hid hWe
  replace hn1 := Lib.hid hn1
  replace hn2 := Lib.hid hn2
  replace hn3 := Lib.hid hn3
  replace hn4 := Lib.hid hn4
  replace kc1 := Lib.hid kc1
  replace kc2 := Lib.hid kc2
  replace kb := Lib.hid kb
  replace kn := Lib.hid kn
  replace hs := Lib.hid hs
  replace hd := Lib.hid hd
  replace hs' := Lib.hid hs'
  replace hd' := Lib.hid hd'
  replace bA := Lib.hid bA
  replace bX := Lib.hid bX
  replace bY := Lib.hid bY
  replace bR := Lib.hid bR
  replace hb0 := Lib.hid hb0
  replace sW := Lib.hid sW
  clear hx hy l1 l2 l3 l4
  have ix0 := idx_two0 (.bool ch) (.slice a n1 c) (.slice b n2 k) (.bool ch') (.slice a' n3 c') (.slice b' n4 k')
  have ix1 := idx_two1 (.bool ch) (.slice a n1 c) (.slice b n2 k) (.bool ch') (.slice a' n3 c') (.slice b' n4 k')
  go_enter Tryz.func91, Tryz.ntmps91
  go_wp2_with fail
  rw [hWe'.out]
  refine (kn.out _).mono ?_
  rintro en w1 ⟨rfl, hb1⟩
  have A1 := Lib.hid (bA.out.same (hb1.block _ (by have := sW.out; omega)))
  have X1 := Lib.hid (bX.out.same (hb1.block _ (by have := sW.out; omega)))
  have Y1 := Lib.hid (bY.out.same (hb1.block _ (by have := sW.out; omega)))
  have R1 := Lib.hid (bR.out.same (hb1.block _ (by have := sW.out; omega)))
  have hb01 := Lib.hid (hb0.out.trans (hb1.mono (by have := sW.out; omega)))
  have sw1 : Hid (w.heap.size + 1 + 1 + 1 < w1.heap.size) := Lib.hid (by have := sW.out; have := hb1.size; omega)
  obtain ⟨y0, -⟩ := A1.out 0 _ rfl
  obtain ⟨y1, -⟩ := X1.out 0 _ rfl
  obtain ⟨y2, -⟩ := X1.out 1 _ rfl
  obtain ⟨y3, -⟩ := X1.out 2 _ rfl
  obtain ⟨y4, -⟩ := Y1.out 0 _ rfl
  obtain ⟨y5, -⟩ := Y1.out 1 _ rfl
  obtain ⟨y6, -⟩ := Y1.out 2 _ rfl
  clear hb1 hb0 bA bX bY bR kn
  go_wp2
  go_loopw [38] (fun v wr => (v = .int .i64 0 ∨ v = .int .i64 1 ∨ v = .int .i64 2) ∧ Below w1.heap.size w1 wr) (fun v _ => 2 - (intOf v).toNat)
  case atStart => exact ⟨.inl rfl, Below.refl _ _⟩
  case round =>
    clear y0 y1 y2 y3 y4 y5 y6
    obtain ⟨hcase, hbw⟩ := hrel
    rcases hcase with rfl | rfl | rfl
    · have hba := push (start wr) (.cells #[.bool ch, .slice a n1 c, .slice b n2 k] 24)
      have q1 := hs.out.below ((hb01.out.trans (hbw.mono (by have := sw1.out; omega))).trans (hba.mono (by have := sw1.out; have := hbw.size; omega)))
      have q2 := hd.out.below ((hb01.out.trans (hbw.mono (by have := sw1.out; omega))).trans (hba.mono (by have := sw1.out; have := hbw.size; omega)))
      have kk := Lib.hid (kc1.out _ q1 q2)
      clear q1 q2
      replace hbw := Lib.hid hbw
      replace hba := Lib.hid hba
      go_wp2_with fail
      refine kk.out.mono ?_
      rintro en w5 ⟨rfl, hb5⟩
      have hbn := Lib.hid ((hbw.out.trans (hba.out.mono hbw.out.size)).trans (hb5.mono (by have := hbw.out.size; have := hba.out.size; omega)))
      clear hb5
      go_wp2
      go_roundw
      case rel => exact ⟨.inr (.inl (by go_num)), hbn.out⟩
      case measure => simp [intOf]
    · have hba := push (start wr) (.cells #[.bool ch', .slice a' n3 c', .slice b' n4 k'] 24)
      have q1 := hs'.out.below ((hb01.out.trans (hbw.mono (by have := sw1.out; omega))).trans (hba.mono (by have := sw1.out; have := hbw.size; omega)))
      have q2 := hd'.out.below ((hb01.out.trans (hbw.mono (by have := sw1.out; omega))).trans (hba.mono (by have := sw1.out; have := hbw.size; omega)))
      have kk := Lib.hid (kc2.out _ q1 q2)
      clear q1 q2
      replace hbw := Lib.hid hbw
      replace hba := Lib.hid hba
      go_wp2_with fail
      refine kk.out.mono ?_
      rintro en w5 ⟨rfl, hb5⟩
      have hbn := Lib.hid ((hbw.out.trans (hba.out.mono hbw.out.size)).trans (hb5.mono (by have := hbw.out.size; have := hba.out.size; omega)))
      clear hb5
      go_wp2
      go_roundw
      case rel => exact ⟨.inr (.inr (by go_num)), hbn.out⟩
      case measure => simp [intOf]
    · have A2 := A1.out.same (hbw.block _ (by have := sw1.out; omega))
      have X2 := X1.out.same (hbw.block _ (by have := sw1.out; omega))
      have Y2 := Y1.out.same (hbw.block _ (by have := sw1.out; omega))
      have R2 := Lib.hid (R1.out.same (hbw.block _ (by have := sw1.out; omega)))
      have hb2 := Lib.hid (hb01.out.trans (hbw.mono (by have := sw1.out; omega)))
      have s2 : Hid (w.heap.size + 1 + 1 + 1 < wr.heap.size) := Lib.hid (by have := sw1.out; have := hbw.size; omega)
      obtain ⟨y0, -⟩ := A2 0 _ rfl
      obtain ⟨y7, -⟩ := A2 1 _ rfl
      obtain ⟨y1, -⟩ := X2 0 _ rfl
      obtain ⟨y2, -⟩ := X2 1 _ rfl
      obtain ⟨y3, -⟩ := X2 2 _ rfl
      obtain ⟨y4, -⟩ := Y2 0 _ rfl
      obtain ⟨y5, -⟩ := Y2 1 _ rfl
      obtain ⟨y6, -⟩ := Y2 2 _ rfl
      clear A2 X2 Y2 hbw
      go_wp2_with fail
      refine (kb.out _ (hs.out.below hb2.out) (hd.out.below hb2.out) (hs'.out.below hb2.out) (hd'.out.below hb2.out)).mono ?_
      intro en w6 hp
      obtain ⟨a5, c5, b5, k5, rfl, r1, r2, f1, f2, hc, hb6⟩ := hp.is_ok rfl
      clear hp y0 y1 y2 y3 y4 y5 y6 y7
      have R6 := R2.out.same (hb6.block _ (by have := s2.out; omega))
      have hb06 := Lib.hid (hb2.out.trans (hb6.mono (by have := s2.out; omega)))
      have g1 : ∀ p, a5 = some p → w.heap.size + 1 + 1 + 1 < p.block := fun p e => by have := f1 p e; have := s2.out; omega
      have g2 : ∀ p, b5 = some p → w.heap.size + 1 + 1 + 1 < p.block := fun p e => by have := f2 p e; have := s2.out; omega
      replace r1 := Lib.hid r1
      replace r2 := Lib.hid r2
      replace g1 := Lib.hid g1
      replace g2 := Lib.hid g2
      replace hc := Lib.hid hc
      obtain ⟨t0, u0⟩ := R6 0 _ rfl
      obtain ⟨t1, u1⟩ := R6 1 _ rfl
      obtain ⟨t2, u2⟩ := R6 2 _ rfl
      clear R6 hb6 f1 f2
      go_wp2
      refine bodyPost_ret (v := .tuple #[arrV z.ch a5 z.s.length c5 b5 z.d.length k5, .nilIface]) (by simp [results, Tryz.results91, go_sem, cell?_set_same, arrV, t0, t1, t2]) rfl ?_
      refine ArrPostF.ok rfl rfl (r1.out.but (But.set3 _ _ _ _ _ _) (fun _ p e => ?_)) (r2.out.but (But.set3 _ _ _ _ _ _) (fun _ p e => ?_)) (fun p e => ?_) (fun p e => ?_) hc.out (set3 hb06.out (by omega) _ _ _)
      · have := g1.out p e; omega
      · have := g2.out p e; omega
      · have := g1.out p e; omega
      · have := g2.out p e; omega
set_option maxRecDepth 20000 in
set_option maxHeartbeats 8000000 in
theorem two_enc (x y z : Arr) (hx : M.flaw x.ch x.s x.d = 0) (hy : M.flaw y.ch y.s y.d = 0) 
    (kn : ∀ W, Calls Tryz.prog 106 #[.agg #[.int .i64 0, .int .i64 31, .int .i64 0]] W fun en w' => en = .returned (.bool true) ∧ Below W.heap.size W w')
    (kb : ∀ (W : World) (a : Option Addr) (c : Nat) (b : Option Addr) (k : Nat) (a' : Option Addr) (c' : Nat) (b' : Option Addr) (k' : Nat), Row W a x.s → Row W b x.d → Row W a' y.s → Row W b' y.d →
      Calls Tryz.prog 113 #[.int .i64 31, arrV x.ch a x.s.length c b x.d.length k, arrV y.ch a' y.s.length c' b' y.d.length k'] W fun e w' => ArrPostF (.ok z) W e w') : Two1 0 31 0 x y z := by
  intro w a c b k a' c' b' k' hs hd hs' hd'
  obtain ⟨ch, s, d⟩ := x
  obtain ⟨ch', s', d'⟩ := y
  dsimp only at hx hy kb hs hd hs' hd' ⊢
  have l1 := (flaw_len hx).2
  have l2 := (flaw_len hx).1
  have l3 := (flaw_len hy).2
  have l4 := (flaw_len hy).1
  have kc1 := fun W h1 h2 => check_any ch a b s d s.length c d.length k W h1 h2 (by simp only [maxLen]; omega) (by simp only [maxLen]; omega) rfl rfl
  have kc2 := fun W h1 h2 => check_any ch' a' b' s' d' s'.length c' d'.length k' W h1 h2 (by simp only [maxLen]; omega) (by simp only [maxLen]; omega) rfl rfl
  rw [hx, errV_zero] at kc1
  rw [hy, errV_zero] at kc2
  replace kb := fun W => kb W a c b k a' c' b' k'
  obtain ⟨n1, hn1⟩ : ∃ n, n = s.length := ⟨_, rfl⟩
  obtain ⟨n2, hn2⟩ : ∃ n, n = d.length := ⟨_, rfl⟩
  obtain ⟨n3, hn3⟩ : ∃ n, n = s'.length := ⟨_, rfl⟩
  obtain ⟨n4, hn4⟩ : ∃ n, n = d'.length := ⟨_, rfl⟩
  rw [← hn1, ← hn2] at kc1 kb
  rw [← hn3, ← hn4] at kc2 kb
  rw [← hn1, ← hn2, ← hn3, ← hn4]
  obtain ⟨W, hWe⟩ : ∃ W : World, W = (((w.alloc (.cells #[.int .i64 0, .int .i64 31, .int .i64 0] 74)).alloc (.cells #[.bool ch, .slice a n1 c, .slice b n2 k] 24)).alloc (.cells #[.bool ch', .slice a' n3 c', .slice b' n4 k'] 24)).alloc (.cells #[.bool false, .slice none 0 0, .slice none 0 0] 24) := ⟨_, rfl⟩
  obtain ⟨bA, bX, bY, bR, sW⟩ := four_boxes _ _ _ _ _ _ _ _ _ W hWe
  have hb0 : Below w.heap.size w W := by rw [hWe]; exact push (push (push (push (start w) _) _) _) _
  have hWe' := Lib.hid hWe.symm
  replace hWe := Lib.hid hWe
  replace hn1 := Lib.hid hn1
  replace hn2 := Lib.hid hn2
  replace hn3 := Lib.hid hn3
  replace hn4 := Lib.hid hn4
  replace kc1 := Lib.hid kc1
  replace kc2 := Lib.hid kc2
  replace kb := Lib.hid kb
  replace kn := Lib.hid kn
  replace hs := Lib.hid hs
  replace hd := Lib.hid hd
  replace hs' := Lib.hid hs'
  replace hd' := Lib.hid hd'
  replace bA := Lib.hid bA
  replace bX := Lib.hid bX
  replace bY := Lib.hid bY
  replace bR := Lib.hid bR
  replace hb0 := Lib.hid hb0
  replace sW := Lib.hid sW
  clear hx hy l1 l2 l3 l4
  have ix0 := idx_two0 (.bool ch) (.slice a n1 c) (.slice b n2 k) (.bool ch') (.slice a' n3 c') (.slice b' n4 k')
  have ix1 := idx_two1 (.bool ch) (.slice a n1 c) (.slice b n2 k) (.bool ch') (.slice a' n3 c') (.slice b' n4 k')
  go_enter Tryz.func91, Tryz.ntmps91
  go_wp2_with fail
  rw [hWe'.out]
  refine (kn.out _).mono ?_
  rintro en w1 ⟨rfl, hb1⟩
  have A1 := Lib.hid (bA.out.same (hb1.block _ (by have := sW.out; omega)))
  have X1 := Lib.hid (bX.out.same (hb1.block _ (by have := sW.out; omega)))
  have Y1 := Lib.hid (bY.out.same (hb1.block _ (by have := sW.out; omega)))
  have R1 := Lib.hid (bR.out.same (hb1.block _ (by have := sW.out; omega)))
  have hb01 := Lib.hid (hb0.out.trans (hb1.mono (by have := sW.out; omega)))
  have sw1 : Hid (w.heap.size + 1 + 1 + 1 < w1.heap.size) := Lib.hid (by have := sW.out; have := hb1.size; omega)
  obtain ⟨y0, -⟩ := A1.out 0 _ rfl
  obtain ⟨y1, -⟩ := X1.out 0 _ rfl
  obtain ⟨y2, -⟩ := X1.out 1 _ rfl
  obtain ⟨y3, -⟩ := X1.out 2 _ rfl
  obtain ⟨y4, -⟩ := Y1.out 0 _ rfl
  obtain ⟨y5, -⟩ := Y1.out 1 _ rfl
  obtain ⟨y6, -⟩ := Y1.out 2 _ rfl
  clear hb1 hb0 bA bX bY bR kn
  go_wp2
  go_loopw [38] (fun v wr => (v = .int .i64 0 ∨ v = .int .i64 1 ∨ v = .int .i64 2) ∧ Below w1.heap.size w1 wr) (fun v _ => 2 - (intOf v).toNat)
  case atStart => exact ⟨.inl rfl, Below.refl _ _⟩
  case round =>
    clear y0 y1 y2 y3 y4 y5 y6
    obtain ⟨hcase, hbw⟩ := hrel
    rcases hcase with rfl | rfl | rfl
    · have hba := push (start wr) (.cells #[.bool ch, .slice a n1 c, .slice b n2 k] 24)
      have q1 := hs.out.below ((hb01.out.trans (hbw.mono (by have := sw1.out; omega))).trans (hba.mono (by have := sw1.out; have := hbw.size; omega)))
      have q2 := hd.out.below ((hb01.out.trans (hbw.mono (by have := sw1.out; omega))).trans (hba.mono (by have := sw1.out; have := hbw.size; omega)))
      have kk := Lib.hid (kc1.out _ q1 q2)
      clear q1 q2
      replace hbw := Lib.hid hbw
      replace hba := Lib.hid hba
      go_wp2_with fail
      refine kk.out.mono ?_
      rintro en w5 ⟨rfl, hb5⟩
      have hbn := Lib.hid ((hbw.out.trans (hba.out.mono hbw.out.size)).trans (hb5.mono (by have := hbw.out.size; have := hba.out.size; omega)))
      clear hb5
      go_wp2
      go_roundw
      case rel => exact ⟨.inr (.inl (by go_num)), hbn.out⟩
      case measure => simp [intOf]
    · have hba := push (start wr) (.cells #[.bool ch', .slice a' n3 c', .slice b' n4 k'] 24)
      have q1 := hs'.out.below ((hb01.out.trans (hbw.mono (by have := sw1.out; omega))).trans (hba.mono (by have := sw1.out; have := hbw.size; omega)))
      have q2 := hd'.out.below ((hb01.out.trans (hbw.mono (by have := sw1.out; omega))).trans (hba.mono (by have := sw1.out; have := hbw.size; omega)))
      have kk := Lib.hid (kc2.out _ q1 q2)
      clear q1 q2
      replace hbw := Lib.hid hbw
      replace hba := Lib.hid hba
      go_wp2_with fail
      refine kk.out.mono ?_
      rintro en w5 ⟨rfl, hb5⟩
      have hbn := Lib.hid ((hbw.out.trans (hba.out.mono hbw.out.size)).trans (hb5.mono (by have := hbw.out.size; have := hba.out.size; omega)))
      clear hb5
      go_wp2
      go_roundw
      case rel => exact ⟨.inr (.inr (by go_num)), hbn.out⟩
      case measure => simp [intOf]
    · have A2 := A1.out.same (hbw.block _ (by have := sw1.out; omega))
      have X2 := X1.out.same (hbw.block _ (by have := sw1.out; omega))
      have Y2 := Y1.out.same (hbw.block _ (by have := sw1.out; omega))
      have R2 := Lib.hid (R1.out.same (hbw.block _ (by have := sw1.out; omega)))
      have hb2 := Lib.hid (hb01.out.trans (hbw.mono (by have := sw1.out; omega)))
      have s2 : Hid (w.heap.size + 1 + 1 + 1 < wr.heap.size) := Lib.hid (by have := sw1.out; have := hbw.size; omega)
      obtain ⟨y0, -⟩ := A2 0 _ rfl
      obtain ⟨y7, -⟩ := A2 1 _ rfl
      obtain ⟨y1, -⟩ := X2 0 _ rfl
      obtain ⟨y2, -⟩ := X2 1 _ rfl
      obtain ⟨y3, -⟩ := X2 2 _ rfl
      obtain ⟨y4, -⟩ := Y2 0 _ rfl
      obtain ⟨y5, -⟩ := Y2 1 _ rfl
      obtain ⟨y6, -⟩ := Y2 2 _ rfl
      clear A2 X2 Y2 hbw
      go_wp2_with fail
      refine (kb.out _ (hs.out.below hb2.out) (hd.out.below hb2.out) (hs'.out.below hb2.out) (hd'.out.below hb2.out)).mono ?_
      intro en w6 hp
      obtain ⟨a5, c5, b5, k5, rfl, r1, r2, f1, f2, hc, hb6⟩ := hp.is_ok rfl
      clear hp y0 y1 y2 y3 y4 y5 y6 y7
      have R6 := R2.out.same (hb6.block _ (by have := s2.out; omega))
      have hb06 := Lib.hid (hb2.out.trans (hb6.mono (by have := s2.out; omega)))
      have g1 : ∀ p, a5 = some p → w.heap.size + 1 + 1 + 1 < p.block := fun p e => by have := f1 p e; have := s2.out; omega
      have g2 : ∀ p, b5 = some p → w.heap.size + 1 + 1 + 1 < p.block := fun p e => by have := f2 p e; have := s2.out; omega
      replace r1 := Lib.hid r1
      replace r2 := Lib.hid r2
      replace g1 := Lib.hid g1
      replace g2 := Lib.hid g2
      replace hc := Lib.hid hc
      obtain ⟨t0, u0⟩ := R6 0 _ rfl
      obtain ⟨t1, u1⟩ := R6 1 _ rfl
      obtain ⟨t2, u2⟩ := R6 2 _ rfl
      clear R6 hb6 f1 f2
      go_wp2
      refine bodyPost_ret (v := .tuple #[arrV z.ch a5 z.s.length c5 b5 z.d.length k5, .nilIface]) (by simp [results, Tryz.results91, go_sem, cell?_set_same, arrV, t0, t1, t2]) rfl ?_
      refine ArrPostF.ok rfl rfl (r1.out.but (But.set3 _ _ _ _ _ _) (fun _ p e => ?_)) (r2.out.but (But.set3 _ _ _ _ _ _) (fun _ p e => ?_)) (fun p e => ?_) (fun p e => ?_) hc.out (set3 hb06.out (by omega) _ _ _)
      · have := g1.out p e; omega
      · have := g2.out p e; omega
      · have := g1.out p e; omega
      · have := g2.out p e; omega
set_option maxRecDepth 20000 in
set_option maxHeartbeats 4000000 in
theorem known2_resh (w : World) : Calls Tryz.prog 106 #[.agg #[.int .i64 0, .int .i64 18, .int .i64 0]] w fun en w' => en = .returned (.bool true) ∧ Below w.heap.size w w' := by
  go_enter Tryz.func106, Tryz.ntmps106
  go_wp2
  go_ret
  exact ⟨rfl, push (start w) _⟩
set_option maxRecDepth 20000 in
set_option maxHeartbeats 4000000 in
theorem known2_dec (w : World) : Calls Tryz.prog 106 #[.agg #[.int .i64 0, .int .i64 30, .int .i64 0]] w fun en w' => en = .returned (.bool true) ∧ Below w.heap.size w w' := by
  go_enter Tryz.func106, Tryz.ntmps106
  go_wp2
  go_ret
  exact ⟨rfl, push (start w) _⟩
set_option maxRecDepth 20000 in
set_option maxHeartbeats 4000000 in
theorem known2_enc (w : World) : Calls Tryz.prog 106 #[.agg #[.int .i64 0, .int .i64 31, .int .i64 0]] w fun en w' => en = .returned (.bool true) ∧ Below w.heap.size w w' := by
  go_enter Tryz.func106, Tryz.ntmps106
  go_wp2
  go_ret
  exact ⟨rfl, push (start w) _⟩
theorem prim_resh (s : List Int) (base : List Int) (y z : Arr) (hs : s.length ≤ 1) (hx : M.flaw false s base = 0) (hy : M.flaw y.ch y.s y.d = 0) (hz : M.reshape base y = .ok z) : Two1 0 18 0 ⟨false, s, base⟩ y z :=
  two_resh ⟨false, s, base⟩ y z hx hy known2_resh fun W a c b k a' c' b' k' _ h2 h3 h4 => byList_resh s.length base y z hs (Nat.le_trans (flaw_len hx).1 (by decide)) hy hz W a c b k a' c' b' k' h2 h3 h4
theorem prim_enc (s : List Int) (base : List Int) (v : Int) (hs : s.length ≤ 1) (hx : M.flaw false s base = 0) (hy : M.flaw false [] [v] = 0) (h64 : All64 base) (hv : I64 v) (h4 : base.length ≤ 4096) : Two1 0 31 0 ⟨false, s, base⟩ ⟨false, [], [v]⟩ ⟨false, [((M.digs base v).1.length : Int)], (M.digs base v).1⟩ :=
  two_enc ⟨false, s, base⟩ ⟨false, [], [v]⟩ _ hx hy known2_enc fun W a c b k a' c' b' k' _ h2 _ h4' => byList_enc s.length base v hs h64 hv h4 W a c b k a' c' b' k' h2 h4'
theorem prim_dec (b0 : Int) (s ds : List Int) (hx : M.flaw false [] [b0] = 0) (hs : s.length ≤ 1) (hy : M.flaw false s ds = 0) (h4 : ds.length ≤ 4096) : Two1 0 30 0 ⟨false, [], [b0]⟩ ⟨false, s, ds⟩ ⟨false, [], [M.radV (List.replicate ds.length b0) ds ds.length]⟩ :=
  two_dec ⟨false, [], [b0]⟩ ⟨false, s, ds⟩ _ hx hy known2_dec fun W a c b k a' c' b' k' _ h2 _ h4' => byList_dec b0 s.length ds hs h4 W a c b k a' c' b' k' h2 h4'
end Go.Proofs.YtaplaoelamnoiaaGreatDoor
