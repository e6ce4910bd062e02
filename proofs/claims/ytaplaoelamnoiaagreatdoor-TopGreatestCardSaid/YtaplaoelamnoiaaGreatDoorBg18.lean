/- Texts that lie in one file: what is plain, rows, boxes, squares, and what is known of a world. No condition. -/
import Derived.Test.YtaplaoelamnoiaaGreatDoorBg15
import Derived.Test.YtaplaoelamnoiaaGreatDoorWkEach
import Derived.Test.YtaplaoelamnoiaaGreatDoorBg08
import Derived.Test.YtaplaoelamnoiaaGreatDoorWkEach1
/- The calls prim.One and prim.Two of plain functions, by what they call. Condition: sound arrays. -/
namespace Go.Proofs.YtaplaoelamnoiaaGreatDoor
open Go.RowKit

set_option maxRecDepth 20000 in
set_option maxHeartbeats 8000000 in
theorem two_both (f : Int) (x y z : Arr) (hx : M.flaw x.ch x.s x.d = 0) (hy : M.flaw y.ch y.s y.d = 0) (e18 : (f == 18) = false) (e22 : (f == 22) = false) (e23 : (f == 23) = false) (e33 : (f == 33) = false) (e34 : (f == 34) = false) (e20 : (f == 20) = false) (e30 : (f == 30) = false) (e31 : (f == 31) = false)
    (kn : ∀ W, Calls Tryz.prog 106 #[.agg #[.int .i64 0, .int .i64 f, .int .i64 0]] W fun en w' => en = .returned (.bool true) ∧ Below W.heap.size W w')
    (kb : ∀ (W : World) (a : Option Addr) (c : Nat) (b : Option Addr) (k : Nat) (a' : Option Addr) (c' : Nat) (b' : Option Addr) (k' : Nat), Row W a x.s → Row W b x.d → Row W a' y.s → Row W b' y.d →
      Calls Tryz.prog 114 #[.int .i64 f, arrV x.ch a x.s.length c b x.d.length k, arrV y.ch a' y.s.length c' b' y.d.length k'] W fun e w' => ArrPostF (.ok z) W e w') : Two1 0 f 0 x y z := by
  intro w a c b k a' c' b' k' hs hd hs' hd'
  obtain ⟨ch, s, d⟩ := x
  obtain ⟨ch', s', d'⟩ := y
  dsimp only at hx hy kb hs hd hs' hd' ⊢
  have l1 := (flaw_len hx).2
  have l2 := (flaw_len hx).1
  have l3 := (flaw_len hy).2
  have l4 := (flaw_len hy).1
  have kc1 := fun W h1 h2 => check_any ch a b s d s.length c d.length k W h1 h2 (by simp only [maxLen]; omega) (by simp only [maxLen]; omega) rfl rfl
  have kc2 := fun W h1 h2 => check_any ch' a' b' s' d' s'.length c' d'.length k' W h1 h2 (by simp only [maxLen]; omega) (by simp only [maxLen]; omega) rfl rfl
  rw [hx, errV_zero] at kc1
  rw [hy, errV_zero] at kc2
  replace kb := fun W => kb W a c b k a' c' b' k'
  obtain ⟨n1, hn1⟩ : ∃ n, n = s.length := ⟨_, rfl⟩
  obtain ⟨n2, hn2⟩ : ∃ n, n = d.length := ⟨_, rfl⟩
  obtain ⟨n3, hn3⟩ : ∃ n, n = s'.length := ⟨_, rfl⟩
  obtain ⟨n4, hn4⟩ : ∃ n, n = d'.length := ⟨_, rfl⟩
  rw [← hn1, ← hn2] at kc1 kb
  rw [← hn3, ← hn4] at kc2 kb
  rw [← hn1, ← hn2, ← hn3, ← hn4]
  obtain ⟨W, hWe⟩ : ∃ W : World, W = (((w.alloc (.cells #[.int .i64 0, .int .i64 f, .int .i64 0] 74)).alloc (.cells #[.bool ch, .slice a n1 c, .slice b n2 k] 24)).alloc (.cells #[.bool ch', .slice a' n3 c', .slice b' n4 k'] 24)).alloc (.cells #[.bool false, .slice none 0 0, .slice none 0 0] 24) := ⟨_, rfl⟩
  obtain ⟨bA, bX, bY, bR, sW⟩ := four_boxes _ _ _ _ _ _ _ _ _ W hWe
  have hb0 : Below w.heap.size w W := by rw [hWe]; exact push (push (push (push (start w) _) _) _) _
  have hWe' := Lib.hid hWe.symm
  replace hWe := Lib.hid hWe
  replace hn1 := Lib.hid hn1
  replace hn2 := Lib.hid hn2
  replace hn3 := Lib.hid hn3
  replace hn4 := Lib.hid hn4
  replace kc1 := Lib.hid kc1
  replace kc2 := Lib.hid kc2
  replace kb := Lib.hid kb
  replace kn := Lib.hid kn
  replace hs := Lib.hid hs
  replace hd := Lib.hid hd
  replace hs' := Lib.hid hs'
  replace hd' := Lib.hid hd'
  replace bA := Lib.hid bA
  replace bX := Lib.hid bX
  replace bY := Lib.hid bY
  replace bR := Lib.hid bR
  replace hb0 := Lib.hid hb0
  replace sW := Lib.hid sW
  clear hx hy l1 l2 l3 l4
  have ix0 := idx_two0 (.bool ch) (.slice a n1 c) (.slice b n2 k) (.bool ch') (.slice a' n3 c') (.slice b' n4 k')
  have ix1 := idx_two1 (.bool ch) (.slice a n1 c) (.slice b n2 k) (.bool ch') (.slice a' n3 c') (.slice b' n4 k')
  go_enter Tryz.func91, Tryz.ntmps91
  go_wp2_with fail
  rw [hWe'.out]
  refine (kn.out _).mono ?_
  rintro en w1 ⟨rfl, hb1⟩
  have A1 := Lib.hid (bA.out.same (hb1.block _ (by have := sW.out; omega)))
  have X1 := Lib.hid (bX.out.same (hb1.block _ (by have := sW.out; omega)))
  have Y1 := Lib.hid (bY.out.same (hb1.block _ (by have := sW.out; omega)))
  have R1 := Lib.hid (bR.out.same (hb1.block _ (by have := sW.out; omega)))
  have hb01 := Lib.hid (hb0.out.trans (hb1.mono (by have := sW.out; omega)))
  have sw1 : Hid (w.heap.size + 1 + 1 + 1 < w1.heap.size) := Lib.hid (by have := sW.out; have := hb1.size; omega)
  obtain ⟨y0, -⟩ := A1.out 0 _ rfl
  obtain ⟨y1, -⟩ := X1.out 0 _ rfl
  obtain ⟨y2, -⟩ := X1.out 1 _ rfl
  obtain ⟨y3, -⟩ := X1.out 2 _ rfl
  obtain ⟨y4, -⟩ := Y1.out 0 _ rfl
  obtain ⟨y5, -⟩ := Y1.out 1 _ rfl
  obtain ⟨y6, -⟩ := Y1.out 2 _ rfl
  clear hb1 hb0 bA bX bY bR kn
  go_wp2
  go_loopw [38] (fun v wr => (v = .int .i64 0 ∨ v = .int .i64 1 ∨ v = .int .i64 2) ∧ Below w1.heap.size w1 wr) (fun v _ => 2 - (intOf v).toNat)
  case atStart => exact ⟨.inl rfl, Below.refl _ _⟩
  case round =>
    clear y0 y1 y2 y3 y4 y5 y6
    obtain ⟨hcase, hbw⟩ := hrel
    rcases hcase with rfl | rfl | rfl
    · have hba := push (start wr) (.cells #[.bool ch, .slice a n1 c, .slice b n2 k] 24)
      have q1 := hs.out.below ((hb01.out.trans (hbw.mono (by have := sw1.out; omega))).trans (hba.mono (by have := sw1.out; have := hbw.size; omega)))
      have q2 := hd.out.below ((hb01.out.trans (hbw.mono (by have := sw1.out; omega))).trans (hba.mono (by have := sw1.out; have := hbw.size; omega)))
      have kk := Lib.hid (kc1.out _ q1 q2)
      clear q1 q2
      replace hbw := Lib.hid hbw
      replace hba := Lib.hid hba
      go_wp2_with fail
      refine kk.out.mono ?_
      rintro en w5 ⟨rfl, hb5⟩
      have hbn := Lib.hid ((hbw.out.trans (hba.out.mono hbw.out.size)).trans (hb5.mono (by have := hbw.out.size; have := hba.out.size; omega)))
      clear hb5
      go_wp2
      go_roundw
      case rel => exact ⟨.inr (.inl (by go_num)), hbn.out⟩
      case measure => simp [intOf]
    · have hba := push (start wr) (.cells #[.bool ch', .slice a' n3 c', .slice b' n4 k'] 24)
      have q1 := hs'.out.below ((hb01.out.trans (hbw.mono (by have := sw1.out; omega))).trans (hba.mono (by have := sw1.out; have := hbw.size; omega)))
      have q2 := hd'.out.below ((hb01.out.trans (hbw.mono (by have := sw1.out; omega))).trans (hba.mono (by have := sw1.out; have := hbw.size; omega)))
      have kk := Lib.hid (kc2.out _ q1 q2)
      clear q1 q2
      replace hbw := Lib.hid hbw
      replace hba := Lib.hid hba
      go_wp2_with fail
      refine kk.out.mono ?_
      rintro en w5 ⟨rfl, hb5⟩
      have hbn := Lib.hid ((hbw.out.trans (hba.out.mono hbw.out.size)).trans (hb5.mono (by have := hbw.out.size; have := hba.out.size; omega)))
      clear hb5
      go_wp2
      go_roundw
      case rel => exact ⟨.inr (.inr (by go_num)), hbn.out⟩
      case measure => simp [intOf]
    · have A2 := A1.out.same (hbw.block _ (by have := sw1.out; omega))
      have X2 := X1.out.same (hbw.block _ (by have := sw1.out; omega))
      have Y2 := Y1.out.same (hbw.block _ (by have := sw1.out; omega))
      have R2 := Lib.hid (R1.out.same (hbw.block _ (by have := sw1.out; omega)))
      have hb2 := Lib.hid (hb01.out.trans (hbw.mono (by have := sw1.out; omega)))
      have s2 : Hid (w.heap.size + 1 + 1 + 1 < wr.heap.size) := Lib.hid (by have := sw1.out; have := hbw.size; omega)
      obtain ⟨y0, -⟩ := A2 0 _ rfl
      obtain ⟨y7, -⟩ := A2 1 _ rfl
      obtain ⟨y1, -⟩ := X2 0 _ rfl
      obtain ⟨y2, -⟩ := X2 1 _ rfl
      obtain ⟨y3, -⟩ := X2 2 _ rfl
      obtain ⟨y4, -⟩ := Y2 0 _ rfl
      obtain ⟨y5, -⟩ := Y2 1 _ rfl
      obtain ⟨y6, -⟩ := Y2 2 _ rfl
      clear A2 X2 Y2 hbw
      go_wp2_with fail
      refine (kb.out _ (hs.out.below hb2.out) (hd.out.below hb2.out) (hs'.out.below hb2.out) (hd'.out.below hb2.out)).mono ?_
      intro en w6 hp
      obtain ⟨a5, c5, b5, k5, rfl, r1, r2, f1, f2, hc, hb6⟩ := hp.is_ok rfl
      clear hp y0 y1 y2 y3 y4 y5 y6 y7
      have R6 := R2.out.same (hb6.block _ (by have := s2.out; omega))
      have hb06 := Lib.hid (hb2.out.trans (hb6.mono (by have := s2.out; omega)))
      have g1 : ∀ p, a5 = some p → w.heap.size + 1 + 1 + 1 < p.block := fun p e => by have := f1 p e; have := s2.out; omega
      have g2 : ∀ p, b5 = some p → w.heap.size + 1 + 1 + 1 < p.block := fun p e => by have := f2 p e; have := s2.out; omega
      replace r1 := Lib.hid r1
      replace r2 := Lib.hid r2
      replace g1 := Lib.hid g1
      replace g2 := Lib.hid g2
      replace hc := Lib.hid hc
      obtain ⟨t0, u0⟩ := R6 0 _ rfl
      obtain ⟨t1, u1⟩ := R6 1 _ rfl
      obtain ⟨t2, u2⟩ := R6 2 _ rfl
      clear R6 hb6 f1 f2
      go_wp2
      refine bodyPost_ret (v := .tuple #[arrV z.ch a5 z.s.length c5 b5 z.d.length k5, .nilIface]) (by simp [results, Tryz.results91, go_sem, cell?_set_same, arrV, t0, t1, t2]) rfl ?_
      refine ArrPostF.ok rfl rfl (r1.out.but (But.set3 _ _ _ _ _ _) (fun _ p e => ?_)) (r2.out.but (But.set3 _ _ _ _ _ _) (fun _ p e => ?_)) (fun p e => ?_) (fun p e => ?_) hc.out (set3 hb06.out (by omega) _ _ _)
      · have := g1.out p e; omega
      · have := g2.out p e; omega
      · have := g1.out p e; omega
      · have := g2.out p e; omega
end Go.Proofs.YtaplaoelamnoiaaGreatDoor

/- The functions that go cell by cell, by prim's calls. Condition: sound arrays of ints of 64 bits. -/
namespace Go.Proofs.YtaplaoelamnoiaaGreatDoor
open Go.RowKit

set_option maxRecDepth 20000 in
set_option maxHeartbeats 4000000 in
theorem last_any (ch : Bool) (a : Option Addr) (n c : Nat) (b : Option Addr) (m k : Nat) (w : World) (hn : n ≤ 100000) :
    Calls Tryz.prog 110 #[arrV ch a n c b m k] w fun en w' => en = .returned (.tuple #[.int .i64 ((n : Int) - 1), .bool (decide (0 < n))]) ∧ Below w.heap.size w w' := by
  have hb := push (start w) (.cells #[.bool ch, .slice a n c, .slice b m k] 24)
  go_enter Tryz.func110, Tryz.ntmps110
  go_wp2_with fail
  go_region
  go_wp2
  go_ret2
  exact ⟨by simp, hb.drew⟩

/-- A pair of an array and no error, out of a call whose array is new. -/
theorem result_any {x : Arr} {w w3 w6 : World} {n0 : Nat} {a c b k} (hn : w.heap.size ≤ n0) (hb : Below w.heap.size w w3) (hn2 : n0 < w3.heap.size) (r1 : Row w6 a x.s) (r2 : Row w6 b x.d) (f1 : Fresh w3 a) (f2 : Fresh w3 b) (hc : x.s.length ≤ c) (hb6 : Below w3.heap.size w3 w6) :
    ArrPostF (.ok x) w (.returned (.tuple #[arrV x.ch a x.s.length c b x.d.length k, .nilIface])) (((w6.setCell ⟨n0, 0, none⟩ (.bool x.ch)).setCell ⟨n0, 1, none⟩ (.slice a x.s.length c)).setCell ⟨n0, 2, none⟩ (.slice b x.d.length k)) :=
  .ok rfl rfl (r1.but (But.set3 _ _ _ _ _ _) (fun _ p e => by have := f1 p e; omega)) (r2.but (But.set3 _ _ _ _ _ _) (fun _ p e => by have := f2 p e; omega)) (fun p e => by have := f1 p e; omega) (fun p e => by have := f2 p e; omega) hc (set3 (hb.trans (hb6.mono hb.size)) hn _ _ _)

set_option maxRecDepth 20000 in
set_option maxHeartbeats 4000000 in
theorem both_each (f : Int) (x y z : Arr) (hx : M.flaw x.ch x.s x.d = 0) (hy : M.flaw y.ch y.s y.d = 0) (x64 : All64 x.d) (y64 : All64 y.d) (hz : M.each2 f x y = .ok z) (e19 : (f == 19) = false) (e24 : (f == 24) = false) (e25 : (f == 25) = false) (e17 : (f == 17) = false) (e28 : (f == 28) = false) (e29 : (f == 29) = false) (e32 : (f == 32) = false)
    (w : World) (a : Option Addr) (c : Nat) (b : Option Addr) (k : Nat) (a' : Option Addr) (c' : Nat) (b' : Option Addr) (k' : Nat) (hs : Row w a x.s) (hd : Row w b x.d) (hs' : Row w a' y.s) (hd' : Row w b' y.d) :
    Calls Tryz.prog 114 #[.int .i64 f, arrV x.ch a x.s.length c b x.d.length k, arrV y.ch a' y.s.length c' b' y.d.length k'] w fun e w' => ArrPostF (.ok z) w e w' := by
  have l1 := (flaw_len hx).2
  have l2 := (flaw_len hx).1
  have l3 := (flaw_len hy).2
  have l4 := (flaw_len hy).1
  have ke := fun W h1 h2 h3 h4 => each2_any f x.ch y.ch a b a' b' x.s x.d y.s y.d x.s.length c x.d.length k y.s.length c' y.d.length k' W h1 h2 (by simp only [maxLen]; omega) (by simp only [maxLen]; omega) x64 rfl rfl h3 h4 (by simp only [maxLen]; omega) (by simp only [maxLen]; omega) y64 rfl rfl
  have hz' : M.each2 f ⟨x.ch, x.s, x.d⟩ ⟨y.ch, y.s, y.d⟩ = .ok z := hz
  rw [hz'] at ke
  obtain ⟨W, hWe⟩ : ∃ W : World, W = ((w.alloc (.cells #[.bool x.ch, .slice a x.s.length c, .slice b x.d.length k] 24)).alloc (.cells #[.bool y.ch, .slice a' y.s.length c', .slice b' y.d.length k'] 24)).alloc (.cells #[.bool false, .slice none 0 0, .slice none 0 0] 24) := ⟨_, rfl⟩
  obtain ⟨-, -, bR, sW⟩ := three_boxes _ _ _ _ _ _ _ W hWe
  have hb0 : Below w.heap.size w W := by rw [hWe]; exact push (push (push (start w) _) _) _
  have kk := Lib.hid (ke W (hs.below hb0) (hd.below hb0) (hs'.below hb0) (hd'.below hb0))
  have hWe' := Lib.hid hWe.symm
  replace hWe := Lib.hid hWe
  replace bR := Lib.hid bR
  replace hb0 := Lib.hid hb0
  replace sW := Lib.hid sW
  clear hx hy l1 l2 l3 l4 x64 y64 hz hz' hs hd hs' hd' ke
  go_enter Tryz.func114, Tryz.ntmps114
  go_wp2_with fail
  rw [hWe'.out]
  refine kk.out.mono ?_
  intro en w6 hp
  obtain ⟨a5, c5, b5, k5, rfl, r1, r2, f1, f2, hc, hb6⟩ := hp.is_ok rfl
  clear hp
  obtain ⟨t0, u0⟩ := (bR.out.same (hb6.block _ (by have := sW.out; omega))) 0 _ rfl
  obtain ⟨t1, u1⟩ := (bR.out.same (hb6.block _ (by have := sW.out; omega))) 1 _ rfl
  obtain ⟨t2, u2⟩ := (bR.out.same (hb6.block _ (by have := sW.out; omega))) 2 _ rfl
  have hfin := Lib.hid (result_any (k := k5) (n0 := w.heap.size + 1 + 1) (by omega) hb0.out (by have := sW.out; omega) r1 r2 f1 f2 hc hb6)
  clear r1 r2 f1 f2 hc hb6
  go_wp2
  refine bodyPost_ret (v := .tuple #[arrV z.ch a5 z.s.length c5 b5 z.d.length k5, .nilIface]) (by simp [results, Tryz.results114, go_sem, cell?_set_same, arrV, t0, t1, t2]) rfl ?_
  exact hfin.out

set_option maxRecDepth 20000 in
set_option maxHeartbeats 4000000 in
theorem plain_each (f : Int) (x z : Arr) (hx : M.flaw x.ch x.s x.d = 0) (x64 : All64 x.d) (hz : M.each1 f x = .ok z) (e18 : (f == 18) = false) (e19 : (f == 19) = false) (e20 : (f == 20) = false) (e21 : (f == 21) = false) (e24 : (f == 24) = false) (e26 : (f == 26) = false) (e27 : (f == 27) = false) (e28 : (f == 28) = false)
    (w : World) (a : Option Addr) (c : Nat) (b : Option Addr) (k : Nat) (hs : Row w a x.s) (hd : Row w b x.d) :
    Calls Tryz.prog 118 #[.int .i64 f, arrV x.ch a x.s.length c b x.d.length k] w fun e w' => ArrPostF (.ok z) w e w' := by
  have l1 := (flaw_len hx).2
  have l2 := (flaw_len hx).1
  have ke := fun W h1 h2 => each1_any f x.ch a b x.s x.d x.s.length c x.d.length k W h1 h2 (by simp only [maxLen]; omega) (by simp only [maxLen]; omega) x64 rfl rfl
  have hz' : M.each1 f ⟨x.ch, x.s, x.d⟩ = .ok z := hz
  rw [hz'] at ke
  have kl := fun W => last_any x.ch a x.s.length c b x.d.length k W (by omega)
  obtain ⟨W, hWe⟩ : ∃ W : World, W = (w.alloc (.cells #[.bool x.ch, .slice a x.s.length c, .slice b x.d.length k] 24)).alloc (.cells #[.bool false, .slice none 0 0, .slice none 0 0] 24) := ⟨_, rfl⟩
  have hb0 : Below w.heap.size w W := by rw [hWe]; exact push (push (start w) _) _
  have bX : BoxC w.heap.size [.bool x.ch, .slice a x.s.length c, .slice b x.d.length k] W := by rw [hWe]; exact (boxC_alloc w #[.bool x.ch, .slice a x.s.length c, .slice b x.d.length k] 24).same (heap_alloc_old _ _ (by simp))
  have bR : BoxC (w.heap.size + 1) [.bool false, .slice none 0 0, .slice none 0 0] W := by
    have h := boxC_alloc (w.alloc (.cells #[.bool x.ch, .slice a x.s.length c, .slice b x.d.length k] 24)) #[.bool false, .slice none 0 0, .slice none 0 0] 24
    rw [World.size_alloc] at h
    rw [hWe]; exact h
  have sW : W.heap.size = w.heap.size + 1 + 1 := by rw [hWe]; simp
  have hWe' := Lib.hid hWe.symm
  replace hWe := Lib.hid hWe
  replace bR := Lib.hid bR
  replace bX := Lib.hid bX
  replace hb0 := Lib.hid hb0
  replace sW := Lib.hid sW
  replace ke := Lib.hid ke
  replace kl := Lib.hid kl
  replace hs := Lib.hid hs
  replace hd := Lib.hid hd
  clear hx l1 l2 x64 hz hz'
  go_enter Tryz.func118, Tryz.ntmps118
  go_wp2_with fail
  rw [hWe'.out]
  refine (kl.out _).mono ?_
  rintro en w1 ⟨rfl, hb1⟩
  have X1 := bX.out.same (hb1.block _ (by have := sW.out; omega))
  have R1 := Lib.hid (bR.out.same (hb1.block _ (by have := sW.out; omega)))
  have hb01 := Lib.hid (hb0.out.trans (hb1.mono (by have := sW.out; omega)))
  have s1 : Hid (w.heap.size + 1 < w1.heap.size) := Lib.hid (by have := sW.out; have := hb1.size; omega)
  obtain ⟨y0, -⟩ := X1 0 _ rfl
  obtain ⟨y1, -⟩ := X1 1 _ rfl
  obtain ⟨y2, -⟩ := X1 2 _ rfl
  clear X1 hb1
  go_wp2_with fail
  refine (ke.out w1 (hs.out.below hb01.out) (hd.out.below hb01.out)).mono ?_
  intro en w6 hp
  obtain ⟨a5, c5, b5, k5, rfl, r1, r2, f1, f2, hc, hb6⟩ := hp.is_ok rfl
  clear hp y0 y1 y2
  obtain ⟨t0, u0⟩ := (R1.out.same (hb6.block _ s1.out)) 0 _ rfl
  obtain ⟨t1, u1⟩ := (R1.out.same (hb6.block _ s1.out)) 1 _ rfl
  obtain ⟨t2, u2⟩ := (R1.out.same (hb6.block _ s1.out)) 2 _ rfl
  have hfin := Lib.hid (result_any (k := k5) (n0 := w.heap.size + 1) (by omega) hb01.out s1.out r1 r2 f1 f2 hc hb6)
  clear r1 r2 f1 f2 hc hb6
  go_wp2
  refine bodyPost_ret (v := .tuple #[arrV z.ch a5 z.s.length c5 b5 z.d.length k5, .nilIface]) (by simp [results, Tryz.results118, go_sem, cell?_set_same, arrV, t0, t1, t2]) rfl ?_
  exact hfin.out

set_option maxRecDepth 20000 in
set_option maxHeartbeats 4000000 in
theorem one_plain (f : Int) (x z : Arr) (hx : M.flaw x.ch x.s x.d = 0)
    (kn : ∀ W, Calls Tryz.prog 115 #[.agg #[.int .i64 0, .int .i64 f, .int .i64 0]] W fun en w' => en = .returned (.bool true) ∧ Below W.heap.size W w')
    (kb : ∀ (W : World) (a : Option Addr) (c : Nat) (b : Option Addr) (k : Nat), Row W a x.s → Row W b x.d → Calls Tryz.prog 118 #[.int .i64 f, arrV x.ch a x.s.length c b x.d.length k] W fun e w' => ArrPostF (.ok z) W e w') : One1 0 f 0 x z := by
  intro w a c b k hs hd
  have l1 := (flaw_len hx).2
  have l2 := (flaw_len hx).1
  have kc := fun W h1 h2 => check_any x.ch a b x.s x.d x.s.length c x.d.length k W h1 h2 (by simp only [maxLen]; omega) (by simp only [maxLen]; omega) rfl rfl
  rw [hx, errV_zero] at kc
  have kl := fun W => last_any x.ch a x.s.length c b x.d.length k W (by omega)
  replace kb := fun W => kb W a c b k
  obtain ⟨W, hWe⟩ : ∃ W : World, W = ((w.alloc (.cells #[.int .i64 0, .int .i64 f, .int .i64 0] 74)).alloc (.cells #[.bool x.ch, .slice a x.s.length c, .slice b x.d.length k] 24)).alloc (.cells #[.bool false, .slice none 0 0, .slice none 0 0] 24) := ⟨_, rfl⟩
  obtain ⟨bA, bX, bR, sW⟩ := three_boxes _ _ _ _ _ _ _ W hWe
  have hb0 : Below w.heap.size w W := by rw [hWe]; exact push (push (push (start w) _) _) _
  have hWe' := Lib.hid hWe.symm
  replace hWe := Lib.hid hWe
  replace kc := Lib.hid kc
  replace kb := Lib.hid kb
  replace kn := Lib.hid kn
  replace kl := Lib.hid kl
  replace hs := Lib.hid hs
  replace hd := Lib.hid hd
  replace bA := Lib.hid bA
  replace bX := Lib.hid bX
  replace bR := Lib.hid bR
  replace hb0 := Lib.hid hb0
  replace sW := Lib.hid sW
  clear hx l1 l2
  go_enter Tryz.func92, Tryz.ntmps92
  go_wp2_with fail
  rw [hWe'.out]
  refine (kn.out _).mono ?_
  rintro en w1 ⟨rfl, hb1⟩
  have A1 := Lib.hid (bA.out.same (hb1.block _ (by have := sW.out; omega)))
  have X1 := Lib.hid (bX.out.same (hb1.block _ (by have := sW.out; omega)))
  have R1 := Lib.hid (bR.out.same (hb1.block _ (by have := sW.out; omega)))
  have hb01 := Lib.hid (hb0.out.trans (hb1.mono (by have := sW.out; omega)))
  have s1 : Hid (w.heap.size + 1 + 1 < w1.heap.size) := Lib.hid (by have := sW.out; have := hb1.size; omega)
  obtain ⟨y1, -⟩ := X1.out 0 _ rfl
  obtain ⟨y2, -⟩ := X1.out 1 _ rfl
  obtain ⟨y3, -⟩ := X1.out 2 _ rfl
  clear hb1 bA bX bR
  go_wp2_with fail
  refine (kc.out w1 (hs.out.below hb01.out) (hd.out.below hb01.out)).mono ?_
  rintro en w2 ⟨rfl, hb2⟩
  clear y1 y2 y3
  have A2 := Lib.hid (A1.out.same (hb2.block _ (by have := s1.out; omega)))
  have X2 := Lib.hid (X1.out.same (hb2.block _ (by have := s1.out; omega)))
  have R2 := Lib.hid (R1.out.same (hb2.block _ (by have := s1.out; omega)))
  have hb02 := Lib.hid (hb01.out.trans (hb2.mono (by have := s1.out; omega)))
  have s2 : Hid (w.heap.size + 1 + 1 < w2.heap.size) := Lib.hid (by have := s1.out; have := hb2.size; omega)
  obtain ⟨y1, -⟩ := X2.out 0 _ rfl
  obtain ⟨y2, -⟩ := X2.out 1 _ rfl
  obtain ⟨y3, -⟩ := X2.out 2 _ rfl
  clear hb2 A1 X1 R1
  go_wp2_with fail
  refine (kl.out w2).mono ?_
  rintro en w3 ⟨rfl, hb3⟩
  clear y1 y2 y3
  have A3 := A2.out.same (hb3.block _ (by have := s2.out; omega))
  have X3 := X2.out.same (hb3.block _ (by have := s2.out; omega))
  have R3 := Lib.hid (R2.out.same (hb3.block _ (by have := s2.out; omega)))
  have hb03 := Lib.hid (hb02.out.trans (hb3.mono (by have := s2.out; omega)))
  have s3 : Hid (w.heap.size + 1 + 1 < w3.heap.size) := Lib.hid (by have := s2.out; have := hb3.size; omega)
  obtain ⟨y1, -⟩ := X3 0 _ rfl
  obtain ⟨y2, -⟩ := X3 1 _ rfl
  obtain ⟨y3, -⟩ := X3 2 _ rfl
  obtain ⟨y4, -⟩ := A3 0 _ rfl
  obtain ⟨y5, -⟩ := A3 1 _ rfl
  clear hb3 A2 X2 R2 A3 X3
  go_wp2_with fail
  refine (kb.out w3 (hs.out.below hb03.out) (hd.out.below hb03.out)).mono ?_
  intro en w6 hp
  obtain ⟨a5, c5, b5, k5, rfl, r1, r2, f1, f2, hc, hb6⟩ := hp.is_ok rfl
  clear hp y1 y2 y3 y4 y5
  obtain ⟨t0, u0⟩ := (R3.out.same (hb6.block _ s3.out)) 0 _ rfl
  obtain ⟨t1, u1⟩ := (R3.out.same (hb6.block _ s3.out)) 1 _ rfl
  obtain ⟨t2, u2⟩ := (R3.out.same (hb6.block _ s3.out)) 2 _ rfl
  have hfin := Lib.hid (result_any (k := k5) (n0 := w.heap.size + 1 + 1) (by omega) hb03.out s3.out r1 r2 f1 f2 hc hb6)
  clear r1 r2 f1 f2 hc hb6
  go_wp2
  refine bodyPost_ret (v := .tuple #[arrV z.ch a5 z.s.length c5 b5 z.d.length k5, .nilIface]) (by simp [results, Tryz.results92, go_sem, cell?_set_same, arrV, t0, t1, t2]) rfl ?_
  exact hfin.out

set_option maxRecDepth 20000 in
set_option maxHeartbeats 4000000 in
theorem known1_not (w : World) : Calls Tryz.prog 115 #[.agg #[.int .i64 0, .int .i64 17, .int .i64 0]] w fun en w' => en = .returned (.bool true) ∧ Below w.heap.size w w' := by
  go_enter Tryz.func115, Tryz.ntmps115
  go_wp2
  go_ret
  exact ⟨rfl, push (start w) _⟩
set_option maxRecDepth 20000 in
set_option maxHeartbeats 4000000 in
theorem known2_and (w : World) : Calls Tryz.prog 106 #[.agg #[.int .i64 0, .int .i64 14, .int .i64 0]] w fun en w' => en = .returned (.bool true) ∧ Below w.heap.size w w' := by
  go_enter Tryz.func106, Tryz.ntmps106
  go_wp2
  go_ret
  exact ⟨rfl, push (start w) _⟩
set_option maxRecDepth 20000 in
set_option maxHeartbeats 4000000 in
theorem known2_or (w : World) : Calls Tryz.prog 106 #[.agg #[.int .i64 0, .int .i64 15, .int .i64 0]] w fun en w' => en = .returned (.bool true) ∧ Below w.heap.size w w' := by
  go_enter Tryz.func106, Tryz.ntmps106
  go_wp2
  go_ret
  exact ⟨rfl, push (start w) _⟩

theorem prim_not (x z : Arr) (hx : M.flaw x.ch x.s x.d = 0) (x64 : All64 x.d) (hz : M.each1 17 x = .ok z) : One1 0 17 0 x z :=
  one_plain 17 x z hx known1_not fun W a c b k h1 h2 => plain_each 17 x z hx x64 hz rfl rfl rfl rfl rfl rfl rfl rfl W a c b k h1 h2
theorem prim_and (x y z : Arr) (hx : M.flaw x.ch x.s x.d = 0) (hy : M.flaw y.ch y.s y.d = 0) (x64 : All64 x.d) (y64 : All64 y.d) (hz : M.each2 14 x y = .ok z) : Two1 0 14 0 x y z :=
  two_both 14 x y z hx hy rfl rfl rfl rfl rfl rfl rfl rfl known2_and fun W a c b k a' c' b' k' h1 h2 h3 h4 => both_each 14 x y z hx hy x64 y64 hz rfl rfl rfl rfl rfl rfl rfl W a c b k a' c' b' k' h1 h2 h3 h4
theorem prim_or (x y z : Arr) (hx : M.flaw x.ch x.s x.d = 0) (hy : M.flaw y.ch y.s y.d = 0) (x64 : All64 x.d) (y64 : All64 y.d) (hz : M.each2 15 x y = .ok z) : Two1 0 15 0 x y z :=
  two_both 15 x y z hx hy rfl rfl rfl rfl rfl rfl rfl rfl known2_or fun W a c b k a' c' b' k' h1 h2 h3 h4 => both_each 15 x y z hx hy x64 y64 hz rfl rfl rfl rfl rfl rfl rfl W a c b k a' c' b' k' h1 h2 h3 h4
end Go.Proofs.YtaplaoelamnoiaaGreatDoor
