/- Texts that lie in one file: what is plain, rows, boxes, squares, and what is known of a world. No condition. -/
import Derived.Test.YtaplaoelamnoiaaGreatDoorBg18
import Derived.Test.YtaplaoelamnoiaaGreatDoorBg16
import Derived.Test.YtaplaoelamnoiaaGreatDoorBg19
/- prim.One through plainOne, the argument's room being told, and through fold.Reduce on a list. Condition: a sound argument. -/
namespace Go.Proofs.YtaplaoelamnoiaaGreatDoor
open Go.RowKit

set_option maxRecDepth 20000 in
set_option maxHeartbeats 8000000 in
theorem one_plainC (C : Nat → Prop) (f : Int) (x z : Arr) (hx : M.flaw x.ch x.s x.d = 0)
    (kn : ∀ W, Calls Tryz.prog 115 #[.agg #[.int .i64 0, .int .i64 f, .int .i64 0]] W fun en w' => en = .returned (.bool true) ∧ Below W.heap.size W w')
    (kb : ∀ (W : World) (a : Option Addr) (c : Nat) (b : Option Addr) (k : Nat), C k → Row W a x.s → Row W b x.d → Calls Tryz.prog 118 #[.int .i64 f, arrV x.ch a x.s.length c b x.d.length k] W fun e w' => ArrPostF (.ok z) W e w') : One1C C 0 f 0 x z := by
  intro w a c b k hck hs hd
  have l1 := (flaw_len hx).2
  have l2 := (flaw_len hx).1
  have kc := fun W h1 h2 => check_any x.ch a b x.s x.d x.s.length c x.d.length k W h1 h2 (by simp only [maxLen]; omega) (by simp only [maxLen]; omega) rfl rfl
  rw [hx, errV_zero] at kc
  have kl := fun W => last_any x.ch a x.s.length c b x.d.length k W (by omega)
  replace kb := fun W => kb W a c b k hck
  obtain ⟨W, hWe⟩ : ∃ W : World, W = ((w.alloc (.cells #[.int .i64 0, .int .i64 f, .int .i64 0] 74)).alloc (.cells #[.bool x.ch, .slice a x.s.length c, .slice b x.d.length k] 24)).alloc (.cells #[.bool false, .slice none 0 0, .slice none 0 0] 24) := ⟨_, rfl⟩
  obtain ⟨bA, bX, bR, sW⟩ := three_boxes _ _ _ _ _ _ _ W hWe
  have hb0 : Below w.heap.size w W := by rw [hWe]; exact push (push (push (start w) _) _) _
  have hWe' := Lib.hid hWe.symm
  replace hWe := Lib.hid hWe
  replace kc := Lib.hid kc
  replace kb := Lib.hid kb
  replace kn := Lib.hid kn
  replace kl := Lib.hid kl
  replace hs := Lib.hid hs
  replace hd := Lib.hid hd
  replace bA := Lib.hid bA
  replace bX := Lib.hid bX
  replace bR := Lib.hid bR
  replace hb0 := Lib.hid hb0
  replace sW := Lib.hid sW
  clear hx l1 l2 hck
  go_enter Tryz.func92, Tryz.ntmps92
  go_wp2_with fail
  rw [hWe'.out]
  refine (kn.out _).mono ?_
  rintro en w1 ⟨rfl, hb1⟩
  have A1 := Lib.hid (bA.out.same (hb1.block _ (by have := sW.out; omega)))
  have X1 := Lib.hid (bX.out.same (hb1.block _ (by have := sW.out; omega)))
  have R1 := Lib.hid (bR.out.same (hb1.block _ (by have := sW.out; omega)))
  have hb01 := Lib.hid (hb0.out.trans (hb1.mono (by have := sW.out; omega)))
  have s1 : Hid (w.heap.size + 1 + 1 < w1.heap.size) := Lib.hid (by have := sW.out; have := hb1.size; omega)
  obtain ⟨y1, -⟩ := X1.out 0 _ rfl
  obtain ⟨y2, -⟩ := X1.out 1 _ rfl
  obtain ⟨y3, -⟩ := X1.out 2 _ rfl
  clear hb1 bA bX bR
  go_wp2_with fail
  refine (kc.out w1 (hs.out.below hb01.out) (hd.out.below hb01.out)).mono ?_
  rintro en w2 ⟨rfl, hb2⟩
  clear y1 y2 y3
  have A2 := Lib.hid (A1.out.same (hb2.block _ (by have := s1.out; omega)))
  have X2 := Lib.hid (X1.out.same (hb2.block _ (by have := s1.out; omega)))
  have R2 := Lib.hid (R1.out.same (hb2.block _ (by have := s1.out; omega)))
  have hb02 := Lib.hid (hb01.out.trans (hb2.mono (by have := s1.out; omega)))
  have s2 : Hid (w.heap.size + 1 + 1 < w2.heap.size) := Lib.hid (by have := s1.out; have := hb2.size; omega)
  obtain ⟨y1, -⟩ := X2.out 0 _ rfl
  obtain ⟨y2, -⟩ := X2.out 1 _ rfl
  obtain ⟨y3, -⟩ := X2.out 2 _ rfl
  clear hb2 A1 X1 R1
  go_wp2_with fail
  refine (kl.out w2).mono ?_
  rintro en w3 ⟨rfl, hb3⟩
  clear y1 y2 y3
  have A3 := A2.out.same (hb3.block _ (by have := s2.out; omega))
  have X3 := X2.out.same (hb3.block _ (by have := s2.out; omega))
  have R3 := Lib.hid (R2.out.same (hb3.block _ (by have := s2.out; omega)))
  have hb03 := Lib.hid (hb02.out.trans (hb3.mono (by have := s2.out; omega)))
  have s3 : Hid (w.heap.size + 1 + 1 < w3.heap.size) := Lib.hid (by have := s2.out; have := hb3.size; omega)
  obtain ⟨y1, -⟩ := X3 0 _ rfl
  obtain ⟨y2, -⟩ := X3 1 _ rfl
  obtain ⟨y3, -⟩ := X3 2 _ rfl
  obtain ⟨y4, -⟩ := A3 0 _ rfl
  obtain ⟨y5, -⟩ := A3 1 _ rfl
  clear hb3 A2 X2 R2 A3 X3
  go_wp2_with fail
  refine (kb.out w3 (hs.out.below hb03.out) (hd.out.below hb03.out)).mono ?_
  intro en w6 hp
  obtain ⟨a5, c5, b5, k5, rfl, r1, r2, f1, f2, hc, hb6⟩ := hp.is_ok rfl
  clear hp y1 y2 y3 y4 y5
  obtain ⟨t0, u0⟩ := (R3.out.same (hb6.block _ s3.out)) 0 _ rfl
  obtain ⟨t1, u1⟩ := (R3.out.same (hb6.block _ s3.out)) 1 _ rfl
  obtain ⟨t2, u2⟩ := (R3.out.same (hb6.block _ s3.out)) 2 _ rfl
  have hfin := Lib.hid (result_any (k := k5) (n0 := w.heap.size + 1 + 1) (by omega) hb03.out s3.out r1 r2 f1 f2 hc hb6)
  clear r1 r2 f1 f2 hc hb6
  go_wp2
  refine bodyPost_ret (v := .tuple #[arrV z.ch a5 z.s.length c5 b5 z.d.length k5, .nilIface]) (by simp [results, Tryz.results92, go_sem, cell?_set_same, arrV, t0, t1, t2]) rfl ?_
  exact hfin.out

set_option maxRecDepth 20000 in
set_option maxHeartbeats 8000000 in
theorem one_over (f : Int) (x z : Arr) (hx1 : x.s.length = 1) (hx : M.flaw x.ch x.s x.d = 0)
    (kn : ∀ W, Calls Tryz.prog 115 #[.agg #[.int .i64 1, .int .i64 f, .int .i64 0]] W fun en w' => en = .returned (.bool true) ∧ Below W.heap.size W w')
    (kb : ∀ (W : World) (a : Option Addr) (c : Nat) (b : Option Addr) (k : Nat), Row W a x.s → Row W b x.d → Calls Tryz.prog 116 #[.int .i64 f, .int .i64 0, arrV x.ch a 1 c b x.d.length k] W fun e w' => ArrPostF (.ok z) W e w') : One1 1 f 0 x z := by
  intro w a c b k hs hd
  have l1 := (flaw_len hx).2
  have l2 := (flaw_len hx).1
  have kc := fun W h1 h2 => check_any x.ch a b x.s x.d x.s.length c x.d.length k W h1 h2 (by simp only [maxLen]; omega) (by simp only [maxLen]; omega) rfl rfl
  rw [hx, errV_zero] at kc
  have kl := fun W => last_any x.ch a x.s.length c b x.d.length k W (by omega)
  replace kb := fun W => kb W a c b k
  rw [hx1] at kc kl ⊢
  obtain ⟨W, hWe⟩ : ∃ W : World, W = ((w.alloc (.cells #[.int .i64 1, .int .i64 f, .int .i64 0] 74)).alloc (.cells #[.bool x.ch, .slice a 1 c, .slice b x.d.length k] 24)).alloc (.cells #[.bool false, .slice none 0 0, .slice none 0 0] 24) := ⟨_, rfl⟩
  obtain ⟨bA, bX, bR, sW⟩ := three_boxes _ _ _ _ _ _ _ W hWe
  have hb0 : Below w.heap.size w W := by rw [hWe]; exact push (push (push (start w) _) _) _
  have hWe' := Lib.hid hWe.symm
  replace hWe := Lib.hid hWe
  replace kc := Lib.hid kc
  replace kb := Lib.hid kb
  replace kn := Lib.hid kn
  replace kl := Lib.hid kl
  replace hs := Lib.hid hs
  replace hd := Lib.hid hd
  replace bA := Lib.hid bA
  replace bX := Lib.hid bX
  replace bR := Lib.hid bR
  replace hb0 := Lib.hid hb0
  replace sW := Lib.hid sW
  replace hx1 := Lib.hid hx1
  clear hx l1 l2
  go_enter Tryz.func92, Tryz.ntmps92
  go_wp2_with fail
  rw [hWe'.out]
  refine (kn.out _).mono ?_
  rintro en w1 ⟨rfl, hb1⟩
  have A1 := Lib.hid (bA.out.same (hb1.block _ (by have := sW.out; omega)))
  have X1 := Lib.hid (bX.out.same (hb1.block _ (by have := sW.out; omega)))
  have R1 := Lib.hid (bR.out.same (hb1.block _ (by have := sW.out; omega)))
  have hb01 := Lib.hid (hb0.out.trans (hb1.mono (by have := sW.out; omega)))
  have s1 : Hid (w.heap.size + 1 + 1 < w1.heap.size) := Lib.hid (by have := sW.out; have := hb1.size; omega)
  obtain ⟨y1, -⟩ := X1.out 0 _ rfl
  obtain ⟨y2, -⟩ := X1.out 1 _ rfl
  obtain ⟨y3, -⟩ := X1.out 2 _ rfl
  clear hb1 bA bX bR
  go_wp2_with fail
  refine (kc.out w1 (hs.out.below hb01.out) (hd.out.below hb01.out)).mono ?_
  rintro en w2 ⟨rfl, hb2⟩
  clear y1 y2 y3
  have A2 := Lib.hid (A1.out.same (hb2.block _ (by have := s1.out; omega)))
  have X2 := Lib.hid (X1.out.same (hb2.block _ (by have := s1.out; omega)))
  have R2 := Lib.hid (R1.out.same (hb2.block _ (by have := s1.out; omega)))
  have hb02 := Lib.hid (hb01.out.trans (hb2.mono (by have := s1.out; omega)))
  have s2 : Hid (w.heap.size + 1 + 1 < w2.heap.size) := Lib.hid (by have := s1.out; have := hb2.size; omega)
  obtain ⟨y1, -⟩ := X2.out 0 _ rfl
  obtain ⟨y2, -⟩ := X2.out 1 _ rfl
  obtain ⟨y3, -⟩ := X2.out 2 _ rfl
  clear hb2 A1 X1 R1
  go_wp2_with fail
  refine (kl.out w2).mono ?_
  rintro en w3 ⟨rfl, hb3⟩
  clear y1 y2 y3
  have A3 := A2.out.same (hb3.block _ (by have := s2.out; omega))
  have X3 := X2.out.same (hb3.block _ (by have := s2.out; omega))
  have R3 := Lib.hid (R2.out.same (hb3.block _ (by have := s2.out; omega)))
  have hb03 := Lib.hid (hb02.out.trans (hb3.mono (by have := s2.out; omega)))
  have s3 : Hid (w.heap.size + 1 + 1 < w3.heap.size) := Lib.hid (by have := s2.out; have := hb3.size; omega)
  obtain ⟨y1, -⟩ := X3 0 _ rfl
  obtain ⟨y2, -⟩ := X3 1 _ rfl
  obtain ⟨y3, -⟩ := X3 2 _ rfl
  obtain ⟨y4, -⟩ := A3 0 _ rfl
  obtain ⟨y5, -⟩ := A3 1 _ rfl
  clear hb3 A2 X2 R2 A3 X3
  go_wp2_with fail
  refine (kb.out w3 (hs.out.below hb03.out) (hd.out.below hb03.out)).mono ?_
  intro en w6 hp
  obtain ⟨a5, c5, b5, k5, rfl, r1, r2, f1, f2, hc, hb6⟩ := hp.is_ok rfl
  clear hp y1 y2 y3 y4 y5
  obtain ⟨t0, u0⟩ := (R3.out.same (hb6.block _ s3.out)) 0 _ rfl
  obtain ⟨t1, u1⟩ := (R3.out.same (hb6.block _ s3.out)) 1 _ rfl
  obtain ⟨t2, u2⟩ := (R3.out.same (hb6.block _ s3.out)) 2 _ rfl
  have hfin := Lib.hid (result_any (k := k5) (n0 := w.heap.size + 1 + 1) (by omega) hb03.out s3.out r1 r2 f1 f2 hc hb6)
  clear r1 r2 f1 f2 hc hb6
  go_wp2
  refine bodyPost_ret (v := .tuple #[arrV z.ch a5 z.s.length c5 b5 z.d.length k5, .nilIface]) (by simp [results, Tryz.results92, go_sem, cell?_set_same, arrV, t0, t1, t2]) rfl ?_
  exact hfin.out

end Go.Proofs.YtaplaoelamnoiaaGreatDoor

/- The calls prim.numbers, prim.number, prim.list and radix calls' frames. Condition: arrays of numbers. -/
namespace Go.Proofs.YtaplaoelamnoiaaGreatDoor
open Go.RowKit

set_option maxRecDepth 20000 in
set_option maxHeartbeats 4000000 in
theorem numbers_any (a : Option Addr) (n c : Nat) (b : Option Addr) (m k : Nat) (w : World) (hn : n ≤ 1) :
    Calls Tryz.prog 146 #[arrV false a n c b m k] w fun en w' => en = .returned (.tuple #[.slice b m k, .nilIface]) ∧ Below w.heap.size w w' := by
  have hb := Lib.hid (push (start w) (.cells #[.bool false, .slice a n c, .slice b m k] 24))
  have e0 : decide (1 < ((n : Nat) : Int)) = false := decide_eq_false (by omega)
  go_enter Tryz.func146, Tryz.ntmps146
  go_wp2
  go_ret2
  exact ⟨rfl, hb.out⟩

set_option maxRecDepth 20000 in
set_option maxHeartbeats 4000000 in
theorem pnumber_any (a : Option Addr) (c : Nat) (b : Option Addr) (k : Nat) (v : Int) (w : World) (hd : Row w b [v]) :
    Calls Tryz.prog 109 #[arrV false a 0 c b 1 k] w fun en w' => en = .returned (.tuple #[.int .i64 v, .nilIface]) ∧ Below w.heap.size w w' := by
  obtain ⟨W, hWe⟩ : ∃ W : World, W = w.alloc (.cells #[.bool false, .slice a 0 c, .slice b 1 k] 24) := ⟨_, rfl⟩
  have hb : Below w.heap.size w W := by rw [hWe]; exact push (start w) _
  have X := boxC_alloc w #[.bool false, .slice a 0 c, .slice b 1 k] 24
  rw [← hWe] at X
  obtain ⟨b1, o1, rfl, c1⟩ := (hd.below hb) 0 (by simp)
  obtain ⟨y0, -⟩ := X 0 _ rfl
  obtain ⟨y1, -⟩ := X 1 _ rfl
  obtain ⟨y2, -⟩ := X 2 _ rfl
  simp only [List.getD_cons_zero, Nat.add_zero] at c1
  have hWe' := Lib.hid hWe.symm
  replace hWe := Lib.hid hWe
  replace hb := Lib.hid hb
  replace hd := Lib.hid hd
  clear X
  go_enter Tryz.func109, Tryz.ntmps109
  go_upto_region 1 with fail
  rw [hWe'.out]
  go_wp2
  go_ret2
  exact ⟨rfl, hb.out⟩

set_option maxRecDepth 20000 in
set_option maxHeartbeats 4000000 in
theorem plist_any (b : Option Addr) (l : List Int) (m k : Nat) (w : World) (hd : Row w b l) (hm : m = l.length) :
    Calls Tryz.prog 154 #[.slice b m k] w fun en w' => ∃ g : Nat, en = .returned (arrV false (some ⟨g, 0, none⟩) 1 1 b m k) ∧ w.heap.size ≤ g ∧ Row w' (some ⟨g, 0, none⟩) [(l.length : Int)] ∧ Row w' b l ∧ Below w.heap.size w w' := by
  subst hm
  replace hd := Lib.hid hd
  go_enter Tryz.func154, Tryz.ntmps154
  go_wp2
  have hb := push (push (start w) (.cells #[.bool false, .slice (some ⟨w.heap.size + 1, 0, none⟩) 1 1, .slice b l.length k] 24)) (.cells #[.int .i64 (l.length : Int)] 3)
  refine bodyPost_ret (v := arrV false (some ⟨w.heap.size + 1, 0, none⟩) 1 1 b l.length k) (by simp [results, Tryz.results154, go_sem, arrV]) rfl ?_
  exact ⟨w.heap.size + 1, rfl, by omega, row_one (by simp [go_sem]), hd.out.below hb, hb⟩
end Go.Proofs.YtaplaoelamnoiaaGreatDoor

/- A list's soundness; one name with its value. No condition. -/
namespace Go.Proofs.YtaplaoelamnoiaaGreatDoor
open Go.RowKit

theorem list_flaw' {d : List Int} (h : d.length ≤ 4096) : M.flaw false [(d.length : Int)] d = 0 := by
  have hb : M.badLen [(d.length : Int)] = 0 := by
    unfold M.badLen M.badLen
    rw [if_neg (by omega), if_neg (by omega)]
  have hc : M.count [(d.length : Int)] = .ok (d.length : Int) := by
    unfold M.count
    rw [if_neg (by simp), if_neg (by rw [hb]; simp)]
    by_cases h0 : (0 : Int) ∈ [(d.length : Int)]
    · rw [if_pos h0]
      simp only [List.mem_cons, List.not_mem_nil, or_false] at h0
      rw [← h0]
    · rw [if_neg h0]
      unfold M.mulUp M.mulUp
      rw [Int.one_mul, if_neg (by omega)]
  unfold M.flaw
  rw [hc]
  simp
theorem wsOk_one1 (b : Bd) (h : M.nameOk b.name) (hs : b.name.size ≤ 100) (hf : M.flaw b.x.ch b.x.s b.x.d = 0) : WsOk [b] := by
  refine ⟨by simp, fun b' hb => ?_, fun i j b1 b2 hi hj hij => ?_⟩
  · simp only [List.mem_cons, List.not_mem_nil, or_false] at hb
    rw [hb]; exact ⟨h, hs, hf⟩
  · have hj2 := (List.getElem?_eq_some_iff.1 hj).1
    simp at hj2
    omega
theorem wsAt_one1 {w : World} {nm : ByteArray} {a : Option Addr} {c : Nat} {b : Option Addr} {k : Nat} {x : Arr} (r1 : Row w a x.s) (r2 : Row w b x.d) (hk : x.d.length ≤ k) :
    WsAt (some ⟨w.heap.size, 0, none⟩) [⟨nm, x⟩] (w.alloc (.cells #[.string nm, .bool x.ch, .slice a x.s.length c, .slice b x.d.length k] 33)) := by
  have bW := boxC_alloc w #[.string nm, .bool x.ch, .slice a x.s.length c, .slice b x.d.length k] 33
  intro i bd hi
  match i, hi with
  | 0, hi => cases hi; exact ⟨_, a, c, b, k, rfl, (bW 0 _ rfl).1, (bW 1 _ rfl).1, (bW 2 _ rfl).1, (bW 3 _ rfl).1, r1.alloc _, r2.alloc _, hk⟩
  | i + 1, hi => simp at hi
end Go.Proofs.YtaplaoelamnoiaaGreatDoor
