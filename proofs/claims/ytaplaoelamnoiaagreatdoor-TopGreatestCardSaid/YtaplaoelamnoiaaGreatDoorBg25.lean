/- Texts that lie in one file: what is plain, rows, boxes, squares, and what is known of a world. No condition. -/
import Derived.Test.YtaplaoelamnoiaaGreatDoorBg24
import Derived.RegionTactic
import Derived.BigRegion
import Derived.Deep.Cut
import Derived.BigQuiet
import Derived.Deep.QuietTactic
import Derived.Test.YtaplaoelamnoiaaGreatDoorBg26
/- The library's insertionSortCmpFunc on ints, by a comparison of their keys. Condition: a part of a row of indices, at most 4096 cells. -/
namespace Go.Proofs.YtaplaoelamnoiaaGreatDoor
open Go.RowKit

/-- What the comparison of two numbers tells. -/
def cmp3 (a b : Int) : Int := if a < b then -1 else if b < a then 1 else 0
theorem cmp3_lt {a b : Int} (h : a < b) : cmp3 a b < 0 := by unfold cmp3; rw [if_pos h]; decide
theorem cmp3_ge {a b : Int} (h : b ≤ a) : ¬ cmp3 a b < 0 := by
  unfold cmp3
  rw [if_neg (by omega)]
  by_cases h' : b < a
  · rw [if_pos h']; decide
  · rw [if_neg h']; decide
/-- The comparison, as a contract: of two indices it tells which key comes first. -/
def CmpOk (w0 : World) (g n : Nat) (key : Int → Int) (p q : Value) : Prop := ∀ (i j : Int) (W : World), 0 ≤ i → i < n → 0 ≤ j → j < n → But g w0 W → Below g w0 W →
  Calls Tryz.prog 235 #[.int .i64 i, .int .i64 j, p, q] W fun e W' => e = .returned (.int .i64 (cmp3 (key i) (key j))) ∧ ∃ k, W' = W.drewN k
/-- All cells are indices. -/
def InR (n : Nat) (f : Nat → Int) : Prop := ∀ p, p < n → 0 ≤ f p ∧ f p < n
theorem InR.mv {n a b : Nat} {f f' : Nat → Int} (h : InR n f) (m : Mv a b f f') (hb : b ≤ n) : InR n f' := fun p hp => by
  obtain ⟨q, _, h2, e⟩ := (m.mono (Nat.zero_le a) hb).fwd p (Nat.zero_le _) hp
  rw [e]; exact h q h2
theorem Srt.low {key : Int → Int} {f : Nat → Int} {a b b' : Nat} (h : Srt key f a b') (hb : b ≤ b') : Srt key f a b := fun p q h1 h2 h3 => h p q h1 h2 (by omega)

set_option maxRecDepth 20000 in
set_option maxHeartbeats 4000000 in
theorem isort_any (w0 : World) (g n c : Nat) (f : Nat → Int) (a b : Nat) (key : Int → Int) (p q : Value) (hC : CmpOk w0 g n key p q) (w : World) (h : SRel w0 g n f w) (hin : InR n f) (hst : St key f 0 n) (hab : a ≤ b) (hb : b ≤ n) (h4 : n ≤ 4096) :
    Calls Tryz.prog 240 #[.slice (some ⟨g, 0, none⟩) n c, .int .i64 a, .int .i64 b, .func (.func 235) #[] #[p, q]] w fun e w' => e = .returned (.tuple #[]) ∧ ∃ f', SRel w0 g n f' w' ∧ Mv a b f f' ∧ Srt key f' a b ∧ St key f' 0 n := by
  replace h := Lib.hid h
  replace hin := Lib.hid hin
  replace hst := Lib.hid hst
  replace hC := Lib.hid hC
  go_enter Tryz.func240, Tryz.ntmps240
  go_wp2
  go_loopw [8] (fun vi wr => ∃ (i : Nat) (d : Nat → Int), vi = .int .i64 i ∧ a + 1 ≤ i ∧ (i ≤ b ∨ i = a + 1) ∧ SRel w0 g n d wr ∧ Mv a b f d ∧ Srt key d a i ∧ St key d 0 n) (fun vi _ => b - (intOf vi).toNat)
  case atStart => exact ⟨a + 1, f, by go_num, Nat.le_refl _, .inr rfl, h.out, Mv.refl _ _ _, Srt.none (Nat.le_refl _), hst.out⟩
  case round =>
    obtain ⟨i, d, rfl, hai, hib, hR, hM, hS, hT⟩ := hrel
    replace hT := Lib.hid hT
    by_cases hlt : i < b
    · have hH0 := Lib.hid (hole_start (key := key) (i := i) hS)
      replace hR := Lib.hid hR
      replace hM := Lib.hid hM
      replace hS := Lib.hid hS
      go_wp2
      go_loopw [9] (fun vj wr => ∃ (j : Nat) (d : Nat → Int), vj = .int .i64 j ∧ a ≤ j ∧ j ≤ i ∧ SRel w0 g n d wr ∧ Mv a b f d ∧ Hole key d a i j ∧ St key d 0 n) (fun vj _ => (intOf vj).toNat)
      case atStart => exact ⟨i, d, rfl, by omega, Nat.le_refl _, hR.out, hM.out, hH0.out, hT.out⟩
      case round =>
        clear hR hM hS hH0 hT
        obtain ⟨j, e, rfl, haj, hji, hR, hM, hH, hT⟩ := hrel
        replace hT := Lib.hid hT
        by_cases hja : j = a
        · have hE := Lib.hid (hole_end hH hji (.inl hja))
          have t1 : decide (((a : Nat) : Int) < ((j : Nat) : Int)) = false := decide_eq_false (by omega)
          replace hR := Lib.hid hR
          replace hM := Lib.hid hM
          replace hH := Lib.hid hH
          go_upto_region 4 with fail
          go_quiet (fail)
          have hR2 := Lib.hid (hR.out.drew nq)
          go_wp2
          go_roundw
          case rel => exact ⟨i + 1, e, by go_num, by omega, .inl hlt, hR2.out, hM.out, hE.out, hT.out⟩
          case measure => simp [intOf]; omega
        · obtain ⟨k, rfl⟩ : ∃ k, j = k + 1 := ⟨j - 1, by omega⟩
          have hk : k + 1 < n := by omega
          have c1 := hR.row (k + 1) hk
          have c2 := hR.row k (by omega)
          have hin2 := hin.out.mv hM hb
          have hc := hC.out (e (k + 1)) (e k)
          have h1 := hin2 (k + 1) hk
          have h2 := hin2 k (by omega)
          have hs := Lib.hid (fun (hlt : key (e (k + 1)) < key (e k)) => hole_step (by omega) hji hH hlt)
          have he := Lib.hid (fun (hge : ¬ key (e (k + 1)) < key (e k)) => hole_end hH hji (.inr ⟨k, rfl, by omega⟩))
          have ht := Lib.hid (fun (hlt : key (e (k + 1)) < key (e k)) => st_step hT.out hk hlt)
          have hm := Lib.hid (hM.trans (mv_sw e (i := k + 1) (j := k) (by omega) (by omega)))
          have kc := Lib.hid (fun W h3 h4 => hc W h1.1 h1.2 h2.1 h2.2 h3 h4)
          clear hc hin2
          have t1 : decide (((a : Nat) : Int) < ((k : Nat) : Int) + 1) = true := decide_eq_true (by omega)
          have z1 : (((k : Nat) : Int) + 1).toNat = k + 1 := by omega
          have z2 : ((k : Nat) : Int) + 1 - 1 = ((k : Nat) : Int) := by omega
          have l0 : (0 : Int) ≤ ((k : Nat) : Int) + 1 := by omega
          have l1 : ((k : Nat) : Int) + 1 < (n : Int) := by omega
          have l2 : ((k : Nat) : Int) < (n : Int) := by omega
          replace hM := Lib.hid hM
          replace hH := Lib.hid hH
          have hR0 := Lib.hid hR
          by_cases hlt2 : key (e (k + 1)) < key (e k)
          · have hs1 := Lib.hid (hs.out hlt2)
            have ht1 := Lib.hid (ht.out hlt2)
            have r0 := cmp3_lt hlt2
            generalize hx1 : e (k + 1) = x1 at *
            generalize hx2 : e k = x2 at *
            replace hx1 := Lib.hid hx1
            replace hx2 := Lib.hid hx2
            generalize cmp3 (key x1) (key x2) = r at *
            have t2 : decide (r < 0) = true := decide_eq_true r0
            replace hlt2 := Lib.hid hlt2
            clear hR
            go_upto_region 4 with fail
            go_quiet ((go_at_call 235; exact Calls.quiet_of (kc.out _ hR0.out.but (below_drewN hR0.out.bel _))))
            have hR2 := hR0.out.drew nq
            generalize wr.drewN nq = wz at *
            have hw := (hR2.swap (i := k + 1) (j := k) hk (by omega)).drew 1
            have d1 := hR2.row (k + 1) hk
            have d2 := hR2.row k (by omega)
            have f1 := hR2.fz (k + 1)
            have f2 := hR2.fz k
            rw [hx1.out, hx2.out] at hw
            rw [hx1.out] at d1
            rw [hx2.out] at d2
            replace hw := Lib.hid hw
            clear c1 c2 hR2 hR0
            go_upto_region 6 with fail
            go_region
            go_wp2
            go_roundw
            case rel => exact ⟨k, _, by go_num, by omega, by omega, hw.out, hm.out, hs1.out, ht1.out⟩
            case measure => simp [intOf]
          · have hE := Lib.hid (he.out hlt2)
            have r0 := cmp3_ge (show key (e k) ≤ key (e (k + 1)) by omega)
            generalize hx1 : e (k + 1) = x1 at *
            generalize hx2 : e k = x2 at *
            replace hx1 := Lib.hid hx1
            replace hx2 := Lib.hid hx2
            generalize cmp3 (key x1) (key x2) = r at *
            have t2 : decide (r < 0) = false := decide_eq_false r0
            replace hlt2 := Lib.hid hlt2
            clear hR
            go_upto_region 4 with fail
            go_quiet ((go_at_call 235; exact Calls.quiet_of (kc.out _ hR0.out.but (below_drewN hR0.out.bel _))))
            have hR2 := Lib.hid (hR0.out.drew nq)
            clear c1 c2
            go_wp2
            go_roundw
            case rel => exact ⟨i + 1, e, by go_num, by omega, .inl hlt, hR2.out, hM.out, hE.out, hT.out⟩
            case measure => simp [intOf]; omega
    · replace hR := Lib.hid hR
      replace hM := Lib.hid hM
      replace hS := Lib.hid hS
      have t1 : decide (((i : Nat) : Int) < ((b : Nat) : Int)) = false := decide_eq_false (by omega)
      go_wp2
      refine bodyPost_end (results_none rfl _ _ _) rfl ?_
      exact ⟨rfl, d, hR.out, hM.out, hS.out.low (by omega), hT.out⟩
end Go.Proofs.YtaplaoelamnoiaaGreatDoor

/- The library's cmp.Compare on ints, and slices.Compare on slices of one int. No condition. -/
namespace Go.Proofs.YtaplaoelamnoiaaGreatDoor
open Go.RowKit

set_option maxRecDepth 20000 in
set_option maxHeartbeats 4000000 in
theorem isnan_any (x : Int) (w : World) : Calls Tryz.prog 239 #[.int .i64 x] w fun e w' => e = .returned (.bool false) ∧ w' = w := by
  have t0 : (x == x) = true := by rw [beq_iff_eq]
  go_enter Tryz.func239, Tryz.ntmps239
  go_wp2
  go_ret
  exact ⟨rfl, rfl⟩
set_option maxRecDepth 20000 in
set_option maxHeartbeats 4000000 in
theorem cmp_any (x y : Int) (w : World) : Calls Tryz.prog 236 #[.int .i64 x, .int .i64 y] w fun e w' => e = .returned (.int .i64 (cmp3 x y)) ∧ w' = w := by
  have kx := fun W => isnan_any x W
  have ky := fun W => isnan_any y W
  replace kx := Lib.hid kx
  replace ky := Lib.hid ky
  by_cases h1 : x < y
  · have e1 := Lib.hid (show cmp3 x y = -1 by unfold cmp3; rw [if_pos h1])
    have t1 : decide (x < y) = true := decide_eq_true h1
    replace h1 := Lib.hid h1
    go_enter Tryz.func236, Tryz.ntmps236
    go_wp2_with fail
    refine (kx.out w).mono ?_
    rintro e w1 ⟨rfl, hw⟩
    subst hw
    go_wp2_with fail
    refine (ky.out w1).mono ?_
    rintro e w2 ⟨rfl, hw⟩
    subst hw
    go_wp2
    go_ret
    exact ⟨by rw [e1.out]; rfl, rfl⟩
  · have t1 : decide (x < y) = false := decide_eq_false h1
    by_cases h2 : y < x
    · have e1 := Lib.hid (show cmp3 x y = 1 by unfold cmp3; rw [if_neg h1, if_pos h2])
      have t2 : decide (y < x) = true := decide_eq_true h2
      replace h1 := Lib.hid h1
      replace h2 := Lib.hid h2
      go_enter Tryz.func236, Tryz.ntmps236
      go_wp2_with fail
      refine (kx.out w).mono ?_
      rintro e w1 ⟨rfl, hw⟩
      subst hw
      go_wp2_with fail
      refine (ky.out w1).mono ?_
      rintro e w2 ⟨rfl, hw⟩
      subst hw
      go_wp2
      go_ret
      exact ⟨by rw [e1.out]; rfl, rfl⟩
    · have e1 := Lib.hid (show cmp3 x y = 0 by unfold cmp3; rw [if_neg h1, if_neg h2])
      have t2 : decide (y < x) = false := decide_eq_false h2
      replace h1 := Lib.hid h1
      replace h2 := Lib.hid h2
      go_enter Tryz.func236, Tryz.ntmps236
      go_wp2_with fail
      refine (kx.out w).mono ?_
      rintro e w1 ⟨rfl, hw⟩
      subst hw
      go_wp2_with fail
      refine (ky.out w1).mono ?_
      rintro e w2 ⟨rfl, hw⟩
      subst hw
      go_wp2
      go_ret
      exact ⟨by rw [e1.out]; rfl, rfl⟩

set_option maxRecDepth 20000 in
set_option maxHeartbeats 4000000 in
theorem compare_one (b1 o1 b2 o2 c1 c2 : Nat) (x y : Int) (w : World) (hx : w.cell? ⟨b1, o1, none⟩ = some (.int .i64 x)) (hy : w.cell? ⟨b2, o2, none⟩ = some (.int .i64 y)) :
    Calls Tryz.prog 216 #[.slice (some ⟨b1, o1, none⟩) 1 c1, .slice (some ⟨b2, o2, none⟩) 1 c2] w fun e w' => e = .returned (.int .i64 (cmp3 x y)) ∧ w' = w := by
  have kc := Lib.hid (fun W => cmp_any x y W)
  have h3 : cmp3 x y = -1 ∨ cmp3 x y = 0 ∨ cmp3 x y = 1 := by
    unfold cmp3
    by_cases h1 : x < y
    · rw [if_pos h1]; exact .inl rfl
    · rw [if_neg h1]
      by_cases h2 : y < x
      · rw [if_pos h2]; exact .inr (.inr rfl)
      · rw [if_neg h2]; exact .inr (.inl rfl)
  generalize cmp3 x y = r at *
  replace h3 := Lib.hid h3
  go_enter Tryz.func216, Tryz.ntmps216
  go_wp2
  go_loopw [11] (fun vi wr => wr = w ∧ (vi = .int .i64 0 ∨ (vi = .int .i64 1 ∧ r = 0))) (fun vi _ => 1 - (intOf vi).toNat)
  case atStart => exact ⟨rfl, .inl rfl⟩
  case round =>
    obtain ⟨rfl, hi⟩ := hrel
    rcases hi with rfl | ⟨rfl, rfl⟩
    · go_wp2_with fail
      refine (kc.out wr).mono ?_
      rintro e w1 ⟨rfl, hw⟩
      subst hw
      rcases h3.out with rfl | rfl | rfl
      · go_wp2
        go_ret
        exact ⟨rfl, rfl⟩
      · go_wp2
        go_roundw
        case rel => exact ⟨by first | rfl | trivial, .inr ⟨by go_num, by first | rfl | trivial⟩⟩
        case measure => simp [intOf]
      · go_wp2
        go_ret
        exact ⟨rfl, rfl⟩
    · go_wp2
      go_ret
      exact ⟨rfl, rfl⟩
end Go.Proofs.YtaplaoelamnoiaaGreatDoor

/- The closure of grade's order: which of two rows comes first. Condition: rows of one cell each. -/
namespace Go.Proofs.YtaplaoelamnoiaaGreatDoor
open Go.RowKit

theorem cell_of_eq1 {w v : World} {b : Nat} (h : v.heap[b]? = w.heap[b]?) (o : Nat) : v.cell? ⟨b, o, none⟩ = w.cell? ⟨b, o, none⟩ := World.cell?_of_block (w := w) h
/-- Rows of one cell each, as pieces of a list's cells. -/
structure Rows1 (gr bd od n k : Nat) (d : List Int) (w : World) : Prop where
  row : ∀ i, i < n → w.cell? ⟨gr, i, none⟩ = some (.slice (some ⟨bd, od + i, none⟩) 1 (k - i))
  cell : ∀ i, i < n → w.cell? ⟨bd, od + i, none⟩ = some (.int .i64 (d.getD i 0))
/-- What the closure holds on to. -/
structure Caps (Bc Br gr n : Nat) (w : World) : Prop where
  cmp : w.cell? ⟨Bc, 0, none⟩ = some (.func (.func 216) #[] #[])
  rows : w.cell? ⟨Br, 0, none⟩ = some (.slice (some ⟨gr, 0, none⟩) n n)

set_option maxRecDepth 20000 in
set_option maxHeartbeats 4000000 in
theorem order1_any (Bc Br gr bd od n k : Nat) (d : List Int) (W : World) (hR : Rows1 gr bd od n k d W) (hC : Caps Bc Br gr n W) (i j : Nat) (hi : i < n) (hj : j < n) (h4 : n ≤ 4096) :
    Calls Tryz.prog 235 #[.int .i64 i, .int .i64 j, .pointer (some ⟨Bc, 0, none⟩), .pointer (some ⟨Br, 0, none⟩)] W fun e W' => e = .returned (.int .i64 (cmp3 (d.getD i 0) (d.getD j 0))) ∧ ∃ k, W' = W.drewN k := by
  have c1 := hR.row i hi
  have c2 := hR.row j hj
  have kc := fun m => compare_one bd (od + i) bd (od + j) (k - i) (k - j) (d.getD i 0) (d.getD j 0) (W.drewN m) (hR.cell i hi) (hR.cell j hj)
  have c3 := hC.cmp
  have c4 := hC.rows
  have l1 : (i : Int) < (n : Int) := by omega
  have l2 : (j : Int) < (n : Int) := by omega
  generalize cmp3 (d.getD i 0) (d.getD j 0) = r at *
  generalize k - i = k1 at *
  generalize k - j = k2 at *
  replace kc := Lib.hid kc
  clear hR hC
  go_enter Tryz.func235, Tryz.ntmps235
  go_upto_region 1 with fail
  go_quiet ((go_at_call 216; exact Calls.quiet_of_same (kc.out _)))
  go_wp2
  go_ret
  exact ⟨rfl, _, rfl⟩
/-- The key of an index: the list's cell. -/
abbrev keyD (d : List Int) (v : Int) : Int := d.getD v.toNat 0
theorem cmpOk_of {w0 : World} {g Bc Br gr bd od n k : Nat} {d : List Int} (hR : Rows1 gr bd od n k d w0) (hC : Caps Bc Br gr n w0) (h1 : gr ≠ g) (h2 : bd ≠ g) (h3 : Bc ≠ g) (h5 : Br ≠ g) (h4 : n ≤ 4096) :
    CmpOk w0 g n (keyD d) (.pointer (some ⟨Bc, 0, none⟩)) (.pointer (some ⟨Br, 0, none⟩)) := by
  intro i j W hi0 hin hj0 hjn hb _
  have get : ∀ {b o : Nat} {v : Value}, b ≠ g → w0.cell? ⟨b, o, none⟩ = some v → W.cell? ⟨b, o, none⟩ = some v := fun hne hc => (cell_of_eq1 (hb _ (World.block_lt_of_cell? w0 _ hc) hne) _).trans hc
  obtain ⟨i', rfl⟩ : ∃ m : Nat, i = (m : Int) := ⟨i.toNat, by omega⟩
  obtain ⟨j', rfl⟩ : ∃ m : Nat, j = (m : Int) := ⟨j.toNat, by omega⟩
  have h := order1_any Bc Br gr bd od n k d W ⟨fun i hi => get h1 (hR.row i hi), fun i hi => get h2 (hR.cell i hi)⟩ ⟨get h3 hC.cmp, get h5 hC.rows⟩ i' j' (by omega) (by omega) h4
  simpa using h
end Go.Proofs.YtaplaoelamnoiaaGreatDoor

/- The library's symMergeCmpFunc on ints where the first part has one cell. Condition: a sorted part of a row of indices, at most 4096 cells. -/
namespace Go.Proofs.YtaplaoelamnoiaaGreatDoor
open Go.RowKit

set_option maxRecDepth 20000 in
set_option maxHeartbeats 4000000 in
theorem symup_any (w0 : World) (g n c : Nat) (f : Nat → Int) (a m b : Nat) (key : Int → Int) (p q : Value) (hC : CmpOk w0 g n key p q) (w : World) (h : SRel w0 g n f w) (hin : InR n f) (hst : St key f 0 n) (hm : m = a + 1) (hmb : m < b) (hb : b ≤ n) (h4 : n ≤ 4096) (hs : Srt key f (a + 1) b) :
    Calls Tryz.prog 241 #[.slice (some ⟨g, 0, none⟩) n c, .int .i64 a, .int .i64 m, .int .i64 b, .func (.func 235) #[] #[p, q]] w fun e w' => e = .returned (.tuple #[]) ∧ ∃ f', SRel w0 g n f' w' ∧ Mv a b f f' ∧ Srt key f' a b ∧ St key f' 0 n := by
  have t0 : (((m : Int) - (a : Int)) == 1) = true := by rw [beq_iff_eq]; omega
  have ham : a < m := by omega
  replace hm := Lib.hid hm
  replace h := Lib.hid h
  replace hin := Lib.hid hin
  replace hst := Lib.hid hst
  replace hC := Lib.hid hC
  replace hs := Lib.hid hs
  go_enter Tryz.func241, Tryz.ntmps241
  go_wp2
  go_loopw [10, 11] (fun vi vj wr => ∃ i j : Nat, vi = .int .i64 i ∧ vj = .int .i64 j ∧ m ≤ i ∧ i ≤ j ∧ j ≤ b ∧ (m < i → key (f (i - 1)) < key (f a)) ∧ (j < b → key (f a) ≤ key (f j)) ∧ SRel w0 g n f wr) (fun vi vj _ => (intOf vj).toNat - (intOf vi).toNat)
  case atStart => exact ⟨m, b, rfl, rfl, Nat.le_refl _, by omega, Nat.le_refl _, fun h => absurd h (by omega), fun h => absurd h (by omega), h.out⟩
  case round =>
    obtain ⟨i, j, rfl, rfl, hmi, hij, hjb, hl, hr, hR⟩ := hrel
    by_cases hlt : i < j
    · obtain ⟨x, hx⟩ : ∃ x, x = (i + j) / 2 := ⟨_, rfl⟩
      have hh : ((i : Int) + (j : Int)) / 2 = (x : Int) := by omega
      have hix : i ≤ x := by omega
      have hxj : x < j := by omega
      have c1 := hR.row x (by omega)
      have c2 := hR.row a (by omega)
      have r1 := hin.out x (by omega)
      have r2 := hin.out a (by omega)
      have kc := Lib.hid (fun W h3 h4 => hC.out (f x) (f a) W r1.1 r1.2 r2.1 r2.2 h3 h4)
      have l0 : (x : Int) < (n : Int) := by omega
      have l1 : (a : Int) < (n : Int) := by omega
      clear r1 r2 hx
      replace hl := Lib.hid hl
      replace hr := Lib.hid hr
      replace hR := Lib.hid hR
      go_upto_region 5 with fail
      replace hh := Lib.hid hh
      by_cases hlt2 : key (f x) < key (f a)
      · have r0 := cmp3_lt hlt2
        have hl2 : Hid (m < x + 1 → key (f (x + 1 - 1)) < key (f a)) := Lib.hid (fun _ => by rw [Nat.add_sub_cancel]; exact hlt2)
        generalize hx1 : f x = x1 at *
        generalize hx2 : f a = x2 at *
        replace hx1 := Lib.hid hx1
        replace hx2 := Lib.hid hx2
        generalize cmp3 (key x1) (key x2) = r at *
        have t2 : decide (r < 0) = true := decide_eq_true r0
        replace hlt2 := Lib.hid hlt2
        go_quiet ((go_at_call 235; exact Calls.quiet_of (kc.out _ hR.out.but (below_drewN hR.out.bel _))))
        have hR2 := Lib.hid (hR.out.drew nq)
        clear c1 c2
        go_wp2
        go_roundw
        case rel => exact ⟨x + 1, j, by go_num, rfl, by omega, hxj, hjb, by first | exact hl2.out | (rw [hx2.out]; exact hl2.out), by first | exact hr.out | (rw [hx2.out]; exact hr.out), hR2.out⟩
        case measure => simp [intOf]; omega
      · have r0 := cmp3_ge (show key (f a) ≤ key (f x) by omega)
        have hr2 : Hid (x < b → key (f a) ≤ key (f x)) := Lib.hid (fun _ => by omega)
        generalize hx1 : f x = x1 at *
        generalize hx2 : f a = x2 at *
        replace hx1 := Lib.hid hx1
        replace hx2 := Lib.hid hx2
        generalize cmp3 (key x1) (key x2) = r at *
        have t2 : decide (r < 0) = false := decide_eq_false r0
        replace hlt2 := Lib.hid hlt2
        go_quiet ((go_at_call 235; exact Calls.quiet_of (kc.out _ hR.out.but (below_drewN hR.out.bel _))))
        have hR2 := Lib.hid (hR.out.drew nq)
        clear c1 c2
        go_wp2
        go_roundw
        case rel => exact ⟨i, x, rfl, by go_num, hmi, hix, by omega, by first | exact hl.out | (rw [hx2.out]; exact hl.out), by rw [hx1.out]; first | exact hr2.out | (rw [hx2.out]; exact hr2.out), hR2.out⟩
        case measure => simp [intOf]; omega
    · obtain rfl : i = j := by omega
      have hS := Lib.hid (sym_up hs.out (show a < i by omega) hjb (fun h => hl (by have := hm.out; omega)) hr)
      have hT := Lib.hid (st_up hst.out hs.out (show a < i by omega) hjb hb (fun h => hl (by have := hm.out; omega)))
      have hM := Lib.hid (mv_up (f := f) (a := a) (k := i - 1) (b := b) (by omega) (by omega))
      have h0 := Lib.hid (hR.same fun p _ => mvUp_zero f a p)
      have hi1 : ((i : Nat) : Int) - 1 = ((i - 1 : Nat) : Int) := by omega
      obtain ⟨y, hy⟩ : ∃ y, y = i - 1 := ⟨_, rfl⟩
      rw [← hy] at hS hT hM hi1
      have hay : a ≤ y := by omega
      have hyn : y < n := by omega
      replace hl := Lib.hid hl
      replace hr := Lib.hid hr
      replace hy := Lib.hid hy
      clear hR
      have t1 : decide (((i : Nat) : Int) < ((i : Nat) : Int)) = false := decide_eq_false (by omega)
      go_wp2
      go_loopw [13] (fun vk wr => ∃ k : Nat, vk = .int .i64 k ∧ a ≤ k ∧ k ≤ y ∧ SRel w0 g n (mvUp f a k) wr) (fun vk _ => y - (intOf vk).toNat)
      case atStart => exact ⟨a, rfl, Nat.le_refl _, hay, h0.out⟩
      case round =>
        clear h0
        obtain ⟨k, rfl, hak, hky, hR⟩ := hrel
        by_cases hlt : k < y
        · have c1 := hR.row k (by omega)
          have c2 := hR.row (k + 1) (by omega)
          have f1 := hR.fz k
          have f2 := hR.fz (k + 1)
          have hw := ((hR.swap (i := k) (j := k + 1) (by omega) (by omega)).drew 1).same (f' := mvUp f a (k + 1)) fun p _ => (mvUp_step f a k p hak).symm
          generalize mvUp f a k k = x1 at *
          generalize mvUp f a k (k + 1) = x2 at *
          have z1 : (((k : Nat) : Int) + 1).toNat = k + 1 := by omega
          have l0 : (0 : Int) ≤ ((k : Nat) : Int) + 1 := by omega
          have l1 : ((k : Nat) : Int) + 1 < (n : Int) := by omega
          have l2 : ((k : Nat) : Int) < (n : Int) := by omega
          have t2 : decide (((k : Nat) : Int) < ((i : Nat) : Int) - 1) = true := decide_eq_true (by omega)
          have t3 : decide (((k : Nat) : Int) < ((y : Nat) : Int)) = true := decide_eq_true (by omega)
          replace hw := Lib.hid hw
          replace hR := Lib.hid hR
          go_upto_region 11 with fail
          go_region
          go_wp2
          go_roundw
          case rel => exact ⟨k + 1, by go_num, by omega, hlt, hw.out⟩
          case measure => simp [intOf]; omega
        · obtain rfl : k = y := by omega
          have t2 : decide (((k : Nat) : Int) < ((i : Nat) : Int) - 1) = false := decide_eq_false (by omega)
          have t3 : decide (((k : Nat) : Int) < ((k : Nat) : Int)) = false := decide_eq_false (by omega)
          replace hR := Lib.hid hR
          go_wp2
          refine bodyPost_ret (v := .tuple #[]) (results_none rfl _ _ _) rfl ?_
          exact ⟨rfl, _, hR.out, hM.out, hS.out, hT.out⟩
end Go.Proofs.YtaplaoelamnoiaaGreatDoor

/- The library's symMergeCmpFunc on ints where the second part has one cell. Condition: a sorted part of a row of indices, at most 4096 cells. -/
namespace Go.Proofs.YtaplaoelamnoiaaGreatDoor
open Go.RowKit

set_option maxRecDepth 20000 in
set_option maxHeartbeats 4000000 in
theorem symdn_any (w0 : World) (g n c : Nat) (f : Nat → Int) (a m b : Nat) (key : Int → Int) (p q : Value) (hC : CmpOk w0 g n key p q) (w : World) (h : SRel w0 g n f w) (hin : InR n f) (hst : St key f 0 n) (hm : a + 1 < m) (hmb : b = m + 1) (hb : b ≤ n) (h4 : n ≤ 4096) (hs : Srt key f a m) :
    Calls Tryz.prog 241 #[.slice (some ⟨g, 0, none⟩) n c, .int .i64 a, .int .i64 m, .int .i64 b, .func (.func 235) #[] #[p, q]] w fun e w' => e = .returned (.tuple #[]) ∧ ∃ f', SRel w0 g n f' w' ∧ Mv a b f f' ∧ Srt key f' a b ∧ St key f' 0 n := by
  have t0 : (((m : Int) - (a : Int)) == 1) = false := by rw [beq_eq_false_iff_ne]; omega
  have t00 : (((b : Int) - (m : Int)) == 1) = true := by rw [beq_iff_eq]; omega
  have hmn : m < n := by omega
  replace hmb := Lib.hid hmb
  replace h := Lib.hid h
  replace hin := Lib.hid hin
  replace hst := Lib.hid hst
  replace hC := Lib.hid hC
  replace hs := Lib.hid hs
  go_enter Tryz.func241, Tryz.ntmps241
  go_wp2
  go_loopw [14, 15] (fun vi vj wr => ∃ i j : Nat, vi = .int .i64 i ∧ vj = .int .i64 j ∧ a ≤ i ∧ i ≤ j ∧ j ≤ m ∧ (a < i → key (f (i - 1)) ≤ key (f m)) ∧ (j < m → key (f m) < key (f j)) ∧ SRel w0 g n f wr) (fun vi vj _ => (intOf vj).toNat - (intOf vi).toNat)
  case atStart => exact ⟨a, m, rfl, rfl, Nat.le_refl _, by omega, Nat.le_refl _, fun h => absurd h (by omega), fun h => absurd h (by omega), h.out⟩
  case round =>
    obtain ⟨i, j, rfl, rfl, hmi, hij, hjb, hl, hr, hR⟩ := hrel
    by_cases hlt : i < j
    · obtain ⟨x, hx⟩ : ∃ x, x = (i + j) / 2 := ⟨_, rfl⟩
      have hh : ((i : Int) + (j : Int)) / 2 = (x : Int) := by omega
      have hix : i ≤ x := by omega
      have hxj : x < j := by omega
      have c1 := hR.row x (by omega)
      have c2 := hR.row m (by omega)
      have r1 := hin.out x (by omega)
      have r2 := hin.out m (by omega)
      have kc := Lib.hid (fun W h3 h4 => hC.out (f m) (f x) W r2.1 r2.2 r1.1 r1.2 h3 h4)
      have l0 : (x : Int) < (n : Int) := by omega
      have l1 : (m : Int) < (n : Int) := by omega
      clear r1 r2 hx
      replace hl := Lib.hid hl
      replace hr := Lib.hid hr
      replace hR := Lib.hid hR
      go_upto_region 17 with fail
      replace hh := Lib.hid hh
      by_cases hlt2 : key (f m) < key (f x)
      · have r0 := cmp3_lt hlt2
        have hr2 : Hid (x < m → key (f m) < key (f x)) := Lib.hid (fun _ => hlt2)
        generalize hx1 : f x = x1 at *
        generalize hx2 : f m = x2 at *
        replace hx1 := Lib.hid hx1
        replace hx2 := Lib.hid hx2
        generalize cmp3 (key x2) (key x1) = r at *
        have t2 : decide (r < 0) = true := decide_eq_true r0
        replace hlt2 := Lib.hid hlt2
        go_quiet ((go_at_call 235; exact Calls.quiet_of (kc.out _ hR.out.but (below_drewN hR.out.bel _))))
        have hR2 := Lib.hid (hR.out.drew nq)
        clear c1 c2
        go_wp2
        go_roundw
        case rel => exact ⟨i, x, rfl, by go_num, hmi, hix, by omega, by first | exact hl.out | (rw [hx2.out]; exact hl.out), by rw [hx1.out]; first | exact hr2.out | (rw [hx2.out]; exact hr2.out), hR2.out⟩
        case measure => simp [intOf]; omega
      · have r0 := cmp3_ge (show key (f x) ≤ key (f m) by omega)
        have hl2 : Hid (a < x + 1 → key (f (x + 1 - 1)) ≤ key (f m)) := Lib.hid (fun _ => by rw [Nat.add_sub_cancel]; omega)
        generalize hx1 : f x = x1 at *
        generalize hx2 : f m = x2 at *
        replace hx1 := Lib.hid hx1
        replace hx2 := Lib.hid hx2
        generalize cmp3 (key x2) (key x1) = r at *
        have t2 : decide (r < 0) = false := decide_eq_false r0
        replace hlt2 := Lib.hid hlt2
        go_quiet ((go_at_call 235; exact Calls.quiet_of (kc.out _ hR.out.but (below_drewN hR.out.bel _))))
        have hR2 := Lib.hid (hR.out.drew nq)
        clear c1 c2
        go_wp2
        go_roundw
        case rel => exact ⟨x + 1, j, by go_num, rfl, by omega, hxj, hjb, by first | exact hl2.out | (rw [hx2.out]; exact hl2.out), by first | exact hr.out | (rw [hx2.out]; exact hr.out), hR2.out⟩
        case measure => simp [intOf]; omega
    · obtain rfl : i = j := by omega
      have hS := Lib.hid (sym_dn hs.out hmi hjb hl hr)
      have hT := Lib.hid (st_dn hst.out hs.out hmi hjb hmn hr)
      have hM := Lib.hid (mv_dn (f := f) (m := m) (k := i) (a := a) (b := m + 1) hmi hjb (by omega))
      have h0 := Lib.hid (hR.same fun p _ => mvDn_zero f m p)
      replace hl := Lib.hid hl
      replace hr := Lib.hid hr
      clear hR
      have t1 : decide (((i : Nat) : Int) < ((i : Nat) : Int)) = false := decide_eq_false (by omega)
      go_wp2
      go_loopw [17] (fun vk wr => ∃ k : Nat, vk = .int .i64 k ∧ i ≤ k ∧ k ≤ m ∧ SRel w0 g n (mvDn f m k) wr) (fun vk _ => (intOf vk).toNat)
      case atStart => exact ⟨m, rfl, hjb, Nat.le_refl _, h0.out⟩
      case round =>
        clear h0
        obtain ⟨k, rfl, hak, hky, hR⟩ := hrel
        by_cases hlt : i < k
        · obtain ⟨j, rfl⟩ : ∃ j, k = j + 1 := ⟨k - 1, by omega⟩
          have c1 := hR.row (j + 1) (by omega)
          have c2 := hR.row j (by omega)
          have f1 := hR.fz (j + 1)
          have f2 := hR.fz j
          have hw := ((hR.swap (i := j + 1) (j := j) (by omega) (by omega)).drew 1).same (f' := mvDn f m j) fun p _ => (mvDn_step f m j p hky).symm
          generalize mvDn f m (j + 1) (j + 1) = x1 at *
          generalize mvDn f m (j + 1) j = x2 at *
          have z1 : (((j : Nat) : Int) + 1).toNat = j + 1 := by omega
          have z2 : ((j : Nat) : Int) + 1 - 1 = ((j : Nat) : Int) := by omega
          have l0 : (0 : Int) ≤ ((j : Nat) : Int) + 1 := by omega
          have l1 : ((j : Nat) : Int) + 1 < (n : Int) := by omega
          have l2 : ((j : Nat) : Int) < (n : Int) := by omega
          have t2 : decide (((i : Nat) : Int) < ((j : Nat) : Int) + 1) = true := decide_eq_true (by omega)
          replace hw := Lib.hid hw
          replace hR := Lib.hid hR
          go_upto_region 23 with fail
          go_region
          go_wp2
          go_roundw
          case rel => exact ⟨j, by go_num, by omega, by omega, hw.out⟩
          case measure => simp [intOf]
        · obtain rfl : k = i := by omega
          have t2 : decide (((k : Nat) : Int) < ((k : Nat) : Int)) = false := decide_eq_false (by omega)
          replace hR := Lib.hid hR
          go_wp2
          refine bodyPost_ret (v := .tuple #[]) (results_none rfl _ _ _) rfl ?_
          rw [hmb.out]
          exact ⟨rfl, _, hR.out, hM.out, hS.out, hT.out⟩
end Go.Proofs.YtaplaoelamnoiaaGreatDoor

/- The library's symMergeCmpFunc on ints: two sorted parts become one. Condition: a row of indices, at most 4096 cells. -/
namespace Go.Proofs.YtaplaoelamnoiaaGreatDoor
open Go.RowKit

set_option maxRecDepth 20000 in
set_option maxHeartbeats 8000000 in
theorem symm_any (w0 : World) (g n c : Nat) (key : Int → Int) (p q : Value) (hC : CmpOk w0 g n key p q) (h4 : n ≤ 4096) : ∀ (N : Nat) (f : Nat → Int) (a m b : Nat) (w : World), b - a ≤ N → SRel w0 g n f w → InR n f → St key f 0 n → a < m → m < b → b ≤ n → Srt key f a m → Srt key f m b →
    Calls Tryz.prog 241 #[.slice (some ⟨g, 0, none⟩) n c, .int .i64 a, .int .i64 m, .int .i64 b, .func (.func 235) #[] #[p, q]] w fun e w' => e = .returned (.tuple #[]) ∧ ∃ f', SRel w0 g n f' w' ∧ Mv a b f f' ∧ Srt key f' a b ∧ St key f' 0 n := by
  intro N
  induction N with
  | zero => intro f a m b w hN _ _ _ h1 h2; omega
  | succ N ih =>
  intro f a m b w hN h hin hst ham hmb hb hs1 hs2
  by_cases hm1 : m = a + 1
  · exact symup_any w0 g n c f a m b key p q hC w h hin hst hm1 hmb hb h4 (by rw [← hm1]; exact hs2)
  by_cases hb1 : b = m + 1
  · exact symdn_any w0 g n c f a m b key p q hC w h hin hst (by omega) hb1 hb h4 hs1
  have t0 : (((m : Int) - (a : Int)) == 1) = false := by rw [beq_eq_false_iff_ne]; omega
  have t00 : (((b : Int) - (m : Int)) == 1) = false := by rw [beq_eq_false_iff_ne]; omega
  obtain ⟨mid, hmid⟩ : ∃ mid, mid = (a + b) / 2 := ⟨_, rfl⟩
  have hh : ((a : Int) + (b : Int)) / 2 = (mid : Int) := by omega
  have a1 : a < mid := by omega
  have a2 : mid < b := by omega
  have a3 : mid - a ≤ N := by omega
  have a4 : b - mid ≤ N := by omega
  obtain ⟨s0, r0, h0⟩ : ∃ s0 r0 : Nat, (mid < m ∧ s0 = mid + m - b ∧ r0 = mid) ∨ (m ≤ mid ∧ s0 = a ∧ r0 = m) := by
    by_cases hc : mid < m
    · exact ⟨_, _, .inl ⟨hc, rfl, rfl⟩⟩
    · exact ⟨_, _, .inr ⟨by omega, rfl, rfl⟩⟩
  have b1 : s0 ≤ r0 := by omega
  have b2 : r0 ≤ m := by omega
  have b3 : r0 ≤ mid := by omega
  have b4 : mid + m ≤ b + s0 := by omega
  have hcutF := fun s hc => sym_cut (s := s) ham hmb hmid hs1 hs2 h0 hc
  have hstr := fun s (hc : Cutk key f (mid + m) s0 r0 s s) => cut_strict ham hmb hmid hs1 hs2 h0 hc
  replace hstr := Lib.hid hstr
  replace hst := Lib.hid hst
  have hrot := fun f' s E W h1 h2 h3 h4' => rotate_any w0 g n c f' s m E (.func (.func 235) #[] #[p, q]) W h1 h2 h3 h4' h4
  replace hcutF := Lib.hid hcutF
  replace hrot := Lib.hid hrot
  replace ih := Lib.hid ih
  replace hmid := Lib.hid hmid
  replace h := Lib.hid h
  replace hin := Lib.hid hin
  replace hC := Lib.hid hC
  replace hs1 := Lib.hid hs1
  replace hs2 := Lib.hid hs2
  go_enter Tryz.func241, Tryz.ntmps241
  go_upto_if 140 with fail
  go_cut [20, 21] from 141 (fun v20 v21 wx => v20 = .int .i64 s0 ∧ v21 = .int .i64 r0 ∧ wx = w)
  case first =>
    rcases h0 with ⟨c1, c2, c3⟩ | ⟨c1, c2, c3⟩
    · have t1 : decide ((mid : Int) < (m : Int)) = true := decide_eq_true (by omega)
      have e1 : (mid : Int) + (m : Int) - (b : Int) = (s0 : Int) := by omega
      have e2 : (mid : Int) = (r0 : Int) := by omega
      clear c2 c3
      replace e2 := Lib.hid e2
      go_wp2
      go_meet
      case rel => exact ⟨rfl, by rw [e2.out], by first | rfl | trivial⟩
    · have t1 : decide ((mid : Int) < (m : Int)) = false := decide_eq_false (by omega)
      have e1 : Hid ((a : Int) = (s0 : Int)) := Lib.hid (by omega)
      have e2 : Hid ((m : Int) = (r0 : Int)) := Lib.hid (by omega)
      clear c2 c3
      go_wp2
      go_meet
      case rel => exact ⟨by rw [e1.out], by rw [e2.out], by first | rfl | trivial⟩
  case rest =>
    obtain ⟨rfl, rfl, hwc⟩ := hcut
    have hR0 : Hid (SRel w0 g n f wc) := Lib.hid (by rw [hwc]; exact h.out)
    replace hwc := Lib.hid hwc
    go_wp2
    go_loopw [20, 21] (fun vs vr wr => ∃ s r : Nat, vs = .int .i64 s ∧ vr = .int .i64 r ∧ Cutk key f (mid + m) s0 r0 s r ∧ SRel w0 g n f wr) (fun vs vr _ => (intOf vr).toNat - (intOf vs).toNat)
    case atStart => exact ⟨s0, r0, rfl, rfl, ⟨Nat.le_refl _, b1, Nat.le_refl _, fun h => absurd h (by omega), fun h => absurd h (by omega)⟩, hR0.out⟩
    case round =>
      obtain ⟨s, r, rfl, rfl, hK, hR⟩ := hrel
      obtain ⟨d1, d2, d3, hl, hr⟩ := id hK
      by_cases hlt : s < r
      · obtain ⟨x, hx⟩ : ∃ x, x = (s + r) / 2 := ⟨_, rfl⟩
        have hhx : ((s : Int) + (r : Int)) / 2 = (x : Int) := by omega
        have hix : s ≤ x := by omega
        have hxj : x < r := by omega
        obtain ⟨y, hy⟩ : ∃ y, y = mid + m - 1 - x := ⟨_, rfl⟩
        have hhy : (mid : Int) + (m : Int) - 1 - (x : Int) = (y : Int) := by omega
        have hyb : y < b := by omega
        have c1 := hR.row x (by omega)
        have c2 := hR.row y (by omega)
        have r1 := hin.out x (by omega)
        have r2 := hin.out y (by omega)
        have kc := Lib.hid (fun W h3 h4 => hC.out (f y) (f x) W r2.1 r2.2 r1.1 r1.2 h3 h4)
        have l0 : (x : Int) < (n : Int) := by omega
        have l1 : (y : Int) < (n : Int) := by omega
        clear r1 r2 hx
        replace hl := Lib.hid hl
        replace hr := Lib.hid hr
        replace hK := Lib.hid hK
        replace hR := Lib.hid hR
        replace hy := Lib.hid hy
        go_upto_region 35 with fail
        replace hhx := Lib.hid hhx
        by_cases hlt2 : key (f y) < key (f x)
        · have r0' := cmp3_lt hlt2
          have hr2 : Hid (Cutk key f (mid + m) s0 r0 s x) := Lib.hid ⟨d1, hix, by omega, hl.out, fun _ => by rw [← hy.out]; exact hlt2⟩
          generalize hx1 : f x = x1 at *
          generalize hx2 : f y = x2 at *
          replace hx1 := Lib.hid hx1
          replace hx2 := Lib.hid hx2
          generalize cmp3 (key x2) (key x1) = v at *
          have t2 : decide (v < 0) = true := decide_eq_true r0'
          replace hlt2 := Lib.hid hlt2
          go_quiet ((go_at_call 235; exact Calls.quiet_of (kc.out _ hR.out.but (below_drewN hR.out.bel _))))
          have hR2 := Lib.hid (hR.out.drew nq)
          clear c1 c2
          go_wp2
          go_roundw
          case rel => exact ⟨s, x, rfl, by go_num, hr2.out, hR2.out⟩
          case measure => simp [intOf]; omega
        · have r0' := cmp3_ge (show key (f x) ≤ key (f y) by omega)
          have hl2 : Hid (Cutk key f (mid + m) s0 r0 (x + 1) r) := Lib.hid ⟨by omega, hxj, d3, fun _ => by rw [Nat.add_sub_cancel, show mid + m - (x + 1) = y by have := hy.out; omega]; omega, hr.out⟩
          generalize hx1 : f x = x1 at *
          generalize hx2 : f y = x2 at *
          replace hx1 := Lib.hid hx1
          replace hx2 := Lib.hid hx2
          generalize cmp3 (key x2) (key x1) = v at *
          have t2 : decide (v < 0) = false := decide_eq_false r0'
          replace hlt2 := Lib.hid hlt2
          go_quiet ((go_at_call 235; exact Calls.quiet_of (kc.out _ hR.out.but (below_drewN hR.out.bel _))))
          have hR2 := Lib.hid (hR.out.drew nq)
          clear c1 c2
          go_wp2
          go_roundw
          case rel => exact ⟨x + 1, r, by go_num, rfl, hl2.out, hR2.out⟩
          case measure => simp [intOf]; omega
      · obtain rfl : s = r := by omega
        obtain ⟨g1, g2, g3, g4, g5, g6, q1, q2, q3, q4, q5⟩ := hcutF.out s hK
        obtain ⟨E, hE⟩ : ∃ E, E = mid + m - s := ⟨_, rfl⟩
        have hhE : (mid : Int) + (m : Int) - (s : Int) = (E : Int) := by omega
        rw [← hE] at g4 g5 g6 q1 q2 q3 q4 q5
        have hME := Lib.hid (mv_rot (f := f) g2 g4)
        have hTT := Lib.hid (st_rot hst.out (Nat.zero_le s) g2 g4 (show E ≤ n by omega) (fun i j k1 k2 k3 k4 => hstr.out s hK i j k1 k2 k3 (by rw [← hE]; exact k4)))
        have hid := Lib.hid (fun (hc : ¬ (s < m ∧ m < E)) p => rot_id (f := f) g2 g4 hc p)
        have hro := Lib.hid (fun W (h1 : s < m) (h2 : m < E) h => hrot.out f s E W h h1 h2 (by omega))
        obtain ⟨T, hT⟩ : ∃ T, T = rot f s m E := ⟨_, rfl⟩
        rw [← hT] at q1 q2 q3 q4 q5 hME hid hro hTT
        replace hT := Lib.hid hT
        replace hE := Lib.hid hE
        replace hK := Lib.hid hK
        replace hR := Lib.hid hR
        replace q1 := Lib.hid q1
        replace q2 := Lib.hid q2
        replace q3 := Lib.hid q3
        replace q4 := Lib.hid q4
        replace q5 := Lib.hid q5
        clear hl hr
        have t1 : decide (((s : Nat) : Int) < ((s : Nat) : Int)) = false := decide_eq_false (by omega)
        go_upto_region 39 with fail
        go_cut [185] from 178 (fun v wx => v = .bool (decide (s < m) && decide (m < E)) ∧ wx = wr)
        case first =>
          by_cases e1 : s < m
          · have f1 : decide ((s : Int) < (m : Int)) = true := decide_eq_true (by omega)
            by_cases e2 : m < E
            · have f2 : decide ((m : Int) < (E : Int)) = true := decide_eq_true (by omega)
              go_wp2
              go_meet
              case rel => exact ⟨by rw [decide_eq_true e1, decide_eq_true e2]; rfl, by first | rfl | trivial⟩
            · have f2 : decide ((m : Int) < (E : Int)) = false := decide_eq_false (by omega)
              go_wp2
              go_meet
              case rel => exact ⟨by rw [decide_eq_true e1, decide_eq_false e2]; rfl, by first | rfl | trivial⟩
          · have f1 : decide ((s : Int) < (m : Int)) = false := decide_eq_false (by omega)
            go_wp2
            go_meet
            case rel => exact ⟨by rw [decide_eq_false e1]; rfl, by first | rfl | trivial⟩
        case rest =>
          obtain ⟨rfl, hw1⟩ := hcut
          have hR1 : Hid (SRel w0 g n f wc) := Lib.hid (by rw [hw1]; exact hR.out)
          replace hw1 := Lib.hid hw1
          generalize hB : (decide (s < m) && decide (m < E)) = B
          replace hB := Lib.hid hB
          go_upto_if 185 with fail
          go_cut [] from 186 (fun wx => SRel w0 g n T wx)
          case first =>
            cases B
            · have hn : ¬ (s < m ∧ m < E) := by have h := hB.out; rw [Bool.and_eq_false_iff] at h; rcases h with h | h <;> have := of_decide_eq_false h <;> omega
              have hR2 := Lib.hid (hR1.out.same fun p _ => hid.out hn p)
              replace hn := Lib.hid hn
              go_wp2
              go_meet
              case rel => exact hR2.out
            · have hn : s < m ∧ m < E := by have h := hB.out; rw [Bool.and_eq_true] at h; exact ⟨of_decide_eq_true h.1, of_decide_eq_true h.2⟩
              have hc2 := Lib.hid (hro.out wc hn.1 hn.2 hR1.out)
              replace hn := Lib.hid hn
              go_wp2_with fail
              refine hc2.out.mono ?_
              rintro e w5 ⟨rfl, h5⟩
              replace h5 := Lib.hid h5
              go_wp2
              go_meet
              case rel => exact h5.out
          case rest =>
            have hR2 := Lib.hid hcut
            have hinT := Lib.hid (hin.out.mv hME.out (by omega))
            go_upto_region 41 with fail
            go_cut [199] from 192 (fun v wx => v = .bool (decide (a < s) && decide (s < mid)) ∧ SRel w0 g n T wx)
            case first =>
              by_cases e1 : a < s
              · have f1 : decide ((a : Int) < (s : Int)) = true := decide_eq_true (by omega)
                by_cases e2 : s < mid
                · have f2 : decide ((s : Int) < (mid : Int)) = true := decide_eq_true (by omega)
                  go_wp2
                  go_meet
                  case rel => exact ⟨by rw [decide_eq_true e1, decide_eq_true e2]; rfl, hR2.out⟩
                · have f2 : decide ((s : Int) < (mid : Int)) = false := decide_eq_false (by omega)
                  go_wp2
                  go_meet
                  case rel => exact ⟨by rw [decide_eq_true e1, decide_eq_false e2]; rfl, hR2.out⟩
              · have f1 : decide ((a : Int) < (s : Int)) = false := decide_eq_false (by omega)
                go_wp2
                go_meet
                case rel => exact ⟨by rw [decide_eq_false e1]; rfl, hR2.out⟩
            case rest =>
              clear hR2 hR1 hR
              obtain ⟨rfl, hR3⟩ := hcut
              replace hR3 := Lib.hid hR3
              clear hB
              generalize hB : (decide (a < s) && decide (s < mid)) = B
              replace hB := Lib.hid hB
              go_upto_if 199 with fail
              go_cut [] from 200 (fun wx => ∃ d, SRel w0 g n d wx ∧ Mv a mid T d ∧ Srt key d a mid ∧ St key d 0 n)
              case first =>
                cases B
                · have hn : ¬ (a < s ∧ s < mid) := by have h := hB.out; rw [Bool.and_eq_false_iff] at h; rcases h with h | h <;> have := of_decide_eq_false h <;> omega
                  have hS4 : Srt key T a mid := by
                    by_cases e : s = a
                    · rw [← e]; exact q2.out
                    · have e2 : s = mid := by omega
                      rw [← e2]; exact q1.out
                  replace hS4 := Lib.hid hS4
                  replace hn := Lib.hid hn
                  go_wp2
                  go_meet
                  case rel => exact ⟨T, hR3.out, Mv.refl _ _ _, hS4.out, hTT.out⟩
                · have hn : a < s ∧ s < mid := by have h := hB.out; rw [Bool.and_eq_true] at h; exact ⟨of_decide_eq_true h.1, of_decide_eq_true h.2⟩
                  have hc2 := Lib.hid (ih.out T a s mid wc a3 hR3.out hinT.out hTT.out hn.1 hn.2 (by omega) q1.out q2.out)
                  replace hn := Lib.hid hn
                  go_wp2_with fail
                  refine hc2.out.mono ?_
                  rintro e w5 ⟨rfl, d, h5, h6, h7, h8⟩
                  replace h8 := Lib.hid h8
                  replace h5 := Lib.hid h5
                  replace h6 := Lib.hid h6
                  replace h7 := Lib.hid h7
                  go_wp2
                  go_meet
                  case rel => exact ⟨d, h5.out, h6.out, h7.out, h8.out⟩
              case rest =>
                clear hR3
                obtain ⟨G1, hR4, hM4, hS4, hT4⟩ := hcut
                replace hT4 := Lib.hid hT4
                have hin4 := Lib.hid (hinT.out.mv hM4 (by omega))
                have q6 := Lib.hid (q3.out.same fun p h _ => hM4.out p (.inr h))
                have q7 := Lib.hid (q4.out.same fun p h _ => hM4.out p (.inr (by omega)))
                replace hR4 := Lib.hid hR4
                replace hM4 := Lib.hid hM4
                replace hS4 := Lib.hid hS4
                go_upto_region 43 with fail
                go_cut [213] from 206 (fun v wx => v = .bool (decide (mid < E) && decide (E < b)) ∧ SRel w0 g n G1 wx)
                case first =>
                  by_cases e1 : mid < E
                  · have f1 : decide ((mid : Int) < (E : Int)) = true := decide_eq_true (by omega)
                    by_cases e2 : E < b
                    · have f2 : decide ((E : Int) < (b : Int)) = true := decide_eq_true (by omega)
                      go_wp2
                      go_meet
                      case rel => exact ⟨by rw [decide_eq_true e1, decide_eq_true e2]; rfl, hR4.out⟩
                    · have f2 : decide ((E : Int) < (b : Int)) = false := decide_eq_false (by omega)
                      go_wp2
                      go_meet
                      case rel => exact ⟨by rw [decide_eq_true e1, decide_eq_false e2]; rfl, hR4.out⟩
                  · have f1 : decide ((mid : Int) < (E : Int)) = false := decide_eq_false (by omega)
                    go_wp2
                    go_meet
                    case rel => exact ⟨by rw [decide_eq_false e1]; rfl, hR4.out⟩
                case rest =>
                  clear hR4
                  obtain ⟨rfl, hR5⟩ := hcut
                  replace hR5 := Lib.hid hR5
                  clear hB
                  generalize hB : (decide (mid < E) && decide (E < b)) = B
                  replace hB := Lib.hid hB
                  have hM14 := Lib.hid ((hME.out.mono g1 g6).trans (hM4.out.mono (Nat.le_refl a) (Nat.le_of_lt a2)))
                  cases B
                  · have hn : ¬ (mid < E ∧ E < b) := by have h := hB.out; rw [Bool.and_eq_false_iff] at h; rcases h with h | h <;> have := of_decide_eq_false h <;> omega
                    have hS5 : Srt key G1 mid b := by
                      by_cases e : E = mid
                      · rw [← e]; exact q7.out
                      · have e2 : E = b := by omega
                        rw [← e2]; exact q6.out
                    have hfin := Lib.hid (sym_join hM4.out (Mv.refl mid b G1) hS4.out hS5 q5.out)
                    clear hS5
                    replace hn := Lib.hid hn
                    go_wp2
                    refine bodyPost_end (results_none rfl _ _ _) rfl ?_
                    exact ⟨rfl, G1, hR5.out, hM14.out, hfin.out, hT4.out⟩
                  · have hn : mid < E ∧ E < b := by have h := hB.out; rw [Bool.and_eq_true] at h; exact ⟨of_decide_eq_true h.1, of_decide_eq_true h.2⟩
                    have hc2 := Lib.hid (ih.out G1 mid E b wc a4 hR5.out hin4.out hT4.out hn.1 hn.2 hb q6.out q7.out)
                    replace hn := Lib.hid hn
                    go_wp2_with fail
                    refine hc2.out.mono ?_
                    rintro e w5 ⟨rfl, d, h5, h6, h7, h8⟩
                    replace h8 := Lib.hid h8
                    have hfin := Lib.hid (sym_join hM4.out h6 hS4.out h7 q5.out)
                    have hM15 := Lib.hid (hM14.out.trans (h6.mono (Nat.le_of_lt a1) (Nat.le_refl b)))
                    replace h5 := Lib.hid h5
                    clear h6 h7
                    go_wp2
                    refine bodyPost_end (results_none rfl _ _ _) rfl ?_
                    exact ⟨rfl, d, h5.out, hM15.out, hfin.out, h8.out⟩
end Go.Proofs.YtaplaoelamnoiaaGreatDoor

/- The library's stableCmpFunc and SortStableFunc on ints. Condition: a row of indices, at most 4096 cells. -/
namespace Go.Proofs.YtaplaoelamnoiaaGreatDoor
open Go.RowKit

set_option maxRecDepth 20000 in
set_option maxHeartbeats 8000000 in
theorem stable_any (w0 : World) (g n c : Nat) (f : Nat → Int) (key : Int → Int) (p q : Value) (hC : CmpOk w0 g n key p q) (w : World) (h : SRel w0 g n f w) (hin : InR n f) (hst : St key f 0 n) (h4 : n ≤ 4096) :
    Calls Tryz.prog 238 #[.slice (some ⟨g, 0, none⟩) n c, .int .i64 n, .func (.func 235) #[] #[p, q]] w fun e w' => e = .returned (.tuple #[]) ∧ ∃ f', SRel w0 g n f' w' ∧ Mv 0 n f f' ∧ Srt key f' 0 n ∧ St key f' 0 n := by
  have ki := fun d a b W h1 h2 h3 h5 h6 => isort_any w0 g n c d a b key p q hC W h1 h2 h3 h5 h6 h4
  have ks : ∀ (d : Nat → Int) (A bs B : Nat) (W : World), SRel w0 g n d W → InR n d → St key d 0 n → 0 < bs → A + bs < B → B ≤ n → Srt key d A (A + bs) → Srt key d (A + bs) B →
      Calls Tryz.prog 241 #[.slice (some ⟨g, 0, none⟩) n c, .int .i64 A, .int .i64 ((A : Int) + (bs : Int)), .int .i64 B, .func (.func 235) #[] #[p, q]] W fun e w' => e = .returned (.tuple #[]) ∧ ∃ f', SRel w0 g n f' w' ∧ Mv A B d f' ∧ Srt key f' A B ∧ St key f' 0 n :=
    fun d A bs B W h1 h2 ht h3 h5 h6 h7 h8 => by
      rw [show (A : Int) + (bs : Int) = ((A + bs : Nat) : Int) by omega]
      exact symm_any w0 g n c key p q hC h4 (B - A) d A (A + bs) B W (Nat.le_refl _) h1 h2 ht (by omega) h5 h6 h7 h8
  replace ki := Lib.hid ki
  replace ks := Lib.hid ks
  replace h := Lib.hid h
  replace hin := Lib.hid hin
  replace hst := Lib.hid hst
  clear hC
  go_enter Tryz.func238, Tryz.ntmps238
  go_wp2
  go_loopw [7, 8] (fun va vb wr => ∃ (i A B : Nat) (d : Nat → Int), va = .int .i64 A ∧ vb = .int .i64 B ∧ A = 20 * i ∧ B = A + 20 ∧ A ≤ n ∧ SRel w0 g n d wr ∧ Mv 0 n f d ∧ (∀ t, t < i → Srt key d (20 * t) (20 * (t + 1))) ∧ St key d 0 n) (fun _ vb _ => n + 1 - (intOf vb).toNat)
  case atStart => exact ⟨0, 0, 20, f, rfl, rfl, rfl, rfl, Nat.zero_le _, h.out, Mv.refl _ _ _, fun t ht => absurd ht (by omega), hst.out⟩
  case round =>
    obtain ⟨i, A, B, d, rfl, rfl, hA, hB, hAn, hR, hM, hS, hT⟩ := hrel
    replace hT := Lib.hid hT
    by_cases hle : B ≤ n
    · have kc := Lib.hid (ki.out d A B wr hR (hin.out.mv hM (Nat.le_refl n)) hT.out (by omega) hle)
      replace hA := Lib.hid hA
      replace hB := Lib.hid hB
      replace hR := Lib.hid hR
      replace hM := Lib.hid hM
      replace hS := Lib.hid hS
      go_wp2_with fail
      refine kc.out.mono ?_
      rintro e w5 ⟨rfl, d', h5, h6, h7, h8⟩
      replace h8 := Lib.hid h8
      replace h5 := Lib.hid h5
      replace h6 := Lib.hid h6
      replace h7 := Lib.hid h7
      go_wp2
      go_roundw
      case rel =>
        have eA := hA.out
        have eB := hB.out
        refine ⟨i + 1, B, B + 20, d', rfl, by go_num, by omega, rfl, hle, h5.out, hM.out.trans (h6.out.mono (Nat.zero_le _) hle), fun t ht => ?_, h8.out⟩
        by_cases e : t = i
        · rw [e, show 20 * i = A by omega, show 20 * (i + 1) = B by omega]; exact h7.out
        · exact (hS.out t (by omega)).same fun p _ k2 => h6.out.out p (.inl (by omega))
      case measure => simp [intOf]; omega
    · have kc := Lib.hid (ki.out d A n wr hR (hin.out.mv hM (Nat.le_refl n)) hT.out hAn (Nat.le_refl n))
      have t1 : decide (((B : Nat) : Int) ≤ ((n : Nat) : Int)) = false := decide_eq_false (by omega)
      have hBn : Hid (n < B) := Lib.hid (by omega)
      replace hA := Lib.hid hA
      replace hB := Lib.hid hB
      replace hR := Lib.hid hR
      replace hM := Lib.hid hM
      replace hS := Lib.hid hS
      go_wp2_with fail
      refine kc.out.mono ?_
      rintro e w5 ⟨rfl, d', h5, h6, h7, h8⟩
      replace h8 := Lib.hid h8
      have hall : ∀ t, Srt key d' (20 * t) (min (20 * (t + 1)) n) := fun t => by
        have eA := hA.out
        have eB := hB.out
        have eC := hBn.out
        by_cases e : t = i
        · rw [e, show 20 * i = A by omega, Nat.min_eq_right (by omega)]; exact h7
        · by_cases e2 : t < i
          · rw [Nat.min_eq_left (by omega)]
            exact (hS.out t e2).same fun p _ k2 => h6.out p (.inl (by omega))
          · exact fun p q k1 k2 k3 => absurd k3 (by omega)
      have hM5 := Lib.hid (hM.out.trans (h6.mono (Nat.zero_le _) (Nat.le_refl n)))
      replace h5 := Lib.hid h5
      replace hall := Lib.hid hall
      clear h6 h7 hR hM hS hA hB hBn hAn hle kc
      go_wp2
      go_loopw [6] (fun vs wr => ∃ (bs : Nat) (d : Nat → Int), vs = .int .i64 bs ∧ 20 ≤ bs ∧ bs ≤ 100000 ∧ SRel w0 g n d wr ∧ Mv 0 n f d ∧ (∀ t, Srt key d (bs * t) (min (bs * (t + 1)) n)) ∧ St key d 0 n) (fun vs _ => n - (intOf vs).toNat)
      case atStart => exact ⟨20, d', rfl, Nat.le_refl _, by omega, h5.out, hM5.out, hall.out, h8.out⟩
      case round =>
        clear hall h5 hM5 h8 hT
        obtain ⟨bs, d, rfl, hb20, hb10, hR, hM, hS, hT⟩ := hrel
        replace hT := Lib.hid hT
        by_cases hlt : bs < n
        · have hP0 := Lib.hid (pass_start hS)
          replace hR := Lib.hid hR
          replace hM := Lib.hid hM
          replace hS := Lib.hid hS
          go_wp2
          go_loopw [7, 8] (fun va vb wr => ∃ (i A B : Nat) (d : Nat → Int), va = .int .i64 A ∧ vb = .int .i64 B ∧ A = 2 * bs * i ∧ B = 2 * bs * (i + 1) ∧ A ≤ n ∧ SRel w0 g n d wr ∧ Mv 0 n f d ∧ Pass key d n bs i ∧ St key d 0 n) (fun _ vb _ => n + 1 - (intOf vb).toNat)
          case atStart => exact ⟨0, 0, 2 * bs, d, rfl, by go_num, rfl, by rw [Nat.mul_one], Nat.zero_le _, hR.out, hM.out, hP0.out, hT.out⟩
          case round =>
            clear hP0 hR hM hS hT
            obtain ⟨i, A, B, d, rfl, rfl, hA, hB, hAn, hR, hM, hP, hT⟩ := hrel
            replace hT := Lib.hid hT
            have hAB : B = A + 2 * bs := by rw [hA, hB, Nat.mul_add, Nat.mul_one]
            by_cases hle : B ≤ n
            · have q1 := pass_left hP (by rw [← hA]; omega)
              have q2 := pass_right hP
              rw [← hB, Nat.min_eq_left hle] at q2
              rw [← hA] at q1 q2
              have kc := Lib.hid (ks.out d A bs B wr hR (hin.out.mv hM (Nat.le_refl n)) hT.out (by omega) (by omega) hle q1 q2)
              clear q1 q2
              replace hAB := Lib.hid hAB
              replace hA := Lib.hid hA
              replace hB := Lib.hid hB
              replace hR := Lib.hid hR
              replace hM := Lib.hid hM
              replace hP := Lib.hid hP
              go_wp2_with fail
              refine kc.out.mono ?_
              rintro e w5 ⟨rfl, d', h5, h6, h7, h8⟩
              replace h8 := Lib.hid h8
              have hM5 := Lib.hid (hM.out.trans (h6.mono (Nat.zero_le _) hle))
              rw [hA.out, hB.out] at h6 h7
              have hP5 := Lib.hid (pass_step hP.out h6 h7)
              replace h5 := Lib.hid h5
              clear h6 h7
              go_wp2
              go_roundw
              case rel => exact ⟨i + 1, B, B + 2 * bs, d', rfl, by go_num, hB.out, by rw [hB.out, Nat.mul_add (2 * bs) (i + 1) 1, Nat.mul_one], hle, h5.out, hM5.out, hP5.out, h8.out⟩
              case measure => simp [intOf]; omega
            · have t1 : decide (((B : Nat) : Int) ≤ ((n : Nat) : Int)) = false := decide_eq_false (by omega)
              have hBn : Hid (n < 2 * bs * (i + 1)) := Lib.hid (by rw [← hB]; omega)
              replace hAB := Lib.hid hAB
              by_cases hmn : A + bs < n
              · have q1 := pass_left hP (by rw [← hA]; omega)
                have q2 := pass_right hP
                rw [← hB, Nat.min_eq_right (by omega)] at q2
                rw [← hA] at q1 q2
                have kc := Lib.hid (ks.out d A bs n wr hR (hin.out.mv hM (Nat.le_refl n)) hT.out (by omega) hmn (Nat.le_refl n) q1 q2)
                clear q1 q2
                have t2 : decide ((A : Int) + (bs : Int) < (n : Int)) = true := decide_eq_true (by omega)
                replace hA := Lib.hid hA
                replace hB := Lib.hid hB
                replace hR := Lib.hid hR
                replace hM := Lib.hid hM
                replace hP := Lib.hid hP
                go_wp2_with fail
                refine kc.out.mono ?_
                rintro e w5 ⟨rfl, d', h5, h6, h7, h8⟩
                replace h8 := Lib.hid h8
                have hM5 := Lib.hid (hM.out.trans (h6.mono (Nat.zero_le _) (Nat.le_refl n)))
                rw [hA.out] at h6 h7
                have hP5 := Lib.hid (fun t => pass_end hP.out hBn.out h6 h7 t)
                replace h5 := Lib.hid h5
                clear h6 h7
                go_wp2
                go_roundw
                case rel => exact ⟨2 * bs, d', by go_num, by omega, by omega, h5.out, hM5.out, hP5.out, h8.out⟩
                case measure => simp [intOf]; omega
              · have q1 := pass_short hP (by rw [← hA]; omega)
                have hP5 := Lib.hid (fun t => pass_end hP hBn.out (Mv.refl _ _ _) q1 t)
                clear q1
                have t2 : decide ((A : Int) + (bs : Int) < (n : Int)) = false := decide_eq_false (by omega)
                replace hA := Lib.hid hA
                replace hB := Lib.hid hB
                replace hR := Lib.hid hR
                replace hM := Lib.hid hM
                replace hP := Lib.hid hP
                go_wp2
                go_roundw
                case rel => exact ⟨2 * bs, d, by go_num, by omega, by omega, hR.out, hM.out, hP5.out, hT.out⟩
                case measure => simp [intOf]; omega
        · have hfin := Lib.hid (pass_all hS (by omega))
          have t1 : decide (((bs : Nat) : Int) < ((n : Nat) : Int)) = false := decide_eq_false (by omega)
          replace hR := Lib.hid hR
          replace hM := Lib.hid hM
          replace hS := Lib.hid hS
          go_wp2
          refine bodyPost_end (results_none rfl _ _ _) rfl ?_
          exact ⟨rfl, d, hR.out, hM.out, hfin.out, hT.out⟩

end Go.Proofs.YtaplaoelamnoiaaGreatDoor

/- The library's SortStableFunc on ints. Condition: a row of indices, at most 4096 cells. -/
namespace Go.Proofs.YtaplaoelamnoiaaGreatDoor
open Go.RowKit

set_option maxRecDepth 20000 in
set_option maxHeartbeats 4000000 in
theorem sortStable_any (w0 : World) (g n c : Nat) (f : Nat → Int) (key : Int → Int) (p q : Value) (hC : CmpOk w0 g n key p q) (w : World) (h : SRel w0 g n f w) (hin : InR n f) (hst : St key f 0 n) (h4 : n ≤ 4096) :
    Calls Tryz.prog 234 #[.slice (some ⟨g, 0, none⟩) n c, .func (.func 235) #[] #[p, q]] w fun e w' => e = .returned (.tuple #[]) ∧ ∃ f', SRel w0 g n f' w' ∧ Mv 0 n f f' ∧ Srt key f' 0 n ∧ St key f' 0 n := by
  have kc := Lib.hid (stable_any w0 g n c f key p q hC w h hin hst h4)
  clear hC h hin hst h4
  go_enter Tryz.func234, Tryz.ntmps234
  go_wp2_with fail
  refine kc.out.mono ?_
  rintro e w5 ⟨rfl, hp⟩
  replace hp := Lib.hid hp
  go_wp2
  refine bodyPost_end (results_none rfl _ _ _) rfl ?_
  exact ⟨rfl, hp.out⟩
end Go.Proofs.YtaplaoelamnoiaaGreatDoor
