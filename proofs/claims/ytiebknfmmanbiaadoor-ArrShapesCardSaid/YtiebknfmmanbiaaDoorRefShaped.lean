/- The document's Shaped and Fill: an array's cells in another shape. Condition: a shape without a fault; rows that lie as lists of ints. -/
import Derived.Test.YtiebknfmmanbiaaDoorOutS
import Derived.Test.YtiebknfmmanbiaaDoorBdA
import Derived.Test.YtiebknfmmanbiaaDoorRefShape
import Derived.Deep.RegionLaw
namespace Go.Proofs.YtiebknfmmanbiaaDoor
open Go.RowKit

theorem refFill_any (ch : Bool) (a b : Option Addr) (m c n z : Nat) (w : World) :
    Calls Tryd.prog 75 #[arrV ch a m c b n z] w fun e w' => e = .returned (.int .i64 (M.fill ch)) ∧ Below w.heap.size w w' := by
  cases ch
  · go_enter Tryd.func75, Tryd.ntmps75
    go_wp2
    go_ret
    exact ⟨rfl, (Below.refl _ w).alloc (Nat.le_refl _) _⟩
  · go_enter Tryd.func75, Tryd.ntmps75
    go_wp2
    go_ret
    exact ⟨rfl, (Below.refl _ w).alloc (Nat.le_refl _) _⟩

theorem cycle_take {d : List Int} {n i : Nat} {z : Int} (h : i < n) : (M.cycle d n z).take (i + 1) = (M.cycle d n z).take i ++ [if d.length = 0 then z else d.getD (i % d.length) 0] := by
  rw [List.take_succ_eq_append_getElem (by rw [cycle_length]; exact h)]
  simp [M.cycle]
/-- The place in the list after so many. -/
def cyk (l i : Nat) : Nat := if l = 0 then 0 else i % l
theorem cyk_next {l i : Nat} (h : 0 < l) : (cyk l i + 1 = l → cyk l (i + 1) = 0) ∧ (cyk l i + 1 ≠ l → cyk l (i + 1) = cyk l i + 1) := by
  unfold cyk
  rw [if_neg (by omega), if_neg (by omega)]
  have h1 := Nat.mod_lt i h
  have h2 := Nat.div_add_mod i l
  constructor
  · intro e
    have : i + 1 = l * (i / l + 1) := by rw [Nat.mul_add, Nat.mul_one]; omega
    rw [this, Nat.mul_mod_right]
  · intro e
    have : i + 1 = l * (i / l) + (i % l + 1) := by omega
    rw [this, Nat.mul_add_mod, Nat.mod_eq_of_lt (by omega)]

set_option maxRecDepth 20000 in
set_option maxHeartbeats 8000000 in
theorem shaped_any (a0 : Option Addr) (s0 : List Int) (m0 c0 : Nat) (ch : Bool) (a b : Option Addr) (s d : List Int) (m c n z Q : Nat) (w : World) (h0 : Row w a0 s0) (hq : M.count s0 = .ok (Q : Int)) (e0 : m0 = s0.length)
    (hd : Row w b d) (ld : d.length ≤ maxLen) (em : m = s.length) (en : n = d.length) :
    Calls Tryd.prog 32 #[.slice a0 m0 c0, arrV ch a m c b n z] w fun e w' => VecOwn ⟨ch, s0, M.cycle d Q (M.fill ch)⟩ w e w' := by
  subst e0
  subst em
  subst en
  obtain ⟨q1, q2, q3, q4, q5⟩ := M.count_ok hq
  have E := (((Env.start w).addRow hd).addRow h0).box ch a s.length c b d.length z |>.box false none 0 0 none 0 0
  rw [World.size_alloc] at E
  have hcells := fun w h => cells_any a0 s0 _ c0 Q w h hq rfl
  replace hcells := Lib.hid hcells
  have hQ : Q ≤ 4096 := by omega
  clear q2 q3 q4 q5
  replace hq := Lib.hid hq
  unfold maxLen at ld
  generalize hwB : (w.alloc (.cells #[.bool ch, .slice a s.length c, .slice b d.length z] 24)).alloc (.cells #[.bool false, .slice none 0 0, .slice none 0 0] 24) = wB at E
  have hsB : wB.heap.size = w.heap.size + 1 + 1 := by rw [← hwB]; simp
  have hX := heap_alloc_new wB (.cells #[.bool false, .slice none 0 0, .slice none 0 0] 24)
  have E0 := E.box false none 0 0 none 0 0
  have hst : OutS w (wB.alloc (.cells #[.bool false, .slice none 0 0, .slice none 0 0] 24)) (w.heap.size + 1 + 1) (w.heap.size + 1 + 1 + 1) false (.slice none 0 0) [] (wB.alloc (.cells #[.bool false, .slice none 0 0, .slice none 0 0] 24)) := by
    rw [hsB] at E0
    exact ⟨⟨(E0.getBox 0 rfl).1, (E0.getBox 0 rfl).2⟩, Own.nil _ _, E0.bel, by rw [World.size_alloc, hsB]; exact Nat.le_refl _, fun _ _ _ => rfl⟩
  have hst2 : OutS w (wB.alloc (.cells #[.bool ch, .slice none 0 0, .slice none 0 0] 24)) (w.heap.size + 1 + 1) (w.heap.size + 1 + 1 + 1) ch (.slice none 0 0) [] (wB.alloc (.cells #[.bool ch, .slice none 0 0, .slice none 0 0] 24)) := by
    have E0 := E.box ch none 0 0 none 0 0
    rw [hsB] at E0
    exact ⟨⟨(E0.getBox 0 rfl).1, (E0.getBox 0 rfl).2⟩, Own.nil _ _, E0.bel, by rw [World.size_alloc, hsB]; exact Nat.le_refl _, fun _ _ _ => rfl⟩
  have hE2 := E.box ch none 0 0 none 0 0
  clear hst E0 hX
  rw [← hwB] at hst2 hE2
  replace hE2 := Lib.hid hE2
  replace hst2 := Lib.hid hst2
  clear E hsB
  clear hwB wB
  go_enter Tryd.func32, Tryd.ntmps32
  go_wp2
  generalize hwC : ((w.alloc _).alloc _).alloc _ = wC at *
  replace hwC := Lib.hid hwC
  have hE := hE2.out
  have hst := hst2.out
  clear hE2 hst2
  have bxA := hE.getBox 2 rfl
  have bxR := hE.getBox 1 rfl
  have rowA := hE.getRow 3 rfl
  have rowD := hE.getRow 4 rfl
  clear hE
  go_loopw [6] (fun v wr => ∃ (k : Nat) (sv : Value), k ≤ s0.length ∧ v = .int .i64 k ∧ OutS w wC (w.heap.size + 1 + 1) (w.heap.size + 1 + 1 + 1) ch sv (s0.take k) wr) (fun v _ => s0.length - (intOf v).toNat)
  case atStart => exact ⟨0, .slice none 0 0, Nat.zero_le _, rfl, by rw [List.take_zero]; exact hst⟩
  case round =>
    clear hst
    obtain ⟨k, sv, hk, rfl, hI⟩ := hrel
    obtain ⟨⟨⟨x0, x1, x2⟩, f0, f1, f2⟩, hown, hbel, hsz, hrest⟩ := id hI
    by_cases hlt : k < s0.length
    · obtain ⟨bb, oo, rfl, hcd⟩ := h0.below hbel k hlt
      have hts : s0.take (k + 1) = s0.take k ++ [s0.getD k 0] := by rw [List.take_succ_eq_append_getElem hlt, List.getD_eq_getElem?_getD, List.getElem?_eq_getElem hlt]; rfl
      have hlk : (s0.take k).length = k := by rw [List.length_take]; omega
      generalize s0.getD k 0 = x at *
      generalize s0.take k = ys at *
      have hlen : ys.length < 17592186044416 := by omega
      obtain ⟨av, cv, rfl, _, _, _⟩ := hown.view
      rw [hlk] at x1 hown hI
      obtain ⟨x0', x1', x2'⟩ := alloc3 ⟨x0, x1, x2⟩ (.cells #[.int .i64 x] 3)
      have hownA : Own (wr.alloc (.cells #[.int .i64 x] 3)) (w.heap.size + 1 + 1 + 1) (.slice av k cv) ys := hown.below (push (start wr) _)
      have hown' : Own (wr.alloc (.cells #[.int .i64 x] 3)).drew (w.heap.size + 1 + 1 + 1) (.slice av k cv) ys := hownA
      have hBr : Below (w.heap.size + 1 + 1 + 1) wr (wr.alloc (.cells #[.int .i64 x] 3)).drew := ((Below.refl _ wr).alloc hsz _).drew
      have hlk2 := Lib.hid (show k + 1 = ys.length + 1 by rw [hlk])
      clear hownA hown hrest
      replace hlk := Lib.hid hlk
      replace hts := Lib.hid hts
      go_wp2_with fail
      go_region_law ((refine step_app_int rfl (.tmp 20) (.tmp 25) rfl (w.heap.size + 1 + 1 + 1) _ ys x wr.heap.size rfl hown' rfl (by simp [go_sem]) hlen (by simp; omega) (k + 1) hlk2.out ?_; intro a' c' w' ho' hb'; have d2 := (hb'.cell (by show w.heap.size + 1 + 1 < _; omega)).trans ((hBr.cell (by show w.heap.size + 1 + 1 < _; omega)).trans x1); have g2 := (hb'.frozen (by show w.heap.size + 1 + 1 < _; omega)).trans ((hBr.frozen (by show w.heap.size + 1 + 1 < _; omega)).trans f1)))
      all_goals go_wp2
      all_goals go_roundw
      all_goals
        first
          | exact ⟨k + 1, _, by omega, by go_num, by rw [hts.out]; exact hI.step (by omega) (Nat.lt_succ_self _) (hBr.trans hb') ho'⟩
          | (simp [intOf]; omega)
    · obtain rfl : k = s0.length := by omega
      rw [List.take_length] at hown hI
      obtain ⟨av, cv, rfl, _, _, rS⟩ := hown.view
      have hH := hI.start
      have bA := hI.box (by omega) (by omega) bxA
      have bR := hI.box (by omega) (by omega) bxR
      have hfr := own_fresh hown
      have hblk : ∀ p, av = some p → p.block < wr.heap.size := fun p e => by
        subst e
        rcases hown.2 with ⟨e, _⟩ | ⟨g, cap, cur, e, _, hh, _⟩
        · simp at e
        · simp at e
          obtain ⟨rfl, -⟩ := e
          exact (Array.getElem?_eq_some_iff.1 hh).1
      have hsz' : w.heap.size + 1 + 1 + 1 ≤ wr.heap.size := hsz
      clear hrest x0 x1 x2 f0 f1 f2 hI hown
      go_wp2_with fail
      refine (hcells.out _ (h0.below hbel)).mono ?_
      rintro e w5 ⟨rfl, rfl⟩
      go_wp2
      generalize hwo : wr = wo at *
      go_loopw [8, 9] (fun v8 v9 wr => ∃ (i : Nat) (dv : Value), i ≤ Q ∧ v8 = .int .i64 (cyk d.length i : Nat) ∧ v9 = .int .i64 i ∧ OutAt w wo (w.heap.size + 1 + 1) wo.heap.size ch (.slice av s0.length cv) dv ((M.cycle d Q (M.fill ch)).take i) wr) (fun _ v _ => Q - (intOf v).toNat)
      case atStart => exact ⟨0, .slice none 0 0, Nat.zero_le _, by unfold cyk; simp, rfl, by rw [List.take_zero]; exact hH⟩
      case round =>
        obtain ⟨i, dv, hi, rfl, rfl, hI⟩ := hrel
        obtain ⟨⟨⟨x0, x1, x2⟩, f2⟩, hown, hbel, hsz, hrest⟩ := id hI
        have hA := hI.box (R := w.heap.size) (by omega) (by omega) bA
        have hR := hI.box (R := w.heap.size + 1) (by omega) (by omega) bR
        by_cases hlt : i < Q
        · have hts := cycle_take (d := d) (z := M.fill ch) hlt
          have hlk : ((M.cycle d Q (M.fill ch)).take i).length = i := by rw [List.length_take, cycle_length]; omega
          generalize (M.cycle d Q (M.fill ch)).take i = ys at *
          obtain ⟨dva, dvc, rfl, _, _, _⟩ := hown.view
          have hlen : ys.length < 17592186044416 := by omega
          rw [hlk] at x2 hown hI
          have hlk2 := Lib.hid (show i + 1 = ys.length + 1 by rw [hlk])
          obtain ⟨⟨u0, u1, u2⟩, -, -, -⟩ := hA
          by_cases hz : d.length = 0
          · have t1 : (((d.length : Nat) : Int) == 0) = true := by rw [beq_iff_eq]; omega
            rw [if_pos hz] at hts
            have hk1 : cyk d.length (i + 1) = cyk d.length i := by unfold cyk; rw [if_pos hz, if_pos hz]
            have hownD : Own wr.drew wo.heap.size (.slice dva i dvc) ys := hown
            have hBD : Below wo.heap.size wr wr.drew := (Below.refl _ wr).drew
            generalize cyk d.length i = ck at *
            replace hk1 := Lib.hid hk1
            replace hz := Lib.hid hz
            replace hlk := Lib.hid hlk
            replace hts := Lib.hid hts
            clear hown hrest
            have hdone : ∀ w5 w' v', Below wr.drew.heap.size wr.drew w5 → Below wo.heap.size (w5.alloc (.cells #[.int .i64 (M.fill ch)] 3)) w' → Own w' wo.heap.size v' (ys ++ [M.fill ch]) → OutAt w wo (w.heap.size + 1 + 1) wo.heap.size ch (.slice av s0.length cv) v' ((M.cycle d Q (M.fill ch)).take (i + 1)) (w'.setCell ⟨w.heap.size + 1 + 1, 2, none⟩ v') := fun w5 w' v' h5 h6 h7 => by
              rw [hts.out]
              exact hI.step (by omega) (by omega) (hBD.trans (((h5.mono hsz).alloc (Nat.le_trans hsz h5.size) _).trans h6)) h7
            have hcall : Calls Tryd.prog 75 #[arrV ch a s.length c b d.length z] wr.drew fun e w5 => e = .returned (.int .i64 (M.fill ch)) ∧ Below wr.drew.heap.size wr.drew w5 ∧ w5.cell? ⟨w.heap.size + 1 + 1, 2, none⟩ = some (.slice dva i dvc) ∧ w5.frozen? ⟨w.heap.size + 1 + 1, 2, none⟩ = false ∧
                (w5.alloc (.cells #[.int .i64 (M.fill ch)] 3)).cell? ⟨w.heap.size + 1 + 1, 2, none⟩ = some (.slice dva i dvc) ∧ Own (w5.alloc (.cells #[.int .i64 (M.fill ch)] 3)) wo.heap.size (.slice dva i dvc) ys ∧ wo.heap.size ≤ w5.heap.size := (refFill_any _ _ _ _ _ _ _ _).mono fun e w5 h => by
              have hN : w.heap.size + 1 + 1 < wr.drew.heap.size := by show w.heap.size + 1 + 1 < wr.heap.size; omega
              have z2 := (h.2.cell (p := ⟨w.heap.size + 1 + 1, 2, none⟩) hN).trans x2
              exact ⟨h.1, h.2, z2, (h.2.frozen (p := ⟨w.heap.size + 1 + 1, 2, none⟩) hN).trans f2, ((push (start w5) _).cell (p := ⟨w.heap.size + 1 + 1, 2, none⟩) (by have := h.2.size; show w.heap.size + 1 + 1 < w5.heap.size; omega)).trans z2, (hownD.below h.2).below (push (start w5) _), Nat.le_trans hsz h.2.size⟩
            replace hcall := Lib.hid hcall
            replace hdone := Lib.hid hdone
            replace hI := Lib.hid hI
            go_wp2_with fail
            go_region_law ((first
              | ((try go_simp); go_at_call 75; refine hcall.out.mono ?_; rintro e w5 ⟨rfl, hb5, z2, zf, zz, ho5, hs5⟩)
              | (refine step_app_int rfl (.tmp 40) (.tmp 43) rfl wo.heap.size _ ys (M.fill ch) w5.heap.size rfl ho5 rfl (by simp [go_sem]) hlen (by simp; omega) (i + 1) hlk2.out ?_; intro a' c' w' ho' hb'; have d2 := (hb'.cell (p := ⟨w.heap.size + 1 + 1, 2, none⟩) (by show w.heap.size + 1 + 1 < _; omega)).trans zz; have g2 := (hb'.frozen (p := ⟨w.heap.size + 1 + 1, 2, none⟩) (by show w.heap.size + 1 + 1 < _; omega)).trans (((push (start w5) (.cells #[.int .i64 (M.fill ch)] 3)).frozen (p := ⟨w.heap.size + 1 + 1, 2, none⟩) (by show w.heap.size + 1 + 1 < _; omega)).trans zf))))
            all_goals go_wp2
            all_goals go_roundw
            all_goals
              first
                | exact ⟨i + 1, _, by omega, by rw [hk1.out], by go_num, hdone.out _ _ _ hb5 hb' ho'⟩
                | (simp [intOf]; omega)
          · have t1 : (((d.length : Nat) : Int) == 0) = false := by rw [beq_eq_false_iff_ne]; omega
            rw [if_neg hz] at hts
            have hkl : cyk d.length i < d.length := by unfold cyk; rw [if_neg hz]; exact Nat.mod_lt _ (by omega)
            have hke : i % d.length = cyk d.length i := by unfold cyk; rw [if_neg hz]
            rw [hke] at hts
            obtain ⟨n1, n2⟩ := cyk_next (l := d.length) (i := i) (by omega)
            generalize cyk d.length i = ck at *
            obtain ⟨bb, oo, rfl, hcd⟩ := hd.below hbel ck hkl
            generalize d.getD ck 0 = x at *
            obtain ⟨x0', x1', x2'⟩ := alloc3 ⟨x0, x1, x2⟩ (.cells #[.int .i64 x] 3)
            have hownA : Own (wr.alloc (.cells #[.int .i64 x] 3)) wo.heap.size (.slice dva i dvc) ys := hown.below (push (start wr) _)
            have hown' : Own (wr.alloc (.cells #[.int .i64 x] 3)).drew wo.heap.size (.slice dva i dvc) ys := hownA
            have hBr : Below wo.heap.size wr (wr.alloc (.cells #[.int .i64 x] 3)).drew := ((Below.refl _ wr).alloc hsz _).drew
            have hdone : ∀ w' v', Below wo.heap.size (wr.alloc (.cells #[.int .i64 x] 3)).drew w' → Own w' wo.heap.size v' (ys ++ [x]) → OutAt w wo (w.heap.size + 1 + 1) wo.heap.size ch (.slice av s0.length cv) v' ((M.cycle d Q (M.fill ch)).take (i + 1)) (w'.setCell ⟨w.heap.size + 1 + 1, 2, none⟩ v') ∧ (w'.setCell ⟨w.heap.size + 1 + 1, 2, none⟩ v').cell? ⟨w.heap.size, 2, none⟩ = some (.slice (some ⟨bb, oo, none⟩) d.length z) := fun w' v' h6 h7 => by
              have h8 := hI.step (by omega) (by omega) (hBr.trans h6) h7
              rw [hts]
              exact ⟨h8, (h8.box (R := w.heap.size) (by omega) (by omega) bA).1.2.2⟩
            have hlt8 : ∀ w' : World, Below wo.heap.size (wr.alloc (.cells #[.int .i64 x] 3)).drew w' → w'.cell? ⟨w.heap.size, 2, none⟩ = some (.slice (some ⟨bb, oo, none⟩) d.length z) := fun w' h6 => ((hBr.trans h6).cell (p := ⟨w.heap.size, 2, none⟩) (by show w.heap.size < _; omega)).trans u2
            clear hown hownA hrest hI
            replace hdone := Lib.hid hdone
            replace hlt8 := Lib.hid hlt8
            replace hlk := Lib.hid hlk
            replace hz := Lib.hid hz
            replace hke := Lib.hid hke
            replace hts := Lib.hid hts
            by_cases hlast : ck + 1 = d.length
            · have t2 : (((ck : Nat) : Int) + 1 == ((d.length : Nat) : Int)) = true := by rw [beq_iff_eq]; omega
              have n3 := Lib.hid (n1 hlast)
              replace hlast := Lib.hid hlast
              clear n1 n2
              go_wp2_with fail
              go_region_law ((refine step_app_int rfl (.tmp 47) (.tmp 53) rfl wo.heap.size _ ys x wr.heap.size rfl hown' rfl (by simp [go_sem]) hlen (by simp; omega) (i + 1) hlk2.out ?_; intro a' c' w' ho' hb'; have d2 := (hb'.cell (by show w.heap.size + 1 + 1 < _; omega)).trans ((hBr.cell (by show w.heap.size + 1 + 1 < _; omega)).trans x2); have g2 := (hb'.frozen (by show w.heap.size + 1 + 1 < _; omega)).trans ((hBr.frozen (by show w.heap.size + 1 + 1 < _; omega)).trans f2); have d3 := hlt8.out w' hb'))
              all_goals go_wp2
              all_goals go_roundw
              all_goals
                first
                  | exact ⟨i + 1, _, by omega, by rw [n3.out]; rfl, by go_num, (hdone.out _ _ hb' ho').1⟩
                  | (simp [intOf]; omega)
            · have t2 : (((ck : Nat) : Int) + 1 == ((d.length : Nat) : Int)) = false := by rw [beq_eq_false_iff_ne]; omega
              have n3 := Lib.hid (n2 hlast)
              replace hlast := Lib.hid hlast
              clear n1 n2
              go_wp2_with fail
              go_region_law ((refine step_app_int rfl (.tmp 47) (.tmp 53) rfl wo.heap.size _ ys x wr.heap.size rfl hown' rfl (by simp [go_sem]) hlen (by simp; omega) (i + 1) hlk2.out ?_; intro a' c' w' ho' hb'; have d2 := (hb'.cell (by show w.heap.size + 1 + 1 < _; omega)).trans ((hBr.cell (by show w.heap.size + 1 + 1 < _; omega)).trans x2); have g2 := (hb'.frozen (by show w.heap.size + 1 + 1 < _; omega)).trans ((hBr.frozen (by show w.heap.size + 1 + 1 < _; omega)).trans f2); have d3 := hlt8.out w' hb'))
              all_goals go_wp2
              all_goals go_roundw
              all_goals
                first
                  | exact ⟨i + 1, _, by omega, by rw [n3.out]; go_num, by go_num, (hdone.out _ _ hb' ho').1⟩
                  | (simp [intOf]; omega)
        · obtain rfl : i = Q := by omega
          rw [List.take_of_length_le (by rw [cycle_length]; exact Nat.le_refl _)] at hown hI
          obtain ⟨dva, dvc, rfl, _, _, _⟩ := hown.view
          have hrow := hI.keep (Nat.le_refl _) rS (fun p e => by have := hfr p e; omega)
          obtain ⟨⟨z0, z1, z2⟩, y0, y1, y2⟩ := hR
          clear hrest hI hA
          go_wp2
          refine bodyPost_ret (v := .agg #[.bool ch, .slice av s0.length cv, .slice dva (M.cycle d i (M.fill ch)).length dvc]) (by simp [results, Tryd.results32, go_sem, cell?_set_same, z0, z1, z2]) rfl ?_
          have hne : ∀ p, av = some p → p.block ≠ w.heap.size + 1 := fun p e => by have := hfr p e; omega
          have hlo : w.heap.size + 1 < wo.heap.size := by omega
          refine ⟨av, cv, _, rfl, ?_, fun p e => by have := hfr p e; omega, ((((hown.setCell _ _ hlo).setCell _ _ hlo).setCell _ _ hlo)).low (by omega), ?_, set3 hbel (by omega) _ _ _⟩
          · intro j hj
            obtain ⟨bb, oo, rfl, hc⟩ := hrow j hj
            exact ⟨bb, oo, rfl, by
              rw [World.cell?_setCell_far _ _ _ _ (fun e => hne _ rfl e.symm), World.cell?_setCell_far _ _ _ _ (fun e => hne _ rfl e.symm), World.cell?_setCell_far _ _ _ _ (fun e => hne _ rfl e.symm)]; exact hc⟩
          · intro p bq l zq e1 e2
            cases e2
            have h1 := own_fresh hown _ rfl
            have h2 := hblk p e1
            omega
end Go.Proofs.YtiebknfmmanbiaaDoor
