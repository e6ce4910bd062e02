/- The call each.Two: a function of two numbers on two arrays, cell by cell. Condition: rows that lie as lists of ints of 64 bits. -/
import Derived.Test.YtaplaoelamnoiaaGreatDoorBg31
import Derived.Test.YtaplaoelamnoiaaGreatDoorWkFit2
import Derived.Test.YtaplaoelamnoiaaGreatDoorBg04
import Derived.Test.YtaplaoelamnoiaaGreatDoorBg01
import Derived.Deep.CutRange
import Derived.Laws.EntriesVeiled
namespace Go.Proofs.YtaplaoelamnoiaaGreatDoor
open Go.RowKit

namespace M
/-- A function of two numbers, on two arrays cell by cell. -/
def each2 (f : Int) (x y : Arr) : Except Int Arr :=
  if fn2 f = false then .error 1
  else if flaws x y ≠ 0 then .error (flaws x y)
  else match fitE x y with
  | .error e => .error e
  | .ok (s, N, k1, k2) => if ((!cmp f) && (x.ch || y.ch)) = true then .error 6
    else fillE s N fun i => tw f x.ch y.ch (pickC k1 x.d i) (pickC k2 y.d i)
end M

theorem cell_below9 {w w' : World} {a : Addr} {v : Value} (h : w.cell? a = some v) (hb : Below w.heap.size w w') : w'.cell? a = some v := (hb.cell (World.block_lt_of_cell? w _ h)).trans h
theorem idx_two0 (x0 x1 x2 y0 y1 y2 : Value) (W : World) : (Instr.index 177 (.agg #[x0, x1, x2, y0, y1, y2]) (.int .i64 0)).run Tryz.prog W = .ok (.agg #[x0, x1, x2]) W := by kernel_rfl
theorem idx_two1 (x0 x1 x2 y0 y1 y2 : Value) (W : World) : (Instr.index 177 (.agg #[x0, x1, x2, y0, y1, y2]) (.int .i64 1)).run Tryz.prog W = .ok (.agg #[y0, y1, y2]) W := by kernel_rfl
theorem fitE_parts {x y : Arr} {s : List Int} {N : Nat} {k1 k2 : Bool} (h : M.fitE x y = .ok (s, N, k1, k2)) (hx : M.flaw x.ch x.s x.d = 0) (hy : M.flaw y.ch y.s y.d = 0) :
    s.length ≤ 6 ∧ N ≤ 4096 ∧ (k1 = false → N = x.d.length) ∧ (k2 = false → N = y.d.length) ∧ (k1 = true → 0 < x.d.length) ∧ (k2 = true → 0 < y.d.length) := by
  obtain ⟨q1, c1, e1⟩ := flaw_parts hx
  obtain ⟨q2, c2, e2⟩ := flaw_parts hy
  obtain ⟨a1, a2, a3, a4, a5⟩ := M.count_ok c1
  obtain ⟨b1, b2, b3, b4, b5⟩ := M.count_ok c2
  unfold M.fitE at h
  split at h
  · rename_i hs
    cases h
    rw [hs] at a3
    have : M.prod [] = 1 := rfl
    exact ⟨b1, by omega, by simp, by simp, by intro _; omega, by simp⟩
  · split at h
    · rename_i hs
      cases h
      rw [hs] at b3
      have : M.prod [] = 1 := rfl
      exact ⟨a1, by omega, by simp, by simp, by simp, by intro _; omega⟩
    · split at h
      · cases h
      · split at h
        · cases h
        · rename_i h4
          cases h
          have h4' : x.s = y.s := Decidable.of_not_not h4
          refine ⟨a1, by omega, by simp, fun _ => ?_, by simp, by simp⟩
          rw [h4'] at a3
          omega

set_option maxRecDepth 20000 in
set_option maxHeartbeats 8000000 in
theorem each2_any (f : Int) (ch ch' : Bool) (a b a' b' : Option Addr) (s d s' d' : List Int) (m c n z m' c' n' z' : Nat) (w : World) (hs : Row w a s) (hd : Row w b d) (ls : s.length ≤ maxLen) (ld : d.length ≤ maxLen) (hd64 : All64 d) (em : m = s.length) (en : n = d.length)
    (hs' : Row w a' s') (hd' : Row w b' d') (ls' : s'.length ≤ maxLen) (ld' : d'.length ≤ maxLen) (hd64' : All64 d') (em' : m' = s'.length) (en' : n' = d'.length) :
    Calls Tryz.prog 162 #[.int .i64 f, arrV ch a m c b n z, arrV ch' a' m' c' b' n' z'] w fun e w' => ArrPostF (M.each2 f ⟨ch, s, d⟩ ⟨ch', s', d'⟩) w e w' := by
  subst em
  subst en
  subst em'
  subst en'
  have E := ((((((((Env.start w).addRow hd').addRow hs').addRow hd).addRow hs).alloc (.cells #[.int .i64 f] 72)).box ch a s.length c b d.length z).box ch' a' s'.length c' b' d'.length z').box false none 0 0 none 0 0
  have cF : ((w.alloc (.cells #[.int .i64 f] 72)).alloc (.cells #[.bool ch, .slice a s.length c, .slice b d.length z] 24) |>.alloc (.cells #[.bool ch', .slice a' s'.length c', .slice b' d'.length z'] 24) |>.alloc (.cells #[.bool false, .slice none 0 0, .slice none 0 0] 24)).cell? ⟨w.heap.size, 0, none⟩ = some (.int .i64 f) := by simp [go_sem]
  simp only [World.size_alloc] at E
  have k0 := fun W => cellTwo_any f 0 1 W (by unfold I64; omega) (by unfold I64; omega)
  have kc1 := fun w h1 h2 => check_any ch a b s d _ c _ z w h1 h2 ls ld rfl rfl
  have kc2 := fun w h1 h2 => check_any ch' a' b' s' d' _ c' _ z' w h1 h2 ls' ld' rfl rfl
  have hr0 : M.each2 f ⟨ch, s, d⟩ ⟨ch', s', d'⟩ = if M.fn2 f = false then .error 1
      else if M.flaws ⟨ch, s, d⟩ ⟨ch', s', d'⟩ ≠ 0 then .error (M.flaws ⟨ch, s, d⟩ ⟨ch', s', d'⟩)
      else match M.fitE ⟨ch, s, d⟩ ⟨ch', s', d'⟩ with
      | .error e => .error e
      | .ok (s0, N, k1, k2) => if ((!M.cmp f) && (ch || ch')) = true then .error 6
        else M.fillE s0 N fun i => M.tw f ch ch' (M.pickC k1 d i) (M.pickC k2 d' i) := rfl
  replace k0 := Lib.hid k0
  replace kc1 := Lib.hid kc1
  replace kc2 := Lib.hid kc2
  by_cases hfn : M.fn2 f = true
  case neg =>
    replace hfn := Bool.eq_false_iff.2 hfn
    have hv := two_unknown hfn 0 1
    have hr := Lib.hid (hr0.trans (if_pos hfn))
    replace hfn := Lib.hid hfn
    replace hv := Lib.hid hv
    clear hr0
    go_enter Tryz.func162, Tryz.ntmps162
    go_wp2_with fail
    refine (k0.out _).mono ?_
    rw [hv.out]
    rintro e w1 ⟨rfl, n1, rfl⟩
    dsimp only [resI]
    replace E := E.drew n1
    obtain ⟨⟨z0, z1, z2⟩, y0, y1, y2⟩ := E.getBox 0 rfl
    have hbel := E.bel
    clear E cF
    go_wp2
    refine bodyPost_ret (v := .tuple #[arrV false none 0 0 none 0 0, .iface 46 (.int .i64 1)]) (by simp [results, Tryz.results162, go_sem, cell?_set_same, z0, z1, z2]) rfl ?_
    exact .error hr.out rfl (set3 hbel (by omega) _ _ _)
  obtain ⟨v0, hv⟩ := two_known hfn
  rw [if_neg (by rw [hfn]; simp)] at hr0
  replace hfn := Lib.hid hfn
  replace hv := Lib.hid hv
  replace hr0 := Lib.hid hr0
  go_enter Tryz.func162, Tryz.ntmps162
  go_wp2_with fail
  refine (k0.out _).mono ?_
  rw [hv.out]
  rintro e w1 ⟨rfl, n1, rfl⟩
  dsimp only [resI]
  replace E := E.drew n1
  replace cF := cell_drewN cF n1
  obtain ⟨⟨u0, u1, u2⟩, -, -, -⟩ := E.getBox 2 rfl
  obtain ⟨⟨t0, t1, t2⟩, -, -, -⟩ := E.getBox 1 rfl
  clear k0
  generalize hw1 : World.drewN _ n1 = w1 at *
  replace hw1 := Lib.hid hw1
  have eb := (E.getBox 0 rfl).lt
  go_wp2
  go_loopw [30] (fun v wr => ((v = .int .i64 0) ∨ (v = .int .i64 1 ∧ M.flaw ch s d = 0) ∨ (v = .int .i64 2 ∧ M.flaw ch s d = 0 ∧ M.flaw ch' s' d' = 0)) ∧ Below w1.heap.size w1 wr) (fun v _ => 2 - (intOf v).toNat)
  case atStart => exact ⟨.inl rfl, Below.refl _ _⟩
  case round =>
    clear u0 u1 u2 t0 t1 t2
    obtain ⟨hcase, hbw⟩ := hrel
    have Er := E.step hbw
    have cFr := (hbw.cell (World.block_lt_of_cell? _ _ cF)).trans cF
    clear E cF
    rcases hcase with rfl | ⟨rfl, h1⟩ | ⟨rfl, h1, h2⟩
    · have Ex := Er.box ch a s.length c b d.length z
      have ix := idx_two0 (.bool ch) (.slice a s.length c) (.slice b d.length z) (.bool ch') (.slice a' s'.length c') (.slice b' d'.length z')
      go_wp2_with fail
      refine (kc1.out _ (Ex.getRow 4 rfl) (Ex.getRow 5 rfl)).mono ?_
      rintro e w5 ⟨rfl, hb⟩
      replace Ex := Ex.step hb
      by_cases hf : M.flaw ch s d = 0
      · rw [hf, errV_zero]
        have hbn := below_trans (hbw.alloc hbw.size (.cells #[.bool ch, .slice a s.length c, .slice b d.length z] 24)) ⟨hb.os, hb.tape, hb.output, hb.size, hb.block⟩
        replace hf := Lib.hid hf
        go_wp2
        go_roundw
        case rel => exact ⟨.inr (.inl ⟨by go_num, hf.out⟩), hbn⟩
        case measure => simp [intOf]
      · have hr := Lib.hid (hr0.out.trans ((if_pos (by unfold M.flaws; rw [if_neg hf]; exact hf)).trans (by unfold M.flaws; rw [if_neg hf])) : M.each2 f ⟨ch, s, d⟩ ⟨ch', s', d'⟩ = .error (M.flaw ch s d))
        rw [errV_ne hf]
        generalize M.flaw ch s d = nn at *
        replace hf := Lib.hid hf
        obtain ⟨⟨z0, z1, z2⟩, y0, y1, y2⟩ := Ex.getBox 1 rfl
        have hbx := Ex.bel
        clear Ex Er
        go_wp2
        refine bodyPost_ret (v := .tuple #[arrV false none 0 0 none 0 0, .iface 46 (.int .i64 nn)]) (by simp [results, Tryz.results162, go_sem, cell?_set_same, z0, z1, z2]) rfl ?_
        exact .error hr.out rfl (set3 hbx (by omega) _ _ _)
    · have Ex := Er.box ch' a' s'.length c' b' d'.length z'
      have ix := idx_two1 (.bool ch) (.slice a s.length c) (.slice b d.length z) (.bool ch') (.slice a' s'.length c') (.slice b' d'.length z')
      go_wp2_with fail
      refine (kc2.out _ (Ex.getRow 6 rfl) (Ex.getRow 7 rfl)).mono ?_
      rintro e w5 ⟨rfl, hb⟩
      replace Ex := Ex.step hb
      by_cases hf : M.flaw ch' s' d' = 0
      · rw [hf, errV_zero]
        have hbn := below_trans (hbw.alloc hbw.size (.cells #[.bool ch', .slice a' s'.length c', .slice b' d'.length z'] 24)) ⟨hb.os, hb.tape, hb.output, hb.size, hb.block⟩
        replace hf := Lib.hid hf
        replace h1 := Lib.hid h1
        go_wp2
        go_roundw
        case rel => exact ⟨.inr (.inr ⟨by go_num, h1.out, hf.out⟩), hbn⟩
        case measure => simp [intOf]
      · have hr := Lib.hid (hr0.out.trans ((if_pos (by unfold M.flaws; rw [if_pos h1]; exact hf)).trans (by unfold M.flaws; rw [if_pos h1])) : M.each2 f ⟨ch, s, d⟩ ⟨ch', s', d'⟩ = .error (M.flaw ch' s' d'))
        rw [errV_ne hf]
        generalize M.flaw ch' s' d' = nn at *
        replace hf := Lib.hid hf
        replace h1 := Lib.hid h1
        obtain ⟨⟨z0, z1, z2⟩, y0, y1, y2⟩ := Ex.getBox 1 rfl
        have hbx := Ex.bel
        clear Ex Er
        go_wp2
        refine bodyPost_ret (v := .tuple #[arrV false none 0 0 none 0 0, .iface 46 (.int .i64 nn)]) (by simp [results, Tryz.results162, go_sem, cell?_set_same, z0, z1, z2]) rfl ?_
        exact .error hr.out rfl (set3 hbx (by omega) _ _ _)
    · have hfl : M.flaws ⟨ch, s, d⟩ ⟨ch', s', d'⟩ = 0 := by unfold M.flaws; rw [if_pos h1]; exact h2
      have hr1 := hr0.out.trans (if_neg (fun h => h hfl))
      have l6 := (flaw_len h1).2
      have l6' := (flaw_len h2).2
      have l4 := (flaw_len h1).1
      have l4' := (flaw_len h2).1
      have hfit := fun w h1 h2 => fitE_any ch ch' a b a' b' s d s' d' _ c _ z _ c' _ z' w h1 h2 l6 l6' l4 l4' rfl rfl rfl rfl
      have hpt := fun s N k1 k2 h => fitE_parts (s := s) (N := N) (k1 := k1) (k2 := k2) (x := ⟨ch, s', d⟩) (y := ⟨ch', s', d'⟩) h
      clear hpt
      replace hfl := Lib.hid hfl
      replace hfit := Lib.hid hfit
      obtain ⟨⟨u0, u1, u2⟩, -, -, -⟩ := Er.getBox 2 rfl
      obtain ⟨⟨t0, t1, t2⟩, -, -, -⟩ := Er.getBox 1 rfl
      cases hfe : M.fitE ⟨ch, s, d⟩ ⟨ch', s', d'⟩ with
      | error x =>
        rw [hfe] at hr1
        have hr := Lib.hid hr1
        clear hr1
        replace hfe := Lib.hid hfe
        replace h1 := Lib.hid h1
        replace h2 := Lib.hid h2
        go_wp2_with fail
        refine (hfit.out _ (Er.getRow 3 rfl) (Er.getRow 5 rfl)).mono ?_
        intro e w6 hp
        obtain rfl := hp.1 _ hfe.out
        have hb := hp.2.2
        clear hp u0 u1 u2 t0 t1 t2
        have E6 := ((Er.step hb).alloc (.cells #[.nilFunc] 217)).alloc (.cells #[.nilFunc] 217)
        obtain ⟨⟨z0, z1, z2⟩, y0, y1, y2⟩ := E6.getBox 0 rfl
        have hbx := E6.bel
        clear E6 Er
        go_wp2
        refine bodyPost_ret (v := .tuple #[arrV false none 0 0 none 0 0, .iface 46 (.int .i64 x)]) (by simp [results, Tryz.results162, go_sem, cell?_set_same, z0, z1, z2]) rfl ?_
        exact .error hr.out rfl (set3 hbx (by omega) _ _ _)
      | ok q =>
        obtain ⟨s0, N, k1, k2⟩ := q
        rw [hfe] at hr1
        dsimp only at hr1
        have hpt := fitE_parts hfe h1 h2
        dsimp only at hpt
        replace hr1 := Lib.hid hr1
        replace hfe := Lib.hid hfe
        replace h1 := Lib.hid h1
        replace h2 := Lib.hid h2
        go_wp2_with fail
        refine (hfit.out _ (Er.getRow 3 rfl) (Er.getRow 5 rfl)).mono ?_
        intro e w6 hp
        obtain ⟨a6, c6, A1, B1, rfl, r6, cA1, cB1⟩ := hp.2.1 _ _ _ _ hfe.out
        have hb := hp.2.2
        clear hp u0 u1 u2 t0 t1 t2
        have E6 := (((Er.step hb).addRow r6).alloc (.cells #[.func (.func (pickF k1)) #[] #[.pointer (some ⟨A1, 0, none⟩)]] 217)).alloc (.cells #[.func (.func (pickF k2)) #[] #[.pointer (some ⟨B1, 0, none⟩)]] 217)
        have cF6 := (hb.cell (World.block_lt_of_cell? _ _ cFr)).trans cFr
        have hbA := push (push (start w6) (.cells #[.func (.func (pickF k1)) #[] #[.pointer (some ⟨A1, 0, none⟩)]] 217)) (.cells #[.func (.func (pickF k2)) #[] #[.pointer (some ⟨B1, 0, none⟩)]] 217)
        replace cF6 := (hbA.cell (World.block_lt_of_cell? _ _ cF6)).trans cF6
        replace cA1 := (hbA.cell (World.block_lt_of_cell? _ _ cA1)).trans cA1
        replace cB1 := (hbA.cell (World.block_lt_of_cell? _ _ cB1)).trans cB1
        have cO : ((w6.alloc (.cells #[.func (.func (pickF k1)) #[] #[.pointer (some ⟨A1, 0, none⟩)]] 217)).alloc (.cells #[.func (.func (pickF k2)) #[] #[.pointer (some ⟨B1, 0, none⟩)]] 217)).cell? ⟨w6.heap.size, 0, none⟩ = some (.func (.func (pickF k1)) #[] #[.pointer (some ⟨A1, 0, none⟩)]) := by simp [go_sem]
        have cT : ((w6.alloc (.cells #[.func (.func (pickF k1)) #[] #[.pointer (some ⟨A1, 0, none⟩)]] 217)).alloc (.cells #[.func (.func (pickF k2)) #[] #[.pointer (some ⟨B1, 0, none⟩)]] 217)).cell? ⟨w6.heap.size + 1, 0, none⟩ = some (.func (.func (pickF k2)) #[] #[.pointer (some ⟨B1, 0, none⟩)]) := by simp [go_sem]
        clear hb Er cFr hbA r6
        obtain ⟨⟨u0, u1, u2⟩, -, -, -⟩ := E6.getBox 3 rfl
        obtain ⟨⟨t0, t1, t2⟩, -, -, -⟩ := E6.getBox 2 rfl
        go_upto_region 14 with fail
        generalize hW7 : ((w6.alloc _).alloc _) = W7 at *
        replace hW7 := Lib.hid hW7
        go_cut [66] from 53 (fun s66 wx => wx = W7 ∧ s66 = .bool ((!M.cmp f) && (ch || ch')))
        case first =>
          by_cases h8 : f = 8
          · have e8 : (f != 8) = false := by rw [h8]; rfl
            have ec : M.cmp f = true := by rw [h8]; rfl
            replace h8 := Lib.hid h8
            replace ec := Lib.hid ec
            go_wp2
            go_meet
            case rel => exact ⟨rfl, by rw [ec.out]; rfl⟩
          · have e8 : (f != 8) = true := by rw [bne_iff_ne]; exact h8
            by_cases h9 : f = 9
            · have e9 : (f != 9) = false := by rw [h9]; rfl
              have ec : M.cmp f = true := by rw [h9]; rfl
              replace h8 := Lib.hid h8
              replace h9 := Lib.hid h9
              replace ec := Lib.hid ec
              go_wp2
              go_meet
              case rel => exact ⟨rfl, by rw [ec.out]; rfl⟩
            · have e9 : (f != 9) = true := by rw [bne_iff_ne]; exact h9
              have ec : M.cmp f = false := by
                unfold M.cmp
                rw [beq_eq_false_iff_ne.2 h8, beq_eq_false_iff_ne.2 h9]; rfl
              replace h8 := Lib.hid h8
              replace h9 := Lib.hid h9
              replace ec := Lib.hid ec
              clear hr1 hfe h1 h2 kc1 kc2 hr0 hfit hfl
              cases ch
              · cases ch'
                · go_wp2
                  go_meet
                  case rel => exact ⟨rfl, by rw [ec.out]; rfl⟩
                · go_wp2
                  go_meet
                  case rel => exact ⟨rfl, by rw [ec.out]; rfl⟩
              · go_wp2
                go_meet
                case rel => exact ⟨rfl, by rw [ec.out]; rfl⟩
        case rest =>
          obtain ⟨rfl, rfl⟩ := hcut
          cases hcc : ((!M.cmp f) && (ch || ch')) with
          | true =>
            have hr := Lib.hid (hr1.out.trans (if_pos hcc))
            replace hcc := Lib.hid hcc
            obtain ⟨⟨z0, z1, z2⟩, y0, y1, y2⟩ := E6.getBox 1 rfl
            have hbx := E6.bel
            clear E6
            go_wp2
            refine bodyPost_ret (v := .tuple #[arrV false none 0 0 none 0 0, .iface 46 (.int .i64 6)]) (by simp [results, Tryz.results162, go_sem, cell?_set_same, z0, z1, z2]) rfl ?_
            exact .error hr.out rfl (set3 hbx (by omega) _ _ _)
          | false =>
            have hr := Lib.hid (hr1.out.trans (if_neg (by rw [hcc]; simp)))
            replace hcc := Lib.hid hcc
            obtain ⟨p1, p2, p3, p4, p5, p6⟩ := hpt
            have rD := E6.getRow 5 rfl
            have rD' := E6.getRow 7 rfl
            have cA := u0
            have cB := t0
            have hfil := filled_any (fun i => M.tw f ch ch' (M.pickC k1 d i) (M.pickC k2 d' i)) s0 a6 c6 N (w.heap.size + 1) (w.heap.size + 1 + 1) w.heap.size w6.heap.size (w6.heap.size + 1) wc (E6.getRow 0 rfl) p1 p2 (fun i hi w' hb =>
              tell_any f ch ch' k1 k2 d d' b b' _ _ _ _ _ A1 B1 z z' i w' (cell_below9 cA hb) (cell_below9 cB hb) (cell_below9 cF6 hb) (cell_below9 cO hb) (cell_below9 cT hb) (cell_below9 cA1 hb) (cell_below9 cB1 hb) (rD.below hb) (rD'.below hb)
                (by cases k1 with | true => exact p5 rfl | false => have := p3 rfl; omega) (by cases k2 with | true => exact p6 rfl | false => have := p4 rfl; omega) (fun h => by have := p3 h; omega) (fun h => by have := p4 h; omega) ld ld' hd64 hd64')
            replace hfil := Lib.hid hfil
            have hbel := E6.bel
            have eR := E6.getBox 1 rfl
            have wR : w.heap.size + 1 + 1 + 1 < wc.heap.size := eR.lt
            clear cA cB rD rD'
            go_wp2_with fail
            refine hfil.out.mono ?_
            intro e w8 hp
            replace eR := eR.below hp.2.2
            have hb8 := below_trans hbel hp.2.2
            have hsz := hbel.size
            obtain ⟨⟨z0, z1, z2⟩, y0, y1, y2⟩ := eR
            cases hse : M.fillE s0 N (fun i => M.tw f ch ch' (M.pickC k1 d i) (M.pickC k2 d' i)) with
            | error x =>
              obtain ⟨rfl, hb⟩ := hp.is_error hse
              have hr2 := Lib.hid (hr.out.trans hse)
              clear hp
              replace hse := Lib.hid hse
              go_wp2
              refine bodyPost_ret (v := .tuple #[arrV false none 0 0 none 0 0, .iface 46 (.int .i64 x)]) (by simp [results, Tryz.results162, go_sem, cell?_set_same, z0, z1, z2]) rfl ?_
              exact .error hr2.out rfl (set3 hb8 (by omega) _ _ _)
            | ok x =>
              obtain ⟨a9, c9, b9, k9, rfl, ra, rb, fa, fb, hcap, hb⟩ := hp.is_ok hse
              have hr2 := Lib.hid (hr.out.trans hse)
              clear hp
              replace hse := Lib.hid hse
              go_wp2
              refine bodyPost_ret (v := .tuple #[arrV x.ch a9 x.s.length c9 b9 x.d.length k9, .nilIface]) (by simp [results, Tryz.results162, go_sem, cell?_set_same, z0, z1, z2]) rfl ?_
              have hfa : ∀ p, a9 = some p → p.block ≠ w.heap.size + 1 + 1 + 1 := fun p e => by have := fa p e; omega
              have hfb : ∀ p, b9 = some p → p.block ≠ w.heap.size + 1 + 1 + 1 := fun p e => by have := fb p e; omega
              have hk : ∀ (u0 u1 u2 : Value) (b : Nat), b ≠ w.heap.size + 1 + 1 + 1 → (((w8.setCell ⟨w.heap.size + 1 + 1 + 1, 0, none⟩ u0).setCell ⟨w.heap.size + 1 + 1 + 1, 1, none⟩ u1).setCell ⟨w.heap.size + 1 + 1 + 1, 2, none⟩ u2).heap[b]? = w8.heap[b]? := fun u0 u1 u2 b hb => by
                rw [Below.heap_setCell _ _ _ b hb, Below.heap_setCell _ _ _ b hb, Below.heap_setCell _ _ _ b hb]
              refine ArrPostF.ok (x := x) hr2.out rfl ?_ ?_ (fun p e => Nat.le_trans hsz (fa p e)) (fun p e => Nat.le_trans hsz (fb p e)) hcap (set3 hb8 (by omega) _ _ _)
              · intro j hj
                obtain ⟨bb, o, rfl, hc⟩ := ra j hj
                exact ⟨bb, o, rfl, (cell_of_eq (hk _ _ _ bb (hfa _ rfl)) (o + j)).trans hc⟩
              · intro j hj
                obtain ⟨bb, o, rfl, hc⟩ := rb j hj
                exact ⟨bb, o, rfl, (cell_of_eq (hk _ _ _ bb (hfb _ rfl)) (o + j)).trans hc⟩
end Go.Proofs.YtaplaoelamnoiaaGreatDoor
