/- The document's joined and Outered: each with each. Condition: rows that lie as lists of ints of 64 bits. -/
import Derived.Test.YtcenhemlgapkeaaDoorBdY
import Derived.Test.YtcenhemlgapkeaaDoorConcatO
import Derived.Test.YtcenhemlgapkeaaDoorWkOutD0
import Derived.Test.YtcenhemlgapkeaaDoorRefFlaws
import Derived.Test.YtcenhemlgapkeaaDoorBdK
import Derived.Test.YtcenhemlgapkeaaDoorRefCoords
import Derived.Test.YtcenhemlgapkeaaDoorSemiRing
import Derived.Deep.Cut
import Derived.Deep.CutRange
namespace Go.Proofs.YtcenhemlgapkeaaDoor
open Go.RowKit

set_option maxHeartbeats 1000000 in
theorem joined2_any (a b : Option Addr) (s t : List Int) (m n c d : Nat) (w : World) (hs : Row w a s) (ht : Row w b t) (hm : s.length + t.length < 17592186044416) (em : m = s.length) (en : n = t.length) :
    Calls Tryd.prog 59 #[.slice a m c, .slice b n d] w fun e w' => ∃ v, e = .returned v ∧ Own w' w.heap.size v (s ++ t) ∧ Below w.heap.size w w' := by
  subst em
  subst en
  have h1 : ([] : List Int).length + s.length < 17592186044416 := by simp only [List.length_nil]; omega
  go_enter Tryd.func59, Tryd.ntmps59
  go_wp2_with (first
    | (at_builtin; refine app_opt rfl (.tmp 6) (.tmp 7) rfl w.heap.size (.slice none 0 0) [] s a c rfl (Own.nil _ _) rfl hs h1 (Nat.le_refl _) ?_; intro v1 w1 ho1 hb1 hl1; have ht1 := ht.below hb1; obtain ⟨a1, c1, rfl, -, -, -⟩ := ho1.view; replace ho1 := Lib.hid ho1)
    | (at_builtin; refine app_opt rfl (.tmp 9) (.tmp 10) rfl w.heap.size (.slice a1 ([] ++ s).length c1) ([] ++ s) t b d rfl ho1.out rfl ht1 (by rw [List.nil_append]; exact hm) hl1 ?_; intro v2 w2 ho2 hb2 hl2))
  go_ret
  exact ⟨_, rfl, by simpa using ho2, hb1.trans hb2⟩

theorem boxF_eqO {w v : World} {N : Nat} {ch : Bool} {a : Option Addr} {m c : Nat} {b : Option Addr} {n z : Nat} (h : BoxF w N ch a m c b n z) (e : v.heap[N]? = w.heap[N]?) : BoxF v N ch a m c b n z := by
  obtain ⟨⟨x0, x1, x2⟩, y0, y1, y2⟩ := h
  exact ⟨⟨(cell_of_eq e 0).trans x0, (cell_of_eq e 1).trans x1, (cell_of_eq e 2).trans x2⟩, (frozen_of_eq e 0).trans y0, (frozen_of_eq e 1).trans y1, (frozen_of_eq e 2).trans y2⟩
theorem OutAt.belowW {w wB wr w' : World} {N B : Nat} {ch : Bool} {sv dv : Value} {ys : List Int} (h : OutAt w wB N B ch sv dv ys wr) (hNB : N < B) (hb : Below wr.heap.size wr w') (hw : w.heap.size ≤ B) : OutAt w wB N B ch sv dv ys w' := by
  obtain ⟨⟨⟨c0, c1, c2⟩, f2⟩, hown, hbel, hsz, hrest⟩ := h
  have e := hb.block N (by omega)
  have hs := hb.size
  exact ⟨⟨⟨(cell_of_eq e 0).trans c0, (cell_of_eq e 1).trans c1, (cell_of_eq e 2).trans c2⟩, (frozen_of_eq e 2).trans f2⟩, hown.below hb, hbel.trans (hb.mono (by omega)), by omega, fun b h1 h2 => (hb.block b (by omega)).trans (hrest b h1 h2)⟩

set_option maxRecDepth 20000 in
set_option maxHeartbeats 16000000 in
theorem refOuter_any (f : Int) (ch ch' : Bool) (a b a' b' : Option Addr) (s d s' d' : List Int) (m c n z m' c' n' z' : Nat) (w : World) (hs : Row w a s) (hd : Row w b d) (ls : s.length ≤ maxLen) (ld : d.length ≤ maxLen) (hd64 : All64 d) (em : m = s.length) (en : n = d.length)
    (hs' : Row w a' s') (hd' : Row w b' d') (ls' : s'.length ≤ maxLen) (ld' : d'.length ≤ maxLen) (hd64' : All64 d') (em' : m' = s'.length) (en' : n' = d'.length) :
    Calls Tryd.prog 33 #[.int .i64 f, arrV ch a m c b n z, arrV ch' a' m' c' b' n' z'] w fun e w' => DocPost (M.outer f ⟨ch, s, d⟩ ⟨ch', s', d'⟩) w e w' := by
  subst em
  subst en
  subst em'
  subst en'
  have E := ((((((Env.start w).addRow hd').addRow hs').addRow hd).addRow hs).box ch a s.length c b d.length z).box ch' a' s'.length c' b' d'.length z' |>.box false none 0 0 none 0 0
  simp only [World.size_alloc] at E
  have kf := fun w h1 h2 h3 h4 => refFlaws_any ch ch' a b a' b' s d s' d' _ c _ z _ c' _ z' w h1 h2 ls ld rfl rfl h3 h4 ls' ld' rfl rfl
  replace kf := Lib.hid kf
  have hd0 := Lib.hid hd
  have hd0' := Lib.hid hd'
  have hs0 := Lib.hid hs
  have hs0' := Lib.hid hs'
  clear hs hd hs' hd'
  by_cases hfn : M.fn2 f = true
  case neg =>
    have hr := Lib.hid (show M.outer f ⟨ch, s, d⟩ ⟨ch', s', d'⟩ = .error 1 from if_pos hfn)
    have hn : ¬ (1 ≤ f ∧ f ≤ 16) := by intro h; exact hfn (by unfold M.fn2; exact decide_eq_true h)
    have hbel := E.bel
    obtain ⟨⟨z0, z1, z2⟩, y0, y1, y2⟩ := E.getBox 0 rfl
    clear E
    by_cases h1 : f < 1
    · have t1 : decide (f < 1) = true := decide_eq_true h1
      replace hn := Lib.hid hn
      replace hfn := Lib.hid hfn
      go_enter Tryd.func33, Tryd.ntmps33
      go_wp2
      refine bodyPost_ret (v := .tuple #[arrV false none 0 0 none 0 0, .int .i64 1]) (by simp [results, Tryd.results33, go_sem, cell?_set_same, z0, z1, z2]) rfl ?_
      exact .error hr.out rfl hbel
    · have t1 : decide (f < 1) = false := decide_eq_false h1
      have t2 : decide (16 < f) = true := decide_eq_true (by omega)
      replace hn := Lib.hid hn
      replace hfn := Lib.hid hfn
      go_enter Tryd.func33, Tryd.ntmps33
      go_wp2
      refine bodyPost_ret (v := .tuple #[arrV false none 0 0 none 0 0, .int .i64 1]) (by simp [results, Tryd.results33, go_sem, cell?_set_same, z0, z1, z2]) rfl ?_
      exact .error hr.out rfl hbel
  have hr0 : M.outer f ⟨ch, s, d⟩ ⟨ch', s', d'⟩ = if M.flaws ⟨ch, s, d⟩ ⟨ch', s', d'⟩ ≠ 0 then .error (M.flaws ⟨ch, s, d⟩ ⟨ch', s', d'⟩) else match M.count (s ++ s') with
      | .error e => .error e
      | .ok _ => if ((ch || ch') && !M.cmp f) = true then .error 6
        else match M.seqE (d.length * d'.length) (M.outC f ch ch' d d') with
        | .error e => .error e
        | .ok l => .ok ⟨false, s ++ s', l⟩ := if_neg (fun h => h hfn)
  have hn : 1 ≤ f ∧ f ≤ 16 := by unfold M.fn2 at hfn; exact of_decide_eq_true hfn
  have t1 : decide (f < 1) = false := decide_eq_false (by omega)
  have t2 : decide (16 < f) = false := decide_eq_false (by omega)
  replace hn := Lib.hid hn
  replace hfn := Lib.hid hfn
  replace hr0 := Lib.hid hr0
  obtain ⟨⟨u0, u1, u2⟩, -, -, -⟩ := E.getBox 2 rfl
  obtain ⟨⟨v0, v1, v2⟩, -, -, -⟩ := E.getBox 1 rfl
  go_enter Tryd.func33, Tryd.ntmps33
  go_wp2_with fail
  refine (kf.out _ (E.getRow 3 rfl) (E.getRow 4 rfl) (E.getRow 5 rfl) (E.getRow 6 rfl)).mono ?_
  rintro e w2 ⟨rfl, hb⟩
  replace E := E.step hb
  have lR : w.heap.size + 1 + 1 < w2.heap.size := (E.getBox 0 rfl).lt
  clear hb u0 u1 u2 v0 v1 v2 kf t1 t2
  by_cases hfl : M.flaws ⟨ch, s, d⟩ ⟨ch', s', d'⟩ = 0
  case neg =>
    have hr := Lib.hid (hr0.out.trans (if_pos hfl))
    have hxz : (M.flaws ⟨ch, s, d⟩ ⟨ch', s', d'⟩ != 0) = true := by rw [bne_iff_ne]; exact hfl
    generalize M.flaws ⟨ch, s, d⟩ ⟨ch', s', d'⟩ = nn at *
    replace hfl := Lib.hid hfl
    obtain ⟨⟨z0, z1, z2⟩, y0, y1, y2⟩ := E.getBox 0 rfl
    have hbel := E.bel
    clear E
    go_wp2
    refine bodyPost_ret (v := .tuple #[arrV false none 0 0 none 0 0, .int .i64 nn]) (by simp [results, Tryd.results33, go_sem, cell?_set_same, z0, z1, z2]) rfl ?_
    exact .error hr.out rfl (set3 hbel (by omega) _ _ _)
  obtain ⟨hfa, hfb⟩ := flaws_parts hfl
  dsimp only at hfa hfb
  have hr1 := hr0.out.trans (if_neg (fun h => h hfl))
  rw [hfl]
  have l6 := (flaw_len hfa).2
  have l6' := (flaw_len hfb).2
  replace hfl := Lib.hid hfl
  obtain ⟨q1, hq1, e1⟩ := flaw_parts hfa
  obtain ⟨q2, hq2, e2⟩ := flaw_parts hfb
  have hp1 : q1 = M.prod s := (M.count_ok hq1).2.2.1
  have hp2 : q2 = M.prod s' := (M.count_ok hq2).2.2.1
  replace hfa := Lib.hid hfa
  replace hfb := Lib.hid hfb
  replace hr1 := Lib.hid hr1
  replace hq1 := Lib.hid hq1
  replace hq2 := Lib.hid hq2
  have e2p : M.prod s' = ((d'.length : Nat) : Int) := by omega
  replace e1 := Lib.hid e1
  replace e2 := Lib.hid e2
  replace hp1 := Lib.hid hp1
  replace hp2 := Lib.hid hp2
  replace e2p := Lib.hid e2p
  clear hr0
  obtain ⟨⟨u0, u1, u2⟩, -, -, -⟩ := E.getBox 2 rfl
  obtain ⟨⟨v0, v1, v2⟩, -, -, -⟩ := E.getBox 1 rfl
  go_wp2_with fail
  refine (joined2_any a a' s s' _ _ c c' _ (E.getRow 3 rfl) (E.getRow 5 rfl) (by omega) rfl rfl).mono ?_
  rintro e w3 ⟨v3, rfl, ho3, hb⟩
  have sz1 : w.heap.size ≤ w2.heap.size := E.bel.size
  have sz3 : w2.heap.size ≤ w3.heap.size := hb.size
  replace E := E.step hb
  clear hb u0 u1 u2 v0 v1 v2
  obtain ⟨S, hS⟩ : ∃ S, S = s ++ s' := ⟨_, rfl⟩
  rw [← hS] at ho3
  have lS : S.length = s.length + s'.length := by rw [hS, List.length_append]
  obtain ⟨av, kv, rfl, hkv, -, rv⟩ := ho3.view
  have hr2 := hr1.out
  rw [← hS] at hr2
  replace hS := Lib.hid hS
  replace ho3 := Lib.hid ho3
  have hff := fun W h => fault_any av S S.length kv W h (by unfold maxLen; omega) rfl
  have hlS := Lib.hid lS
  have lS6 : S.length ≤ 12 := by omega
  clear lS
  cases hcnt : M.count S with
  | error e0 =>
    rw [hcnt] at hr2
    dsimp only at hr2
    have hxz : (e0 != 0) = true := by rw [bne_iff_ne]; exact count_ne hcnt
    simp only [fault_error hcnt] at hff
    replace hff := Lib.hid hff
    replace hr2 := Lib.hid hr2
    replace hcnt := Lib.hid hcnt
    go_wp2_with fail
    refine (hff.out _ rv).mono ?_
    rintro e w4 ⟨rfl, rfl⟩
    obtain ⟨⟨z0, z1, z2⟩, y0, y1, y2⟩ := E.getBox 0 rfl
    have hbel := E.bel
    clear E
    go_wp2
    refine bodyPost_ret (v := .tuple #[arrV false none 0 0 none 0 0, .int .i64 e0]) (by simp [results, Tryd.results33, go_sem, cell?_set_same, z0, z1, z2]) rfl ?_
    exact .error hr2.out rfl (set3 hbel (by omega) _ _ _)
  | ok N =>
  rw [hcnt] at hr2
  dsimp only at hr2
  have hcnt' := hcnt
  rw [hS.out] at hcnt'
  obtain ⟨hNk, hnk, hdn, hdk⟩ := outer_sizes hfa.out hfb.out hcnt'
  simp only [fault_ok hcnt] at hff
  have hce := fun W h => cells_any av S S.length kv N W h hcnt rfl
  have hco := fun (i : Nat) W h (h1 : (i : Int) < N) => coordsB_any av S S.length kv N (i : Int) W h hcnt (Int.natCast_nonneg i) h1 rfl
  have hcp := fun (i : Nat) (h1 : (i : Int) < N) => coords_parts (s := s) (t := s') (i := i) hcnt' h1
  rw [← hS.out] at hcp
  rw [e2p.out] at hcp
  replace hff := Lib.hid hff
  replace hr2 := Lib.hid hr2
  replace hcnt := Lib.hid hcnt
  replace hcnt' := Lib.hid hcnt'
  replace hce := Lib.hid hce
  replace hco := Lib.hid hco
  replace hcp := Lib.hid hcp
  clear hr1
  go_wp2_with fail
  refine (hff.out _ rv).mono ?_
  rintro e w4 ⟨rfl, rfl⟩
  obtain ⟨⟨u0, u1, u2⟩, -, -, -⟩ := E.getBox 2 rfl
  obtain ⟨⟨v0, v1, v2⟩, -, -, -⟩ := E.getBox 1 rfl
  go_upto_region 10 with fail
  go_cut [53] from 43 to 52 (fun s53 wx => wx = w3 ∧ s53 = .bool ((ch || ch') && !M.cmp f))
  case first =>
    have hcm := Lib.hid (refCompares_any f w3)
    clear hr2 hcnt hcnt' hce hco hcp hff
    cases ch
    · cases ch'
      · go_wp2
        go_meet
        case rel => exact ⟨rfl, by simp⟩
      · go_wp2_with fail
        refine hcm.out.mono ?_
        rintro e w' ⟨rfl, rfl⟩
        go_wp2
        go_meet
        case rel => exact ⟨rfl, by simp⟩
    · go_wp2_with fail
      refine hcm.out.mono ?_
      rintro e w' ⟨rfl, rfl⟩
      go_wp2
      go_meet
      case rel => exact ⟨rfl, by simp⟩
  case rest =>
    obtain ⟨rfl, rfl⟩ := hcut
    cases hcc : ((ch || ch') && !M.cmp f) with
    | true =>
      have hr := Lib.hid (hr2.out.trans (if_pos hcc))
      replace hcc := Lib.hid hcc
      obtain ⟨⟨z0, z1, z2⟩, y0, y1, y2⟩ := E.getBox 0 rfl
      have hbel := E.bel
      clear E u0 u1 u2 v0 v1 v2
      go_wp2
      refine bodyPost_ret (v := .tuple #[arrV false none 0 0 none 0 0, .int .i64 6]) (by simp [results, Tryd.results33, go_sem, cell?_set_same, z0, z1, z2]) rfl ?_
      exact .error hr.out rfl (set3 hbel (by omega) _ _ _)
    | false =>
      have hr := Lib.hid (hr2.out.trans (if_neg (by rw [hcc]; simp)))
      replace hcc := Lib.hid hcc
      clear hr2 u0 u1 u2 v0 v1 v2
      have E4 := E.box false av S.length kv none 0 0
      have rv4 := rv.alloc (.cells #[.bool false, .slice av S.length kv, .slice none 0 0] 24)
      go_wp2_with fail
      refine (hce.out _ rv4).mono ?_
      rintro e w5 ⟨rfl, hw5⟩
      rw [hw5] at E4 rv4
      have hs5 : w5.heap.size = wc.heap.size + 1 := by rw [← hw5]; simp
      replace hw5 := Lib.hid hw5
      -- [boxO 0, boxR 1, boxB 2, boxA 3, s 4, d 5, s' 6, d' 7]
      have hbO := E4.getBox 0 rfl
      have hbR := E4.getBox 1 rfl
      obtain ⟨⟨x0, x1, x2⟩, -, -, -⟩ := E4.getBox 3 rfl
      obtain ⟨⟨y0, y1, y2⟩, -, -, -⟩ := E4.getBox 2 rfl
      have rs5 := E4.getRow 4 rfl
      have rd5 := E4.getRow 5 rfl
      have rs5' := E4.getRow 6 rfl
      have rd5' := E4.getRow 7 rfl
      have hbel := E4.bel
      have hol := fun p e => (own_ltR ho3.out p e)
      have hwc : w.heap.size ≤ wc.heap.size := E.bel.size
      have lRc : w.heap.size + 1 + 1 < wc.heap.size := by omega
      have hI0 : OutAt w w5 wc.heap.size (wc.heap.size + 1) false (.slice av S.length kv) (.slice none 0 0) [] w5 :=
        ⟨⟨hbO.1, hbO.2.2.2⟩, Own.nil _ _, hbel, by omega, fun _ _ _ => rfl⟩
      obtain ⟨n, ln⟩ : ∃ n, n = d.length * d'.length := ⟨_, rfl⟩
      rw [← ln] at hnk hNk
      have hr3 := hr.out
      rw [← ln] at hr3
      have hkeep : ∀ (a : Option Addr) (xs : List Int) (W : World), Row w5 a xs → (∀ p, a = some p → p.block < wc.heap.size) → (∀ bq, bq < wc.heap.size + 1 → bq ≠ wc.heap.size → W.heap[bq]? = w5.heap[bq]?) → Row W a xs := fun _ _ _ hr h1 h2 i hi => by
        obtain ⟨g, o, e, h⟩ := hr i hi
        have := h1 _ e
        exact ⟨g, o, e, (cell_of_eq (h2 g (by show g < _; have : g < wc.heap.size := this; omega) (by have : g < wc.heap.size := this; omega)) (o + i)).trans h⟩
      have gA : ∀ p, a = some p → s ≠ [] → True := fun _ _ _ => trivial
      clear gA
      replace hr3 := Lib.hid hr3
      replace ln := Lib.hid ln
      replace hI0 := Lib.hid hI0
      replace hbR := Lib.hid hbR
      replace hbO := Lib.hid hbO
      replace rs5 := Lib.hid rs5
      replace rd5 := Lib.hid rd5
      replace rs5' := Lib.hid rs5'
      replace rd5' := Lib.hid rd5'
      replace rv4 := Lib.hid rv4
      replace hkeep := Lib.hid hkeep
      replace hol := Lib.hid hol
      have x64 := Lib.hid (fun j => i64_getD hd64 j)
      have y64 := Lib.hid (fun j => i64_getD hd64' j)
      clear hd64 hd64' E E4 hr
      subst hNk
      go_wp2
      go_loopw [12] (fun v wr => ∃ (i : Nat) (dv : Value) (ys : List Int), i ≤ n ∧ v = .int .i64 i ∧ M.seqE i (M.outC f ch ch' d d') = .ok ys ∧ OutAt w w5 wc.heap.size (wc.heap.size + 1) false (.slice av S.length kv) dv ys wr) (fun v _ => n - (intOf v).toNat)
      case atStart => exact ⟨0, _, [], Nat.zero_le _, rfl, rfl, hI0.out⟩
      case round =>
        clear hI0
        obtain ⟨i, dv, ys, hi, rfl, hseq, hI⟩ := hrel
        have bR := hI.box (R := w.heap.size + 1 + 1) (by omega) (by omega) hbR.out
        have rSr : Row wr av S := hkeep.out _ _ _ rv4.out (fun p e => (hol.out p e).2) (fun bq h1 h2 => hI.2.2.2.2 bq h1 h2)
        by_cases hlt : i < n
        case neg =>
          obtain rfl : i = n := by omega
          have hrx := hr3.out
          rw [hseq] at hrx
          dsimp only at hrx
          obtain ⟨⟨z0, z1, z2⟩, z3, z4, z5⟩ := bR
          have hown := hI.2.1
          obtain ⟨⟨⟨c0, c1, c2⟩, f2⟩, -, hbl, -, -⟩ := hI
          obtain ⟨av5, cv5, rfl, -, -, rdat⟩ := hown.view
          replace hown := Lib.hid hown
          replace hrx := Lib.hid hrx
          replace hseq := Lib.hid hseq
          go_wp2
          refine bodyPost_ret (v := .tuple #[arrV false av S.length kv av5 ys.length cv5, .int .i64 0]) (by simp [results, Tryd.results33, go_sem, cell?_set_same, z0, z1, z2]) rfl ?_
          refine DocPost.ok (x := ⟨false, S, ys⟩) hrx.out rfl ?_ ?_ (set3 hbl (by omega) _ _ _)
          · exact ((Row.set_ne rSr z0 (by simp)).set_ne ((World.cell?_setCell_other _ _ _ _ (by simp)).trans z1) (by simp)).set_ne ((World.cell?_setCell_other _ _ _ _ (by simp)).trans ((World.cell?_setCell_other _ _ _ _ (by simp)).trans z2)) (by simp)
          · exact ((Row.set_ne rdat z0 (by simp)).set_ne ((World.cell?_setCell_other _ _ _ _ (by simp)).trans z1) (by simp)).set_ne ((World.cell?_setCell_other _ _ _ _ (by simp)).trans ((World.cell?_setCell_other _ _ _ _ (by simp)).trans z2)) (by simp)
        have hiN : (i : Int) < (n : Int) := by omega
        have hi1 : i < d.length * d'.length := by rw [← ln.out]; exact hlt
        have hk0 : 0 < d'.length := Nat.pos_of_ne_zero fun h => by rw [h] at hi1; simp at hi1
        have hIx : i / d'.length < d.length := Nat.div_lt_of_lt_mul (by rw [Nat.mul_comm]; exact hi1)
        have hKx : i % d'.length < d'.length := Nat.mod_lt _ hk0
        obtain ⟨p1, p2, p3, p4⟩ := hcp.out i hiN
        have q3 : M.placeN 0 s ((M.coords S i).1.take s.length) = ((i / d'.length : Nat) : Int) := by rw [p3]; simp
        have q4 : M.placeN 0 s' ((M.coords S i).1.drop s.length) = ((i % d'.length : Nat) : Int) := by rw [p4]; simp
        have lC := coords_length S (i : Int)
        have hoc : M.outC f ch ch' d d' i = M.tw f ch ch' (d.getD (i / d'.length) 0) (d'.getD (i % d'.length) 0) := rfl
        have frame : ∀ b, b < wc.heap.size → wr.heap[b]? = w5.heap[b]? := fun b h => hI.2.2.2.2 b (by omega) (by omega)
        have hlen0 := seqE_length hseq
        have hw0 : w.heap.size ≤ wc.heap.size := by omega
        have hszr := hI.2.2.2.1
        have hcoi := Lib.hid (hco.out i wr rSr hiN)
        clear hco p3 p4
        replace hI := Lib.hid hI
        replace hseq := Lib.hid hseq
        replace bR := Lib.hid bR
        replace lC := Lib.hid lC
        go_wp2_with fail
        refine hcoi.out.mono ?_
        rintro e w6 ⟨rfl, rC, hbC⟩
        generalize (M.coords S i).1 = C at *
        have fr6 : ∀ b, b < wc.heap.size → w6.heap[b]? = w5.heap[b]? := fun b h => (hbC.block b (by omega)).trans (frame b h)
        have old : ∀ {b o : Nat} {u : Value}, b < wc.heap.size → w5.cell? ⟨b, o, none⟩ = some u → w6.cell? ⟨b, o, none⟩ = some u := fun hl h => (cell_of_eq (fr6 _ hl) _).trans h
        have rowK : ∀ {a : Option Addr} {xs : List Int}, Row w5 a xs → Row w a xs → Row w6 a xs := fun h5 h0 j hj => by
          obtain ⟨g, o, e, h⟩ := h5 j hj
          obtain ⟨g', o', e', h'⟩ := h0 j hj
          rw [e] at e'
          cases e'
          have := World.block_lt_of_cell? _ _ h'
          exact ⟨g, o, e, old (by show g < _; have : g < w.heap.size := this; omega) h⟩
        have rs6 := rowK rs5.out hs0.out
        have rd6 := rowK rd5.out hd0.out
        have rs6' := rowK rs5'.out hs0'.out
        have rd6' := rowK rd5'.out hd0'.out
        have xA0 := old (by omega) x0
        have xA1 := old (by omega) x1
        have xA2 := old (by omega) x2
        have xB0 := old (by omega) y0
        have xB1 := old (by omega) y1
        have xB2 := old (by omega) y2
        have rT : Row w6 (some ⟨wr.heap.size, 0, none⟩) (C.take s.length) := fun j hj => by
          rw [List.length_take] at hj
          obtain ⟨g, o, e, h⟩ := rC j (by omega)
          refine ⟨g, o, e, h.trans ?_⟩
          rw [List.getD_eq_getElem?_getD, List.getD_eq_getElem?_getD, List.getElem?_take_of_lt (by omega)]
        have lT : (C.take s.length).length = s.length := by rw [List.length_take, lC.out, hlS.out]; omega
        have lD : (C.drop s.length).length = s'.length := by rw [List.length_drop, lC.out, hlS.out]; omega
        have rD : Row w6 (some ⟨wr.heap.size, s.length, none⟩) (C.drop s.length) := fun j hj => by
          rw [List.length_drop] at hj
          obtain ⟨g, o, e, h⟩ := rC (s.length + j) (by omega)
          cases e
          refine ⟨_, _, rfl, ?_⟩
          rw [Nat.zero_add] at h
          rw [List.getD_eq_getElem?_getD, List.getElem?_drop, ← List.getD_eq_getElem?_getD]
          exact h
        have rD0 : s'.length = 0 → Row w6 (some ⟨wr.heap.size, 0, none⟩) (C.drop s.length) := fun h j hj => by omega
        obtain ⟨I, hI0⟩ : ∃ I, I = i / d'.length := ⟨_, rfl⟩
        obtain ⟨K, hK0⟩ : ∃ K, K = i % d'.length := ⟨_, rfl⟩
        rw [← hI0] at hIx q3 hoc
        rw [← hK0] at hKx q4 hoc
        have hw1 := fun nn a2 (h : Row w6 a2 (C.take s.length)) c2 => where_any a a2 s (C.take s.length) s.length s.length c c2 q1 (World.drewN w6 nn) (rs6.drewN nn) (h.drewN nn) p1 hq1.out rfl lT.symm
        have hw2 := fun n1 nn a2 (h : Row w6 a2 (C.drop s.length)) c2 => where_any a' a2 s' (C.drop s.length) s'.length s'.length c' c2 q2 (World.drewN (World.drewN w6 n1) nn) ((rs6'.drewN n1).drewN nn) ((h.drewN n1).drewN nn) p2 hq2.out rfl lD.symm
        rw [q3] at hw1
        rw [q4] at hw2
        obtain ⟨ba, oa, rfl, cA⟩ := rd6 I hIx
        obtain ⟨bb, ob, rfl, cB⟩ := rd6' K hKx
        have hIi : (I : Int) < ((d.length : Nat) : Int) := by omega
        have hKi : (K : Int) < ((d'.length : Nat) : Int) := by omega
        have X64 := x64.out I
        have Y64 := y64.out K
        generalize d.getD I 0 = X at *
        generalize d'.getD K 0 = Y at *
        have hcall := fun W => twoCells_any f ch ch' X Y W X64 Y64
        have g1 : (s.length : Int) ≤ (S.length : Int) := by have := hlS.out; omega
        have g2 : S.length - s.length = s'.length := by have := hlS.out; omega
        have hbR6 : BoxF w6 (w.heap.size + 1 + 1) false none 0 0 none 0 0 := boxF_eqO bR.out (hbC.block _ (by omega))
        have hI6 : OutAt w w5 wc.heap.size (wc.heap.size + 1) false (.slice av S.length kv) dv ys w6 := hI.out.belowW (by omega) hbC (by omega)
        replace hI6 := Lib.hid hI6
        replace hbR6 := Lib.hid hbR6
        clear frame fr6 old rowK rs6 rd6 rs6' rd6' p1 p2 q3 q4 hIx hKx hi1 hk0 X64 Y64
        obtain ⟨a2, ha2, r2⟩ : ∃ a2 : Option Addr, (if S.length = s.length then (some ⟨wr.heap.size, 0, none⟩ : Option Addr) else some ⟨wr.heap.size, s.length, none⟩) = a2 ∧ Row w6 a2 (C.drop s.length) := by
          by_cases h : S.length = s.length
          · exact ⟨_, if_pos h, rD0 (by omega)⟩
          · exact ⟨_, if_neg h, rD⟩
        replace r2 := Lib.hid r2
        replace lT := Lib.hid lT
        replace lD := Lib.hid lD
        replace hI0 := Lib.hid hI0
        replace hK0 := Lib.hid hK0
        replace hw1 := Lib.hid hw1
        replace hw2 := Lib.hid hw2
        replace rT := Lib.hid rT
        replace rD := Lib.hid rD
        replace rD0 := Lib.hid rD0
        replace rC := Lib.hid rC
        replace rSr := Lib.hid rSr
        replace hbC := Lib.hid hbC
        replace hoc := Lib.hid hoc
        replace hcall := Lib.hid hcall
        go_wp2
        go_quiet ((go_at_call 64; exact Calls.quiet_of_same ((hw1.out _ _ rT.out _).mono fun _ _ h => ⟨h.1, h.2.symm⟩)))
        have hz : ∀ {b o : Nat} {u : Value}, w6.cell? ⟨b, o, none⟩ = some u → (w6.drewN nq).cell? ⟨b, o, none⟩ = some u := fun h => h
        replace xA0 := hz xA0
        replace xA1 := hz xA1
        replace xA2 := hz xA2
        replace xB0 := hz xB0
        replace xB1 := hz xB1
        replace xB2 := hz xB2
        replace cB := hz cB
        have hw3 := Lib.hid (fun nn c2 => hw2.out nq nn _ r2.out c2)
        have hI7 := Lib.hid (hI6.out.drewN nq)
        have hbR7 : BoxF (w6.drewN nq) (w.heap.size + 1 + 1) false none 0 0 none 0 0 := hbR6.out
        replace hbR7 := Lib.hid hbR7
        clear hz cA hw1 hw2 rT rD rD0 r2 rC hI6 hbR6
        generalize World.drewN w6 nq = w7 at *
        go_wp2
        go_quiet ((go_at_call 64; exact Calls.quiet_of_same ((hw3.out _ _).mono fun _ _ h => ⟨h.1, h.2.symm⟩)))
        have hz : ∀ {b o : Nat} {u : Value}, w7.cell? ⟨b, o, none⟩ = some u → (w7.drewN nq).cell? ⟨b, o, none⟩ = some u := fun h => h
        replace xA0 := hz xA0
        replace xB0 := hz xB0
        have hI8 := Lib.hid (hI7.out.drewN nq)
        have hbR8 : BoxF (w7.drewN nq) (w.heap.size + 1 + 1) false none 0 0 none 0 0 := hbR7.out
        replace hbR8 := Lib.hid hbR8
        clear hz cB hw3 hI7 hbR7 xA1 xA2 xB1 xB2 ha2
        generalize World.drewN w7 nq = w8 at *
        have hoc1 := hoc.out
        have hcall1 := hcall.out
        clear hoc hcall
        cases hv : M.tw f ch ch' X Y with
        | error e0 =>
          rw [hv] at hoc1 hcall1
          dsimp only [refI] at hcall1
          have hrx := hr3.out
          rw [seqE_error (seqE_stop hseq.out hoc1) hlt] at hrx
          have hxz : (e0 != 0) = true := by rw [bne_iff_ne]; exact tw_err hv
          replace hrx := Lib.hid hrx
          replace hcall1 := Lib.hid hcall1
          clear hoc1 hv
          go_wp2_with fail
          refine (hcall1.out _).mono ?_
          rintro e w9 ⟨rfl, rfl⟩
          obtain ⟨⟨z0, z1, z2⟩, z3, z4, z5⟩ := hbR8.out
          have hb9 := hI8.out.2.2.1
          clear xA0 xB0
          go_wp2
          refine bodyPost_ret (v := .tuple #[arrV false none 0 0 none 0 0, .int .i64 e0]) (by simp [results, Tryd.results33, go_sem, cell?_set_same, z0, z1, z2]) rfl ?_
          exact .error hrx.out rfl (set3 hb9 (by omega) _ _ _)
        | ok v =>
          rw [hv] at hoc1 hcall1
          dsimp only [refI] at hcall1
          have hsn := Lib.hid (seqE_next hseq.out hoc1)
          replace hcall1 := Lib.hid hcall1
          have hlen : ys.length < 17592186044416 := by omega
          clear hoc1 hv hlen0
          go_wp2_with fail
          refine (hcall1.out _).mono ?_
          rintro e w9 ⟨rfl, rfl⟩
          have hI9 := hI8.out
          obtain ⟨⟨⟨c0, c1, c2⟩, f2⟩, hown, hbl, hsz, -⟩ := hI9
          obtain ⟨av5, cv5, rfl, -, -, -⟩ := hown.view
          have l1 : wc.heap.size < wc.heap.size + 1 := Nat.lt_succ_self _
          replace hown := Lib.hid hown
          replace hlen := Lib.hid hlen
          clear xA0 xB0 hbl
          go_wp2_with (at_builtin; refine app_int rfl (.tmp 107) (.tmp 109) rfl (wc.heap.size + 1) _ ys v rfl hown.out rfl hlen.out hsz ?_; intro v' w' ho' hb' hl'; obtain ⟨a', c', rfl, -, -, -⟩ := ho'.view; have c8 := (hb'.cell (by exact l1)).trans c2; have f8 := (hb'.frozen (by exact l1)).trans f2; have hfin := Lib.hid (OutAt.step hI8.out hw0 l1 hb' ho'); replace ho' := Lib.hid ho')
          go_roundw
          case rel => exact ⟨i + 1, _, _, by omega, by go_num, hsn.out, by have h := hfin.out; rw [List.length_append] at h; exact h⟩
          case measure => simp [intOf]; omega
end Go.Proofs.YtcenhemlgapkeaaDoor
