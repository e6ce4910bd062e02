/- The document's Innered, past its first checks. Condition: rows that lie as lists of ints of 64 bits, within their capacities. -/
import Derived.Test.YtcenhemlgapkeaaDoorRefOuter
import Derived.Test.YtcenhemlgapkeaaDoorRefLine
import Derived.Test.YtcenhemlgapkeaaDoorBdL
import Derived.Deep.RegionHeld3
namespace Go.Proofs.YtcenhemlgapkeaaDoor
open Go.RowKit

theorem range_get (F : Nat → Int) {P j : Nat} (h : j < P) : ((List.range P).map F).getD j 0 = F j := by
  rw [List.getD_eq_getElem?_getD, List.getElem?_map, List.getElem?_range h]; rfl
theorem mid_get {ls L1 : List Int} {k : Nat} (hl : ls.length = k) : (ls ++ L1.drop k).getD k 0 = L1.getD k 0 := by
  rw [List.getD_eq_getElem?_getD, List.getElem?_append_right (by omega), hl, Nat.sub_self, List.getElem?_drop, Nat.add_zero, ← List.getD_eq_getElem?_getD]
theorem mid_set {ls L1 : List Int} {k : Nat} (hl : ls.length = k) (hk : k < L1.length) (v : Int) : (ls ++ L1.drop k).set k v = (ls ++ [v]) ++ L1.drop (k + 1) := by
  rw [List.set_append_right _ _ (by omega), hl, Nat.sub_self, List.drop_eq_getElem_cons hk, List.set_cons_zero, List.append_assoc]; rfl
theorem row_lone (w : World) (x : Int) : Row (w.alloc (.cells #[.int .i64 x] 3)) (some ⟨w.heap.size, 0, none⟩) [x] := fun i hi => by
  obtain rfl : i = 0 := by simpa using hi
  exact ⟨_, _, rfl, by simp [go_sem]⟩

set_option maxRecDepth 20000 in
set_option maxHeartbeats 16000000 in
theorem refInner_main (f g : Int) (hu : M.unk f g = 0) (ch ch' : Bool) (a b a' b' : Option Addr) (u v d d' : List Int) (p q : Int) (c n z c' n' z' : Nat) (w : World) (hs : Row w a (u ++ [p])) (hd : Row w b d) (ld : d.length ≤ maxLen) (hd64 : All64 d) (hcs : u.length + 1 ≤ c) (em : n = d.length)
    (hs' : Row w a' (q :: v)) (hd' : Row w b' d') (ld' : d'.length ≤ maxLen) (hd64' : All64 d') (hcs' : v.length + 1 ≤ c') (em' : n' = d'.length) (hfl : M.flaws ⟨ch, u ++ [p], d⟩ ⟨ch', q :: v, d'⟩ = 0) :
    Calls Tryd.prog 35 #[.int .i64 f, .int .i64 g, arrV ch a (u.length + 1) c b n z, arrV ch' a' (v.length + 1) c' b' n' z'] w fun e w' => DocPost (M.inner f g ⟨ch, u ++ [p], d⟩ ⟨ch', q :: v, d'⟩) w e w' := by
  subst em
  subst em'
  obtain ⟨hfa, hfb⟩ := flaws_parts hfl
  dsimp only at hfa hfb
  have l1 : (u ++ [p]).length = u.length + 1 := by simp
  have l2 : (q :: v).length = v.length + 1 := rfl
  have l6 := (flaw_len hfa).2
  have l6' := (flaw_len hfb).2
  rw [l1] at l6
  rw [l2] at l6'
  have E := ((((((Env.start w).addRow hd').addRow hs').addRow hd).addRow hs).box ch a (u.length + 1) c b d.length z).box ch' a' (v.length + 1) c' b' d'.length z' |>.box false none 0 0 none 0 0
  simp only [World.size_alloc] at E
  have kf := fun w h1 h2 h3 h4 => refFlaws_any ch ch' a b a' b' (u ++ [p]) d (q :: v) d' _ c _ z _ c' _ z' w h1 h2 (by rw [l1]; unfold maxLen; omega) ld l1.symm rfl h3 h4 (by rw [l2]; unfold maxLen; omega) ld' l2.symm rfl
  rw [hfl] at kf
  replace kf := Lib.hid kf
  have hd0 := Lib.hid hd
  have hd0' := Lib.hid hd'
  have hs0 := Lib.hid hs
  have hs0' := Lib.hid hs'
  have hr0 : M.inner f g ⟨ch, u ++ [p], d⟩ ⟨ch', q :: v, d'⟩ = if p ≠ q then .error 4 else match M.count (u ++ v) with
      | .error e => .error e
      | .ok _ => if ((ch || ch') && !M.cmp g) = true then .error 6
        else match M.lone f p with
        | .error e => .error e
        | .ok _ => M.innerOf f g ⟨ch, u ++ [p], d⟩ ⟨ch', q :: v, d'⟩ (u ++ v) p.toNat (M.prod v).toNat (M.prod (u ++ v)).toNat := by
    unfold M.inner
    rw [if_neg (fun h => h hu), if_neg (fun h => h hfl)]
    unfold M.fits
    rw [if_neg (by simp)]
    simp only [List.getLastD_concat, List.headD_cons, List.dropLast_concat, List.tail_cons]
    by_cases h : p = q
    · rw [if_neg (fun k => k h), if_neg (fun k => k h)]
      cases M.count (u ++ v) <;> rfl
    · rw [if_pos h, if_pos h]
  have hfg : (1 ≤ f ∧ f ≤ 16) ∧ (1 ≤ g ∧ g ≤ 16) := by
    unfold M.unk at hu
    split at hu
    · rename_i h
      rw [Bool.and_eq_true] at h
      unfold M.fn2 at h
      exact ⟨of_decide_eq_true h.1, of_decide_eq_true h.2⟩
    · cases hu
  obtain ⟨⟨f1, f2⟩, g1, g2⟩ := hfg
  have t1 : decide (f < 1) = false := decide_eq_false (by omega)
  have t2 : decide (16 < f) = false := decide_eq_false (by omega)
  have t3 : decide (g < 1) = false := decide_eq_false (by omega)
  have t4 : decide (16 < g) = false := decide_eq_false (by omega)
  have e0 : (((u.length : Nat) : Int) + 1 == 0) = false := by rw [beq_eq_false_iff_ne]; omega
  have e1 : (((v.length : Nat) : Int) + 1 == 0) = false := by rw [beq_eq_false_iff_ne]; omega
  replace hr0 := Lib.hid hr0
  replace hfl := Lib.hid hfl
  replace hfa := Lib.hid hfa
  replace hfb := Lib.hid hfb
  clear hs hs' hd hd' hu
  obtain ⟨⟨u0, u1, u2⟩, -, -, -⟩ := E.getBox 2 rfl
  obtain ⟨⟨v0, v1, v2⟩, -, -, -⟩ := E.getBox 1 rfl
  go_enter Tryd.func35, Tryd.ntmps35
  go_wp2_with fail
  refine (kf.out _ (E.getRow 3 rfl) (E.getRow 4 rfl) (E.getRow 5 rfl) (E.getRow 6 rfl)).mono ?_
  rintro e w2 ⟨rfl, hb⟩
  replace E := E.step hb
  have lR : w.heap.size + 1 + 1 < w2.heap.size := (E.getBox 0 rfl).lt
  clear hb u0 u1 u2 v0 v1 v2 kf t1 t2 t3 t4 f1 f2 g1 g2
  have hS := E.getRow 3 rfl
  have hS' := E.getRow 5 rfl
  obtain ⟨bs, os, rfl, cp⟩ := hS u.length (by rw [l1]; omega)
  obtain ⟨bt, ot, rfl, cq⟩ := hS' 0 (by rw [l2]; omega)
  rw [show (u ++ [p]).getD u.length 0 = p by simp] at cp
  simp only [List.getD_cons_zero, Nat.add_zero] at cq
  have iw1 : IntKind.i64.wrap ((u.length : Int) + 1 - 1) = (u.length : Int) := by rw [IntKind.wrap_i64]; omega
  have iw2 : IntKind.i64.wrap (u.length : Int) = (u.length : Int) := by rw [IntKind.wrap_i64]; omega
  have i1 : (u.length : Int) ≤ (c : Int) := by omega
  have i0 : (0 : Int) ≤ (u.length : Int) := by omega
  have i2 : (1 : Int) ≤ (v.length : Int) + 1 := by omega
  have i3 : (v.length : Int) + 1 ≤ (c' : Int) := by omega
  obtain ⟨⟨u0, u1, u2⟩, -, -, -⟩ := E.getBox 2 rfl
  obtain ⟨⟨v0, v1, v2⟩, -, -, -⟩ := E.getBox 1 rfl
  by_cases hpq : p = q
  case neg =>
    have hr := Lib.hid (hr0.out.trans (if_pos hpq))
    have e2 : (p != q) = true := by rw [bne_iff_ne]; exact hpq
    obtain ⟨⟨z0, z1, z2⟩, y0, y1, y2⟩ := E.getBox 0 rfl
    have hbel := E.bel
    clear hr0 hpq E hS hS' l1 l2
    go_wp2
    refine bodyPost_ret (v := .tuple #[arrV false none 0 0 none 0 0, .int .i64 4]) (by simp [results, Tryd.results35, go_sem, cell?_set_same, z0, z1, z2]) rfl ?_
    exact .error hr.out rfl (set3 hbel (by omega) _ _ _)
  subst hpq
  have hr1 := Lib.hid (hr0.out.trans (if_neg (fun h => h rfl)))
  have e2 : (p != p) = false := by rw [bne_eq_false_iff_eq]
  clear hr0
  have ru : Row w2 (some ⟨bs, os, none⟩) u := fun i hi => by
    obtain ⟨b1, o1, e, hcc⟩ := hS i (by rw [l1]; omega)
    cases e
    refine ⟨_, _, rfl, hcc.trans ?_⟩
    rw [List.getD_eq_getElem?_getD, List.getElem?_append_left hi, ← List.getD_eq_getElem?_getD]
  have rv : Row w2 (some ⟨bt, ot + 1, none⟩) v := fun i hi => by
    obtain ⟨b1, o1, e, hcc⟩ := hS' (i + 1) (by rw [l2]; omega)
    cases e
    refine ⟨_, _, rfl, ?_⟩
    rw [List.getD_cons_succ] at hcc
    rw [show ot + 1 + i = ot + (i + 1) by omega]
    exact hcc
  obtain ⟨a2, ha2, rv2⟩ : ∃ a2 : Addr, (if c' = 1 then (some ⟨bt, ot, none⟩ : Option Addr) else some ⟨bt, ot + 1, none⟩) = some a2 ∧ Row w2 (some a2) v := by
    by_cases h : c' = 1
    · refine ⟨_, if_pos h, ?_⟩
      obtain rfl : v = [] := List.eq_nil_of_length_eq_zero (by omega)
      exact Row.nil _ _
    · exact ⟨_, if_neg h, rv⟩
  have hjn := Lib.hid (joined2_any (some ⟨bs, os, none⟩) (some a2) u v u.length v.length c (c' - 1) w2.drew ru rv2 (by omega) rfl rfl)
  clear hS hS' rv rv2 ru
  go_wp2_with fail
  go_region_held3 (fun w' => w'.cell? ⟨w.heap.size, 1, none⟩ = some (.slice (some ⟨bs, os, none⟩) (u.length + 1) c) ∧ w'.cell? ⟨w.heap.size + 1, 1, none⟩ = some (.slice (some ⟨bt, ot, none⟩) (v.length + 1) c'))
    (first | go_keep | (exact held2 hb (by assumption)))
    (first
      | (go_at_call 59; refine hjn.out.mono ?_; rintro e w3 ⟨v3, rfl, ho3, hb⟩))
  have sz1 : w.heap.size ≤ w2.heap.size := E.bel.size
  have sz3 : w2.heap.size ≤ w3.heap.size := hb.size
  replace E := (E.drew 1).step hb
  clear hb u0 u1 u2 v0 v1 v2 hjn ha2 cp cq
  obtain ⟨S, hS⟩ : ∃ S, S = u ++ v := ⟨_, rfl⟩
  rw [← hS] at ho3
  have lS : S.length = u.length + v.length := by rw [hS, List.length_append]
  obtain ⟨av, kv, rfl, hkv, -, rv⟩ := ho3.view
  have hr2 := hr1.out
  rw [← hS] at hr2
  replace hS := Lib.hid hS
  replace ho3 := Lib.hid ho3
  have hff := fun W h => fault_any av S S.length kv W h (by unfold maxLen; omega) rfl
  have hlS := Lib.hid lS
  have lS6 : S.length ≤ 12 := by omega
  clear lS
  cases hcnt : M.count S with
  | error e9 =>
    rw [hcnt] at hr2
    dsimp only at hr2
    have hxz : (e9 != 0) = true := by rw [bne_iff_ne]; exact count_ne hcnt
    simp only [fault_error hcnt] at hff
    replace hff := Lib.hid hff
    replace hr2 := Lib.hid hr2
    replace hcnt := Lib.hid hcnt
    go_wp2_with fail
    refine (hff.out _ rv).mono ?_
    rintro e w4 ⟨rfl, rfl⟩
    obtain ⟨⟨z0, z1, z2⟩, y0, y1, y2⟩ := E.getBox 0 rfl
    have hbel := E.bel
    clear E
    go_wp2
    refine bodyPost_ret (v := .tuple #[arrV false none 0 0 none 0 0, .int .i64 e9]) (by simp [results, Tryd.results35, go_sem, cell?_set_same, z0, z1, z2]) rfl ?_
    exact .error hr2.out rfl (set3 hbel (by omega) _ _ _)
  | ok N =>
  rw [hcnt] at hr2
  dsimp only at hr2
  have hcnt' := hcnt
  rw [hS.out] at hcnt'
  obtain ⟨U, P, C, rfl, hP, hC, hdU, hdC, hN, hUC, hpS, hUP, hPC, hv4, hv5⟩ := inner_sizes hfa.out hfb.out hcnt'
  simp only [fault_ok hcnt] at hff
  have hce := fun W h => cells_any av S S.length kv N W h hcnt rfl
  have hco := fun (i : Nat) W h (h1 : (i : Int) < N) => coordsB_any av S S.length kv N (i : Int) W h hcnt (Int.natCast_nonneg i) h1 rfl
  have hp1 := fun (i j : Nat) (h1 : (i : Int) < N) (h2 : j < P) => line_one (i := i) (j := j) hcnt' h1 hC h2
  have hp2 := fun (i j : Nat) (h1 : (i : Int) < N) (h2 : j < P) => line_two (i := i) (j := j) hcnt' h1 hC h2
  rw [← hS.out] at hp1 hp2
  rw [Int.toNat_natCast, hC, Int.toNat_natCast, hS.out, hpS, Int.toNat_natCast, ← hS.out] at hr2
  obtain ⟨qa, hqa, -⟩ := flaw_parts hfa.out
  obtain ⟨qb, hqb, -⟩ := flaw_parts hfb.out
  subst hN
  replace hff := Lib.hid hff
  replace hr2 := Lib.hid hr2
  replace hcnt := Lib.hid hcnt
  replace hcnt' := Lib.hid hcnt'
  replace hce := Lib.hid hce
  replace hco := Lib.hid hco
  replace hp1 := Lib.hid hp1
  replace hp2 := Lib.hid hp2
  replace hpS := Lib.hid hpS
  replace hC := Lib.hid hC
  replace hdU := Lib.hid hdU
  replace hdC := Lib.hid hdC
  replace hv4 := Lib.hid hv4
  replace hqa := Lib.hid hqa
  replace hqb := Lib.hid hqb
  clear hr1 l1 l2
  go_wp2_with fail
  refine (hff.out _ rv).mono ?_
  rintro e w4 ⟨rfl, rfl⟩
  obtain ⟨⟨u0, u1, u2⟩, -, -, -⟩ := E.getBox 2 rfl
  obtain ⟨⟨v0, v1, v2⟩, -, -, -⟩ := E.getBox 1 rfl
  go_upto_region 16 with fail
  go_cut [97] from 87 to 96 (fun s97 wx => wx = w3 ∧ s97 = .bool ((ch || ch') && !M.cmp g))
  case first =>
    have hcm := Lib.hid (refCompares_any g w3)
    clear hr2 hcnt hcnt' hce hco hp1 hp2 hff
    cases ch
    · cases ch'
      · go_wp2
        go_meet
        case rel => exact ⟨rfl, by simp⟩
      · go_wp2_with fail
        refine hcm.out.mono ?_
        rintro e w' ⟨rfl, rfl⟩
        go_wp2
        go_meet
        case rel => exact ⟨rfl, by simp⟩
    · go_wp2_with fail
      refine hcm.out.mono ?_
      rintro e w' ⟨rfl, rfl⟩
      go_wp2
      go_meet
      case rel => exact ⟨rfl, by simp⟩
  case rest =>
    obtain ⟨hwx, rfl⟩ := hcut
    replace hwx := hwx.symm
    subst hwx
    cases hcc : ((ch || ch') && !M.cmp g) with
    | true =>
      have hr := Lib.hid (hr2.out.trans (if_pos hcc))
      replace hcc := Lib.hid hcc
      obtain ⟨⟨z0, z1, z2⟩, y0, y1, y2⟩ := E.getBox 0 rfl
      have hbel := E.bel
      clear E u0 u1 u2 v0 v1 v2
      go_wp2
      refine bodyPost_ret (v := .tuple #[arrV false none 0 0 none 0 0, .int .i64 6]) (by simp [results, Tryd.results35, go_sem, cell?_set_same, z0, z1, z2]) rfl ?_
      exact .error hr.out rfl (set3 hbel (by omega) _ _ _)
    | false =>
      have hr3 := hr2.out.trans (if_neg (by rw [hcc]; simp))
      replace hcc := Lib.hid hcc
      clear hr2 u0 u1 u2 v0 v1 v2
      obtain ⟨x0, e0, hneu, hz0, hz1⟩ : ∃ x e, refI (M.neutral f) = .tuple #[.int .i64 x, .int .i64 e] ∧ (e = 0 → ∃ v, M.neutral f = .ok v) ∧ (e ≠ 0 → M.neutral f = .error e) := by
        cases h : M.neutral f with
        | ok v => exact ⟨v, 0, rfl, fun _ => ⟨v, rfl⟩, fun h => absurd rfl h⟩
        | error e => exact ⟨0, e, rfl, fun h0 => absurd h0 (neutral_err h), fun _ => rfl⟩
      have hne := refNeutral_any f w3
      rw [hneu] at hne
      replace hne := Lib.hid hne
      clear hneu
      go_wp2_with fail
      refine hne.out.mono ?_
      rintro e w4 ⟨rfl, rfl⟩
      go_upto_region 19 with fail
      go_cut [109] from 104 to 108 (fun s109 wx => wx = w3 ∧ s109 = .bool ((((P : Nat) : Int) == 0) && (e0 != 0)))
      case first =>
        clear hr3 hcnt hcnt' hce hco hp1 hp2 hff
        cases hb1 : (((P : Nat) : Int) == 0) with
        | true =>
          cases hb2 : (e0 != 0) with
          | true =>
            go_wp2
            go_meet
            case rel => exact ⟨rfl, by rw [hb1, hb2]; rfl⟩
          | false =>
            go_wp2
            go_meet
            case rel => exact ⟨rfl, by rw [hb1, hb2]; rfl⟩
        | false =>
          go_wp2
          go_meet
          case rel => exact ⟨rfl, by rw [hb1]; rfl⟩
      case rest =>
        obtain ⟨hwx, rfl⟩ := hcut
        replace hwx := hwx.symm
        subst hwx
        cases hst : ((((P : Nat) : Int) == 0) && (e0 != 0)) with
        | true =>
          have hst2 := hst
          rw [Bool.and_eq_true, beq_iff_eq, bne_iff_ne] at hst2
          rw [show M.lone f (P : Int) = .error e0 by unfold M.lone; rw [if_pos hst2.1, hz1 hst2.2]] at hr3
          dsimp only at hr3
          replace hr3 := Lib.hid hr3
          replace hst := Lib.hid hst
          obtain ⟨⟨z0, z1, z2⟩, y0, y1, y2⟩ := E.getBox 0 rfl
          have hbel := E.bel
          clear E hz0 hz1 hst2
          go_wp2
          refine bodyPost_ret (v := .tuple #[arrV false none 0 0 none 0 0, .int .i64 e0]) (by simp [results, Tryd.results35, go_sem, cell?_set_same, z0, z1, z2]) rfl ?_
          exact .error hr3.out rfl (set3 hbel (by omega) _ _ _)
        | false =>
          have hlone : ∃ l, M.lone f (P : Int) = .ok l := by
            unfold M.lone
            by_cases hP0 : (P : Int) = 0
            · rw [if_pos hP0]
              refine hz0 ?_
              rw [beq_iff_eq.2 hP0, Bool.true_and, bne_eq_false_iff_eq] at hst
              exact hst
            · rw [if_neg hP0]; exact ⟨0, rfl⟩
          obtain ⟨l0, hl0⟩ := hlone
          rw [hl0] at hr3
          dsimp only at hr3
          replace hr3 := Lib.hid hr3
          replace hst := Lib.hid hst
          clear hz0 hz1 hl0 hne
          have E4 := E.box false av S.length kv none 0 0
          have rv4 := rv.alloc (.cells #[.bool false, .slice av S.length kv, .slice none 0 0] 24)
          go_wp2_with fail
          refine (hce.out _ rv4).mono ?_
          rintro e w5 ⟨rfl, hw5⟩
          rw [hw5] at E4 rv4
          have hs5 : w5.heap.size = w3.heap.size + 1 := by rw [← hw5]; simp
          replace hw5 := Lib.hid hw5
          have hbO := E4.getBox 0 rfl
          have hbR := E4.getBox 1 rfl
          have hbY := E4.getBox 2 rfl
          have hbX := E4.getBox 3 rfl
          have rs5 := E4.getRow 4 rfl
          have rd5 := E4.getRow 5 rfl
          have rs5' := E4.getRow 6 rfl
          have rd5' := E4.getRow 7 rfl
          have hbel := E4.bel
          have hol := fun p e => (own_ltR ho3.out p e)
          have hwc : w.heap.size ≤ w3.heap.size := E.bel.size
          have lRc : w.heap.size + 1 + 1 < w3.heap.size := by omega
          have hI0 : OutAt w w5 w3.heap.size (w3.heap.size + 1) false (.slice av S.length kv) (.slice none 0 0) [] w5 :=
            ⟨⟨hbO.1, hbO.2.2.2⟩, Own.nil _ _, hbel, by omega, fun _ _ _ => rfl⟩
          obtain ⟨n, ln⟩ : ∃ n, n = U * C := ⟨_, rfl⟩
          have hiC : ∀ i, i < n → i < U * C := fun i h => by rw [← ln]; exact h
          rw [← ln] at hUC hr3 hco hp1 hp2
          have hkeep : ∀ (a : Option Addr) (xs : List Int) (W : World), Row w5 a xs → (∀ p, a = some p → p.block < w3.heap.size) → (∀ bq, bq < w3.heap.size → W.heap[bq]? = w5.heap[bq]?) → Row W a xs := fun _ _ _ hr h1 h2 i hi => by
            obtain ⟨g, o, e, h⟩ := hr i hi
            have := h1 _ e
            exact ⟨g, o, e, (cell_of_eq (h2 g this) (o + i)).trans h⟩
          have rowK : ∀ {a : Option Addr} {xs : List Int} {W : World}, Row w5 a xs → Row w a xs → (∀ bq, bq < w3.heap.size → W.heap[bq]? = w5.heap[bq]?) → Row W a xs := fun h5 h0 h2 j hj => by
            obtain ⟨g, o, e, h⟩ := h5 j hj
            obtain ⟨g', o', e', h'⟩ := h0 j hj
            rw [e] at e'
            cases e'
            have := World.block_lt_of_cell? _ _ h'
            exact ⟨g, o, e, (cell_of_eq (h2 g (by have : g < w.heap.size := this; omega)) _).trans h⟩
          have hkp : ∀ W : World, (∀ bq, bq < w3.heap.size → W.heap[bq]? = w5.heap[bq]?) → (Row W (some ⟨bs, os, none⟩) (u ++ [(P : Int)]) ∧ Row W b d) ∧ (Row W (some ⟨bt, ot, none⟩) ((P : Int) :: v) ∧ Row W b' d') ∧ BoxF W w.heap.size ch (some ⟨bs, os, none⟩) (u.length + 1) c b d.length z ∧ BoxF W (w.heap.size + 1) ch' (some ⟨bt, ot, none⟩) (v.length + 1) c' b' d'.length z' ∧ BoxF W (w.heap.size + 1 + 1) false none 0 0 none 0 0 ∧ Row W av S := fun W h =>
            ⟨⟨rowK rs5 hs0.out h, rowK rd5 hd0.out h⟩, ⟨rowK rs5' hs0'.out h, rowK rd5' hd0'.out h⟩, boxF_eqO hbX (h _ (by omega)), boxF_eqO hbY (h _ (by omega)), boxF_eqO hbR (h _ (by omega)), hkeep _ _ _ rv4 (fun p e => (hol p e).2) h⟩
          replace hr3 := Lib.hid hr3
          replace ln := Lib.hid ln
          replace hI0 := Lib.hid hI0
          replace hkp := Lib.hid hkp
          replace hiC := Lib.hid hiC
          have x64 := Lib.hid (fun j => i64_getD hd64 j)
          have y64 := Lib.hid (fun j => i64_getD hd64' j)
          clear hd64 hd64' E E4 hbO hbR hbX hbY rs5 rd5 rs5' rd5' rv4 hkeep rowK hol rv hce hff
          rw [← ln.out]
          go_wp2
          go_loopw [16] (fun v wr => ∃ (i : Nat) (dv : Value) (ys : List Int), i ≤ n ∧ v = .int .i64 i ∧ M.seqE i (M.innerCell f g ch ch' d d' P C) = .ok ys ∧ OutAt w w5 w3.heap.size (w3.heap.size + 1) false (.slice av S.length kv) dv ys wr) (fun v _ => n - (intOf v).toNat)
          case atStart => exact ⟨0, _, [], Nat.zero_le _, rfl, rfl, hI0.out⟩
          case round =>
            clear hI0
            obtain ⟨i, dv, ys, hi, rfl, hseq, hI⟩ := hrel
            have hkr : ∀ W : World, Below wr.heap.size wr W → _ := fun W h => hkp.out W fun bq h1 => (h.block bq (by have := hI.2.2.2.1; omega)).trans (hI.2.2.2.2 bq (by omega) (by omega))
            by_cases hlt : i < n
            case neg =>
              obtain rfl : i = n := by omega
              have hrx := hr3.out
              unfold M.innerOf at hrx
              rw [hseq] at hrx
              dsimp only at hrx
              obtain ⟨-, -, -, -, bR, rSr⟩ := hkr wr (Below.refl _ _)
              obtain ⟨⟨z0, z1, z2⟩, z3, z4, z5⟩ := bR
              have hown := hI.2.1
              obtain ⟨⟨⟨c0, c1, c2⟩, f2⟩, -, hbl, -, -⟩ := hI
              obtain ⟨av5, cv5, rfl, -, -, rdat⟩ := hown.view
              replace hown := Lib.hid hown
              replace hrx := Lib.hid hrx
              replace hseq := Lib.hid hseq
              clear hkr
              go_wp2
              refine bodyPost_ret (v := .tuple #[arrV false av S.length kv av5 ys.length cv5, .int .i64 0]) (by simp [results, Tryd.results35, go_sem, cell?_set_same, z0, z1, z2]) rfl ?_
              refine DocPost.ok (x := ⟨false, S, ys⟩) hrx.out rfl ?_ ?_ (set3 hbl (by omega) _ _ _)
              · exact ((Row.set_ne rSr z0 (by simp)).set_ne ((World.cell?_setCell_other _ _ _ _ (by simp)).trans z1) (by simp)).set_ne ((World.cell?_setCell_other _ _ _ _ (by simp)).trans ((World.cell?_setCell_other _ _ _ _ (by simp)).trans z2)) (by simp)
              · exact ((Row.set_ne rdat z0 (by simp)).set_ne ((World.cell?_setCell_other _ _ _ _ (by simp)).trans z1) (by simp)).set_ne ((World.cell?_setCell_other _ _ _ _ (by simp)).trans ((World.cell?_setCell_other _ _ _ _ (by simp)).trans z2)) (by simp)
            have hiN : (i : Int) < ((n : Nat) : Int) := by omega
            have hi1 : i < U * C := hiC.out i hlt
            have lC := coords_length S (i : Int)
            have hq1 := fun j (hj : j < P) => hp1.out i j hiN hj
            have hq2 := fun j (hj : j < P) => hp2.out i j hiN hj
            have hlen0 := seqE_length hseq
            have hw0 : w.heap.size ≤ w3.heap.size := by omega
            have hszr := hI.2.2.2.1
            have hcoi := Lib.hid (hco.out i wr (hkr wr (Below.refl _ _)).2.2.2.2.2 hiN)
            clear hco hp1 hp2
            replace hI := Lib.hid hI
            replace hseq := Lib.hid hseq
            replace hkr := Lib.hid hkr
            replace hq1 := Lib.hid hq1
            replace hq2 := Lib.hid hq2
            go_wp2_with fail
            refine hcoi.out.mono ?_
            rintro e w6 ⟨rfl, rC, hb6⟩
            generalize (M.coords S (i : Int)).1 = C0 at *
            have lC0 : C0.length = u.length + v.length := by rw [lC]; exact hlS.out
            have hbw6 : Below wr.heap.size wr w6 := hb6
            have hszw : w3.heap.size + 1 ≤ wr.heap.size := hszr
            have sz6 : wr.heap.size ≤ w6.heap.size := hb6.size
            have rT : ∀ W, Below w6.heap.size w6 W → Row W (some ⟨wr.heap.size, 0, none⟩) (C0.take u.length) := fun W hb j hj => by
              rw [List.length_take] at hj
              obtain ⟨g, o, e, h⟩ := (rC.below hb) j (by omega)
              exact ⟨g, o, e, by rw [List.getD_eq_getElem?_getD, List.getElem?_take_of_lt (by omega), ← List.getD_eq_getElem?_getD]; exact h⟩
            have rD : ∀ W, Below w6.heap.size w6 W → Row W (some ⟨wr.heap.size, u.length, none⟩) (C0.drop u.length) := fun W hb j hj => by
              rw [List.length_drop] at hj
              obtain ⟨g, o, e, h⟩ := (rC.below hb) (u.length + j) (by omega)
              cases e
              refine ⟨_, _, rfl, ?_⟩
              rw [Nat.zero_add] at h
              rw [List.getD_eq_getElem?_getD, List.getElem?_drop, ← List.getD_eq_getElem?_getD]
              exact h
            obtain ⟨A, hA⟩ : ∃ A, A = C0.take u.length := ⟨_, rfl⟩
            obtain ⟨D, hD⟩ : ∃ D, D = C0.drop u.length := ⟨_, rfl⟩
            have lA : A.length = u.length := by rw [hA, List.length_take]; omega
            have lD : D.length = v.length := by rw [hD, List.length_drop]; omega
            rw [← hA] at rT hq1
            rw [← hD] at rD hq2
            have lA1 : (A ++ [(0 : Int)]).length = u.length + 1 := by rw [List.length_append, lA]; rfl
            have hbX : Below w6.heap.size w6 (w6.alloc (.cells #[.int .i64 0] 3)).drew := ((Below.refl _ w6).alloc (Nat.le_refl _) _).drew
            have hcj := Lib.hid (joined2_any (some ⟨wr.heap.size, 0, none⟩) (some ⟨w6.heap.size, 0, none⟩) A [0] u.length 1 S.length 1 ((w6.alloc (.cells #[.int .i64 0] 3)).drew) (rT _ hbX) (row_lone w6 0) (by rw [lA]; show u.length + 1 < _; omega) lA.symm rfl)
            have hln1 := Lib.hid (fun W aJ cJ (h : Below wr.heap.size wr W) (hr : Row W aJ (A ++ [0])) =>
              refLine_any ch (some ⟨bs, os, none⟩) b (u ++ [(P : Int)]) d (u.length + 1) c d.length z u.length aJ (A ++ [0]) (u.length + 1) cJ P (fun j => i / C * P + j) qa W (hkr.out W h).1.1 (hkr.out W h).1.2 (by simp only [List.length_append, List.length_cons, List.length_nil]; unfold maxLen; omega) ld hr hqa.out
                (by rw [lA1]; omega) (by rw [lA1]; omega) (by omega) (fun j hj => ⟨(hq1.out j hj).1, (hq1.out j hj).2, by rw [hdU.out]; exact (line_in hi1 hj).1⟩) (by simp) rfl lA1.symm)
            have hszX : (w6.alloc (.cells #[.int .i64 0] 3)).drew.heap.size = w6.heap.size + 1 := by simp
            have hbwX : Below wr.heap.size wr (w6.alloc (.cells #[.int .i64 0] 3)).drew := hbw6.trans (hbX.mono sz6)
            obtain ⟨⟨x0, x1, x2⟩, -, -, -⟩ := (hkr.out w6 hbw6).2.2.1
            have iS : (u.length : Int) ≤ (S.length : Int) := by have := hlS.out; omega
            have hbwX' := Lib.hid hbwX
            have hszX' := Lib.hid hszX
            have hbw6' := Lib.hid hbw6
            have rT' := Lib.hid rT
            have rD' := Lib.hid rD
            replace rC := Lib.hid rC
            replace hA := Lib.hid hA
            replace hD := Lib.hid hD
            replace lC := Lib.hid lC
            clear rT rD hbX hbwX hszX hbw6 hb6
            go_wp2_with fail
            go_region_held3 (fun w' => w'.cell? ⟨w.heap.size, 0, none⟩ = some (.bool ch) ∧ w'.cell? ⟨w.heap.size, 1, none⟩ = some (.slice (some ⟨bs, os, none⟩) (u.length + 1) c) ∧ w'.cell? ⟨w.heap.size, 2, none⟩ = some (.slice b d.length z))
              (first | go_keep | (exact held3 hb7 (by assumption)) | (exact held3 hb8 (by assumption)))
              (first
                | (go_at_call 59; refine hcj.out.mono ?_; rintro e w7 ⟨vJ, rfl, hoJ, hb7⟩; obtain ⟨aJ, cJ, rfl, -, -, rJ⟩ := hoJ.view; have hbw7 := hbwX'.out.trans (hb7.mono (by rw [hszX'.out]; omega)))
                | (go_at_call 73; refine (hln1.out w7 aJ cJ hbw7 rJ).mono ?_; rintro e w8 ⟨vL, rfl, hoL, hb8⟩))
            have hL1 : ∃ L1 : List Int, L1.length = P ∧ (∀ j, j < P → L1.getD j 0 = d.getD (i / C * P + j) 0) ∧ Own w8 w7.heap.size vL L1 := ⟨_, by simp, fun j hj => range_get (fun j => d.getD (i / C * P + j) 0) hj, hoL⟩
            obtain ⟨L1, lL1, gL1, hoL1⟩ := hL1
            have hbw8 : Below wr.heap.size wr w8 := hbw7.trans (hb8.mono hbw7.size)
            have hb68 : Below w6.heap.size w6 w8 := ((((Below.refl _ w6).alloc (Nat.le_refl _) _).drew).trans (hb7.mono (by rw [hszX'.out]; omega))).trans (hb8.mono (by have := hb7.size; rw [hszX'.out] at this; omega))
            clear hoL hoJ rJ hb7 hb8 hcj x0 x1 x2 hln1 rT'
            have hbX8 : Below w8.heap.size w8 (w8.alloc (.cells #[.int .i64 0] 3)).drew := ((Below.refl _ w8).alloc (Nat.le_refl _) _).drew
            have hsz8 : (w8.alloc (.cells #[.int .i64 0] 3)).drew.heap.size = w8.heap.size + 1 := by simp
            have hbwX8 : Below wr.heap.size wr (w8.alloc (.cells #[.int .i64 0] 3)).drew := hbw8.trans (hbX8.mono hbw8.size)
            obtain ⟨a3, ha3, rD3⟩ : ∃ a3 : Option Addr, (if S.length = u.length then (some ⟨wr.heap.size, 0, none⟩ : Option Addr) else some ⟨wr.heap.size, u.length, none⟩) = a3 ∧ Row (w8.alloc (.cells #[.int .i64 0] 3)).drew a3 D := by
              by_cases h : S.length = u.length
              · refine ⟨_, if_pos h, ?_⟩
                obtain rfl : D = [] := List.eq_nil_of_length_eq_zero (by have := hlS.out; omega)
                exact Row.nil _ _
              · exact ⟨_, if_neg h, rD'.out _ (hb68.trans (hbX8.mono hb68.size))⟩
            have g2 : S.length - u.length = v.length := by have := hlS.out; omega
            have lD1 : ([(0 : Int)] ++ D).length = v.length + 1 := by simp [lD]
            have hcj2 := Lib.hid (joined2_any (some ⟨w8.heap.size, 0, none⟩) a3 [0] D 1 v.length 1 v.length ((w8.alloc (.cells #[.int .i64 0] 3)).drew) (row_lone w8 0) rD3 (by rw [lD]; show 1 + v.length < _; omega) rfl lD.symm)
            have hln2 := Lib.hid (fun W aJ cJ (h : Below wr.heap.size wr W) (hr : Row W aJ ([0] ++ D)) =>
              refLine_any ch' (some ⟨bt, ot, none⟩) b' ((P : Int) :: v) d' (v.length + 1) c' d'.length z' 0 aJ ([0] ++ D) (v.length + 1) cJ P (fun j => j * C + i % C) qb W (hkr.out W h).2.1.1 (hkr.out W h).2.1.2 (by rw [List.length_cons]; unfold maxLen; omega) ld' hr hqb.out
                (by rw [lD1]; omega) (by rw [lD1]; omega) (by omega) (fun j hj => ⟨(hq2.out j hj).1, (hq2.out j hj).2, by rw [hdC.out]; exact (line_in hi1 hj).2⟩) rfl rfl lD1.symm)
            obtain ⟨⟨y0, y1, y2⟩, -, -, -⟩ := (hkr.out w8 hbw8).2.2.2.1
            have hbw8' := Lib.hid hbw8
            have hbwX8' := Lib.hid hbwX8
            have hsz8' := Lib.hid hsz8
            have hb78 : wr.heap.size ≤ w7.heap.size := hbw7.size
            replace hoL1 := Lib.hid hoL1
            replace gL1 := Lib.hid gL1
            clear hbX8 hbwX8 hsz8 rD3 hbw7 hb68 hbw8
            go_wp2_with fail
            go_region_held3 (fun w' => w'.cell? ⟨w.heap.size + 1, 0, none⟩ = some (.bool ch') ∧ w'.cell? ⟨w.heap.size + 1, 1, none⟩ = some (.slice (some ⟨bt, ot, none⟩) (v.length + 1) c') ∧ w'.cell? ⟨w.heap.size + 1, 2, none⟩ = some (.slice b' d'.length z'))
              (first | go_keep | (exact held3 hb9 (by assumption)) | (exact held3 hb10 (by assumption)))
              (first
                | (go_at_call 59; refine hcj2.out.mono ?_; rintro e w9 ⟨vJ, rfl, hoJ, hb9⟩; obtain ⟨aJ, cJ, rfl, -, -, rJ⟩ := hoJ.view; have hbw9 := hbwX8'.out.trans (hb9.mono (by rw [hsz8'.out]; have := hbw8'.out.size; omega)))
                | (go_at_call 73; refine (hln2.out w9 aJ cJ hbw9 rJ).mono ?_; rintro e w10 ⟨vM, rfl, hoM, hb10⟩))
            have hL2 : ∃ L2 : List Int, L2.length = P ∧ (∀ j, j < P → L2.getD j 0 = d'.getD (j * C + i % C) 0) ∧ Own w10 w9.heap.size vM L2 := ⟨_, by simp, fun j hj => range_get (fun j => d'.getD (j * C + i % C) 0) hj, hoM⟩
            obtain ⟨L2, lL2, gL2, hoL2⟩ := hL2
            have hbw10 : Below wr.heap.size wr w10 := hbw9.trans (hb10.mono hbw9.size)
            have hs89 : w8.heap.size ≤ w9.heap.size := by have := hb9.size; rw [hsz8'.out] at this; omega
            have hb810 : Below w8.heap.size w8 w10 := ((((Below.refl _ w8).alloc (Nat.le_refl _) _).drew).trans (hb9.mono (by rw [hsz8'.out]; omega))).trans (hb10.mono hs89)
            obtain ⟨aL, cL, hvL, -⟩ := hoL1.out.view
            rw [lL1] at hvL
            subst hvL
            obtain ⟨aM, cM, hvM, -⟩ := hoL2.view
            rw [lL2] at hvM
            subst hvM
            have hgU : ∀ g, aL = some ⟨g, 0, none⟩ → g < w9.heap.size := fun g e => by
              have h := hoL1.out
              rw [e] at h
              have := (own_at h).2
              omega
            have hoL10 := hoL1.out.below hb810
            replace hgU := Lib.hid hgU
            replace gL2 := Lib.hid gL2
            replace hoL2 := Lib.hid hoL2
            clear hoM hoJ rJ hb9 hb10 hb810 hbw9 hcj2 hln2 hoL1 y0 y1 y2 rD' ha3 g2
            obtain ⟨wo, hwo⟩ : ∃ wo : World, wo = wr := ⟨_, rfl⟩
            subst hwo
            go_wp2
            go_loopw [20] (fun v wi => ∃ (k : Nat) (ls : List Int), k ≤ P ∧ v = .int .i64 k ∧ M.seqE k (M.lineV g ch ch' d d' P C i) = .ok ls ∧ Own wi w7.heap.size (.slice aL P cL) (ls ++ L1.drop k) ∧ Own wi w9.heap.size (.slice aM P cM) L2 ∧ Below wo.heap.size wo wi) (fun v _ => P - (intOf v).toNat)
            case atStart => exact ⟨0, [], Nat.zero_le _, rfl, rfl, hoL10, hoL2.out, hbw10⟩
            case round =>
              obtain ⟨k, ls, hk, rfl, hsk, hoU, hoV, hbw⟩ := hrel
              clear hoL10 hbw10 hoL2
              have hlk := seqE_length hsk
              by_cases hlt2 : k < P
              case pos =>
                have lU : (ls ++ L1.drop k).length = P := by rw [List.length_append, List.length_drop]; omega
                obtain ⟨gU, cap, hvU, hgU1, hgU2⟩ := own_slice hoU (by omega)
                obtain ⟨gV, cap2, hvV, hgV1, hgV2⟩ := own_slice hoV (by omega)
                have haL : aL = some ⟨gU, 0, none⟩ := (Value.slice.inj hvU).1
                have haM : aM = some ⟨gV, 0, none⟩ := (Value.slice.inj hvV).1
                have hg9 := hgU.out gU haL
                subst haL
                subst haM
                clear hvU hvV
                have cU := own_cell hoU (i := k) (by omega)
                rw [mid_get hlk, gL1.out k hlt2] at cU
                have cV := own_cell hoV (i := k) (by omega)
                rw [gL2.out k hlt2] at cV
                have fU := own_frozen hoU k
                have hstU := fun x => own_store hoU (i := k) (by omega) x
                simp only [mid_set hlk (by omega : k < L1.length)] at hstU
                have hfar := fun x => own_far hoV ⟨gU, k, none⟩ (.int .i64 x) hg9
                have hbst := fun x => hbw.setCell (p := ⟨gU, k, none⟩) (by show wo.heap.size ≤ gU; omega) (.int .i64 x)
                obtain ⟨-, -, hX, hY, hR, -⟩ := hkr.out _ hbw
                obtain ⟨⟨x0, x1, x2⟩, -⟩ := hX
                obtain ⟨⟨y0, y1, y2⟩, -⟩ := hY
                obtain ⟨⟨z0, z1, z2⟩, z3, z4, z5⟩ := hR
                have X64 := x64.out (i / C * P + k)
                have Y64 := y64.out (k * C + i % C)
                have hlv : M.lineV g ch ch' d d' P C i k = M.tw g ch ch' (d.getD (i / C * P + k) 0) (d'.getD (k * C + i % C) 0) := rfl
                generalize d.getD (i / C * P + k) 0 = X at *
                generalize d'.getD (k * C + i % C) 0 = Y at *
                have hcall := fun W => twoCells_any g ch ch' X Y W X64 Y64
                have hIb : ∀ nq, Below w.heap.size w (World.drewN wr nq) := fun nq => below_drewN (hI.out.2.2.1.trans (hbw.mono (by omega))) nq
                replace hIb := Lib.hid hIb
                replace hstU := Lib.hid hstU
                replace hfar := Lib.hid hfar
                replace hbst := Lib.hid hbst
                replace hoU := Lib.hid hoU
                replace hoV := Lib.hid hoV
                clear hoU hoV lU hgU2 hgV2
                cases hv : M.tw g ch ch' X Y with
                | error e9 =>
                  rw [hv] at hlv hcall
                  dsimp only [refI] at hcall
                  have hic : M.innerCell f g ch ch' d d' P C i = .error e9 := by unfold M.innerCell; rw [seqE_error (seqE_stop hsk hlv) hlt2]
                  have hrx := hr3.out
                  unfold M.innerOf at hrx
                  rw [seqE_error (seqE_stop hseq.out hic) hlt] at hrx
                  have hxz : (e9 != 0) = true := by rw [bne_iff_ne]; exact tw_err hv
                  replace hrx := Lib.hid hrx
                  replace hcall := Lib.hid hcall
                  clear hlv hv hic hsk
                  go_wp2
                  go_quiet ((go_at_call 65; exact Calls.quiet_of_same ((hcall.out _).mono fun _ _ h => ⟨h.1, h.2.symm⟩)))
                  go_wp2
                  refine bodyPost_ret (v := .tuple #[arrV false none 0 0 none 0 0, .int .i64 e9]) (by simp [results, Tryd.results35, go_sem, cell?_set_same, z0, z1, z2]) rfl ?_
                  exact .error hrx.out rfl (set3 (hIb.out _) (by omega) _ _ _)
                | ok x9 =>
                  rw [hv] at hlv hcall
                  dsimp only [refI] at hcall
                  have hsn := Lib.hid (seqE_next hsk hlv)
                  replace hcall := Lib.hid hcall
                  clear hlv hv hsk
                  go_wp2
                  go_quiet ((go_at_call 65; exact Calls.quiet_of_same ((hcall.out _).mono fun _ _ h => ⟨h.1, h.2.symm⟩)))
                  go_wp2
                  go_roundw
                  case rel => exact ⟨k + 1, ls ++ [x9], by omega, by go_num, hsn.out, hstU.out x9, hfar.out x9, (below_drewN hbw nq).setCell (p := ⟨gU, k, none⟩) (by show wo.heap.size ≤ gU; omega) (.int .i64 x9)⟩
                  case measure => simp [intOf]; omega
              case neg =>
                have ek : P = k := by omega
                subst ek
                rw [List.drop_eq_nil_of_le (by omega), List.append_nil] at hoU
                obtain ⟨aL', cL', hvU, hcap, -, rU⟩ := hoU.view
                have haL : aL = aL' := (Value.slice.inj hvU).1
                have hcL : cL = cL' := (Value.slice.inj hvU).2.2
                subst haL
                subst hcL
                have hall : All64 ls := seqE_all hsk (fun j v hj h => tw_i64 (x64.out (i / C * P + j)) (y64.out (j * C + i % C)) h)
                have hfo := fun W (h : Row W aL ls) => refFolded_any f ls aL cL W h hall (by unfold maxLen; omega) hcap
                rw [hlk] at hfo
                obtain ⟨-, -, -, -, hR, -⟩ := hkr.out _ hbw
                have hIb := hI.out.2.2.1.trans (hbw.mono (by omega))
                have hI9 := hI.out.belowW (by omega) hbw (by omega)
                have hicx : M.innerCell f g ch ch' d d' P C i = M.foldL f ls := by unfold M.innerCell; rw [hsk]
                clear hoU hoV hcap hall hvU
                cases hfv : M.foldL f ls with
                | error e9 =>
                  rw [hfv] at hfo hicx
                  have hrx := hr3.out
                  unfold M.innerOf at hrx
                  rw [seqE_error (seqE_stop hseq.out hicx) hlt] at hrx
                  have hxz : (e9 != 0) = true := by rw [bne_iff_ne]; exact foldL_ne hfv
                  have hfo1 := Lib.hid (hfo _ rU)
                  replace hrx := Lib.hid hrx
                  clear hfo hfv hicx hsk rU hI9
                  obtain ⟨⟨z0, z1, z2⟩, z3, z4, z5⟩ := hR
                  go_wp2_with fail
                  refine hfo1.out.mono ?_
                  rintro e w11 ⟨rfl, rfl⟩
                  dsimp only [refI]
                  go_wp2
                  refine bodyPost_ret (v := .tuple #[arrV false none 0 0 none 0 0, .int .i64 e9]) (by simp [results, Tryd.results35, go_sem, cell?_set_same, z0, z1, z2]) rfl ?_
                  exact .error hrx.out rfl (set3 hIb (by omega) _ _ _)
                | ok x9 =>
                  rw [hfv] at hfo hicx
                  have hsn := Lib.hid (seqE_next hseq.out hicx)
                  have hfo1 := Lib.hid (hfo _ rU)
                  have hlen : ys.length < 17592186044416 := by omega
                  clear hfo hfv hicx hsk rU hR hI hlen0
                  go_wp2_with fail
                  refine hfo1.out.mono ?_
                  rintro e w11 ⟨rfl, rfl⟩
                  dsimp only [refI]
                  have hI8 := Lib.hid hI9
                  obtain ⟨⟨⟨c0, c1, c2⟩, f2⟩, hown, hbl, hsz, -⟩ := hI9
                  obtain ⟨av5, cv5, rfl, -, -, -⟩ := hown.view
                  have k1 : w3.heap.size < w3.heap.size + 1 := Nat.lt_succ_self _
                  replace hown := Lib.hid hown
                  replace hlen := Lib.hid hlen
                  clear hbl
                  go_wp2_with (at_builtin; refine app_int rfl (.tmp 185) (.tmp 187) rfl (w3.heap.size + 1) _ ys x9 rfl hown.out rfl hlen.out hsz ?_; intro v' w' ho' hb' hl'; obtain ⟨a', c', rfl, -, -, -⟩ := ho'.view; have c8 := (hb'.cell (by exact k1)).trans c2; have f8 := (hb'.frozen (by exact k1)).trans f2; have hfin := Lib.hid (OutAt.step hI8.out hw0 k1 hb' ho'); replace ho' := Lib.hid ho')
                  go_roundw
                  case rel => exact ⟨i + 1, _, _, by omega, by go_num, hsn.out, by have h := hfin.out; rw [List.length_append] at h; exact h⟩
                  case measure => simp [intOf]; omega
end Go.Proofs.YtcenhemlgapkeaaDoor
