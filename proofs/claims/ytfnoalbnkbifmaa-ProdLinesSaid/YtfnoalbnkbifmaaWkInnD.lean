/- The call prod.Inner of characters with numbers. Condition: rows that lie as lists of ints of 64 bits, within their capacities. -/
import Derived.Test.YtfnoalbnkbifmaaInnBtw
namespace Go.Proofs.Ytfnoalbnkbifmaa
open Go.RowKit

set_option maxRecDepth 20000 in
set_option maxHeartbeats 16000000 in
theorem inner_tf (f g : Int) (hcm : M.cmp g = true) (ch ch' : Bool) (hch : ch = true) (hch' : ch' = false) (a b a' b' : Option Addr) (s d s' d' : List Int) (m c n z m' c' n' z' : Nat) (w : World) (hs : Row w a s) (hd : Row w b d) (ls : s.length ≤ maxLen) (ld : d.length ≤ maxLen) (hd64 : All64 d) (hcs : s.length ≤ c) (em : m = s.length) (en : n = d.length)
    (hs' : Row w a' s') (hd' : Row w b' d') (ls' : s'.length ≤ maxLen) (ld' : d'.length ≤ maxLen) (hd64' : All64 d') (hcs' : s'.length ≤ c') (em' : m' = s'.length) (en' : n' = d'.length) :
    Calls Try.prog 5 #[.int .i64 f, .int .i64 g, arrV ch a m c b n z, arrV ch' a' m' c' b' n' z'] w fun e w' => ArrPostF (M.inner f g ⟨ch, s, d⟩ ⟨ch', s', d'⟩) w e w' := by
  replace hcm := Lib.hid hcm
  replace hch := Lib.hid hch
  replace hch' := Lib.hid hch'
  subst em
  subst en
  subst em'
  subst en'
  have E := (((((((Env.start w).addRow hd').addRow hs').addRow hd).addRow hs).box ch a s.length c b d.length z).box ch' a' s'.length c' b' d'.length z').box false none 0 0 none 0 0
  simp only [World.size_alloc] at E
  have E0 := E.alloc (.cells #[.int .i64 f, .int .i64 g] 22)
  have k1 := fun w c0 c1 => known2_any f g (w.heap.size + 1 + 1 + 1) w c0 c1
  have hkn := known2_any f g (w.heap.size + 1 + 1 + 1) ((((w.alloc (.cells #[.bool ch, .slice a s.length c, .slice b d.length z] 25)).alloc (.cells #[.bool ch', .slice a' s'.length c', .slice b' d'.length z'] 25)).alloc (.cells #[.bool false, .slice none 0 0, .slice none 0 0] 25)).alloc (.cells #[.int .i64 f, .int .i64 g] 22)) (by simp [go_sem]) (by simp [go_sem])
  have hck := fun w h1 h2 h3 h4 => pcheck_any ch ch' a b a' b' s d s' d' _ c _ z _ c' _ z' w h1 h2 ls ld rfl rfl h3 h4 ls' ld' rfl rfl
  clear k1
  replace hkn := Lib.hid hkn
  replace hck := Lib.hid hck
  go_enter Try.func5, Try.ntmps5
  go_wp2_with fail
  refine hkn.out.mono ?_
  rintro e w1 ⟨rfl, n1, rfl⟩
  replace E := E0.drew n1
  clear hkn E0 hs hd hs' hd'
  obtain ⟨w1, hw1⟩ : ∃ w1 : World, w1 = ((((w.alloc (.cells #[.bool ch, .slice a s.length c, .slice b d.length z] 25)).alloc (.cells #[.bool ch', .slice a' s'.length c', .slice b' d'.length z'] 25)).alloc (.cells #[.bool false, .slice none 0 0, .slice none 0 0] 25)).alloc (.cells #[.int .i64 f, .int .i64 g] 22)).drewN n1 := ⟨_, rfl⟩
  rw [← hw1] at E ⊢
  replace hw1 := Lib.hid hw1
  by_cases hk : M.unk f g = 0
  case neg =>
    have hr := Lib.hid (show M.inner f g ⟨ch, s, d⟩ ⟨ch', s', d'⟩ = .error 1 from if_pos hk)
    have h1 : M.unk f g = 1 := by unfold M.unk at hk ⊢; split <;> simp_all
    replace hk := Lib.hid hk
    rw [show errV (M.unk f g) = .iface 45 (.int .i64 1) by rw [h1]; rfl]
    replace h1 := Lib.hid h1
    obtain ⟨⟨u0, u1, u2⟩, g0, g1, g2⟩ := E.getBox 0 rfl
    go_wp2
    refine bodyPost_ret (v := .tuple #[arrV false none 0 0 none 0 0, .iface 45 (.int .i64 1)]) (by simp [results, Try.results5, go_sem, cell?_set_same, u0, u1, u2]) rfl ?_
    exact .error hr.out rfl (set3 E.bel (by omega) _ _ _)
  have hr0 : M.inner f g ⟨ch, s, d⟩ ⟨ch', s', d'⟩ = if M.flaws ⟨ch, s, d⟩ ⟨ch', s', d'⟩ ≠ 0 then .error (M.flaws ⟨ch, s, d⟩ ⟨ch', s', d'⟩) else match M.fits ⟨ch, s, d⟩ ⟨ch', s', d'⟩ with
      | .error e => .error e
      | .ok p => if ((ch || ch') && !M.cmp g) = true then .error 6 else match M.lone f p.2 with
        | .error e => .error e
        | .ok _ => M.innerOf f g ⟨ch, s, d⟩ ⟨ch', s', d'⟩ p.1 p.2.toNat (M.prod s'.tail).toNat (M.prod p.1).toNat := if_neg (fun h => h hk)
  rw [hk, errV_zero]
  clear hk
  obtain ⟨⟨u0, u1, u2⟩, -, -, -⟩ := E.getBox 1 rfl
  obtain ⟨⟨t0, t1, t2⟩, -, -, -⟩ := E.getBox 2 rfl
  replace hr0 := Lib.hid hr0
  go_wp2_with fail
  refine (hck.out _ (E.getRow 3 rfl) (E.getRow 4 rfl) (E.getRow 5 rfl) (E.getRow 6 rfl)).mono ?_
  rintro e w2 ⟨rfl, hb⟩
  replace E := E.step hb
  clear hb u0 u1 u2 t0 t1 t2 hck
  by_cases hf : M.flaws ⟨ch, s, d⟩ ⟨ch', s', d'⟩ = 0
  case neg =>
    have hr := Lib.hid (hr0.out.trans (if_pos hf))
    rw [errV_ne hf]
    generalize M.flaws ⟨ch, s, d⟩ ⟨ch', s', d'⟩ = nn at *
    replace hf := Lib.hid hf
    obtain ⟨⟨u0, u1, u2⟩, g0, g1, g2⟩ := E.getBox 0 rfl
    go_wp2
    refine bodyPost_ret (v := .tuple #[arrV false none 0 0 none 0 0, .iface 45 (.int .i64 nn)]) (by simp [results, Try.results5, go_sem, cell?_set_same, u0, u1, u2]) rfl ?_
    exact .error hr.out rfl (set3 E.bel (by omega) _ _ _)
  replace hr0 := hr0.out.trans (if_neg (fun h => h hf))
  rw [hf, errV_zero]
  have hfa : M.flaw ch s d = 0 := by unfold M.flaws at hf; split at hf <;> first | assumption | (rename_i h; exact absurd hf h)
  have hfb : M.flaw ch' s' d' = 0 := by unfold M.flaws at hf; rw [if_pos hfa] at hf; exact hf
  clear hf
  have l6 := (flaw_len hfa).2
  have l6' := (flaw_len hfb).2
  obtain ⟨⟨u0, u1, u2⟩, -, -, -⟩ := E.getBox 1 rfl
  obtain ⟨⟨t0, t1, t2⟩, -, -, -⟩ := E.getBox 2 rfl
  have hfit := fun w h1 h2 => fits_any ch ch' a b a' b' s d s' d' _ c d.length z _ c' d'.length z' w h1 h2 l6 l6' hcs hcs' rfl rfl
  replace hfit := Lib.hid hfit
  replace hfa := Lib.hid hfa
  replace hfb := Lib.hid hfb
  replace hr0 := Lib.hid hr0
  have sz2 := E.bel.size
  go_wp2_with fail
  refine (hfit.out _ (E.getRow 3 rfl) (E.getRow 5 rfl)).mono ?_
  intro e w3 hp
  have hb := hp.2.2
  replace E := E.step hb
  clear hb u0 u1 u2 t0 t1 t2 hfit
  cases hq : M.fits ⟨ch, s, d⟩ ⟨ch', s', d'⟩ with
  | error nn =>
    have hr := hr0.out
    rw [hq] at hr
    obtain ⟨v1, v2, rfl⟩ := hp.1 _ hq
    clear hp
    replace hr := Lib.hid hr
    replace hq := Lib.hid hq
    obtain ⟨⟨u0, u1, u2⟩, g0, g1, g2⟩ := E.getBox 0 rfl
    go_wp2
    refine bodyPost_ret (v := .tuple #[arrV false none 0 0 none 0 0, .iface 45 (.int .i64 nn)]) (by simp [results, Try.results5, go_sem, cell?_set_same, u0, u1, u2]) rfl ?_
    exact .error hr.out rfl (set3 E.bel (by omega) _ _ _)
  | ok pr =>
    obtain ⟨sv, long⟩ := pr
    have hr1 := hr0.out
    rw [hq] at hr1
    dsimp only at hr1
    obtain ⟨v3, rfl, ho3⟩ := hp.2.1 _ hq
    dsimp only at ho3 ⊢
    clear hp hr0
    replace hch := hch.out
    replace hch' := hch'.out
    subst hch
    subst hch'
    rw [if_neg (by rw [hcm.out]; simp)] at hr1
    obtain ⟨uu, vv, N0, e1, e2, rfl, hcnt⟩ := innerFits hq
    dsimp only at e1 e2
    subst e1
    subst e2
    obtain ⟨U, P, C, rfl, hP, hC, hdl, hdl', rfl, hUC, hpr, hUP, hPC, hv, hvl⟩ := inner_sizes hfa.out hfb.out hcnt
    have hsz := E.bel.size
    obtain ⟨⟨u0, u1, u2⟩, -, -, -⟩ := E.getBox 1 rfl
    obtain ⟨⟨t0, t1, t2⟩, -, -, -⟩ := E.getBox 2 rfl
    go_wp2_with fail
    refine (compares_any g _).mono ?_
    rintro e w4 ⟨rfl, rfl⟩
    rw [hcm.out]
    clear u0 u1 u2 t0 t1 t2
    cases hlo : M.lone f (P : Int) with
    | error nn =>
      rw [hlo] at hr1
      have hP0 : P = 0 ∧ M.neutral f = .error nn := by
        unfold M.lone at hlo
        by_cases h : P = 0
        · rw [if_pos (by omega)] at hlo; exact ⟨h, hlo⟩
        · rw [if_neg (by omega)] at hlo; cases hlo
      obtain ⟨hP0, hn⟩ := hP0
      have eP : (((P : Nat) : Int) == 0) = true := by rw [beq_iff_eq]; omega
      have hneut := fun w => neutral_any f w
      rw [hn] at hneut
      obtain ⟨⟨u0, u1, u2⟩, -, -, -⟩ := E.getBox 1 rfl
      obtain ⟨⟨t0, t1, t2⟩, -, -, -⟩ := E.getBox 2 rfl
      obtain ⟨⟨y0, y1, y2⟩, y3, y4, y5⟩ := E.getBox 0 rfl
      have hbel := E.bel
      obtain ⟨av, kv, ev, hkv, hkm, rv⟩ := ho3.view
      subst ev
      replace hneut := Lib.hid hneut
      replace hr1 := Lib.hid hr1
      clear hq hlo hfa hfb hn E ho3 rv hcnt hpr hC hdl hdl' hUC hUP hPC hv hvl
      go_wp2_with fail
      refine (hneut.out _).mono ?_
      rintro e w4 ⟨rfl, rfl⟩
      dsimp only [resI]
      go_wp2
      refine bodyPost_ret (v := .tuple #[arrV false none 0 0 none 0 0, .iface 45 (.int .i64 nn)]) (by simp [results, Try.results5, go_sem, cell?_set_same, y0, y1, y2]) rfl ?_
      exact .error hr1.out rfl (set3 hbel (by omega) _ _ _)
    | ok neu =>
    have hneu : P = 0 → M.neutral f = .ok neu := fun h => by
      unfold M.lone at hlo
      rw [if_pos (by omega)] at hlo
      exact hlo
    rw [hlo] at hr1
    dsimp only [List.tail_cons] at hr1
    rw [hC, hpr, Int.toNat_natCast, Int.toNat_natCast, Int.toNat_natCast] at hr1
    clear hq hlo hfa hfb
    obtain ⟨av, kv, ev, hkv, hkm, rv⟩ := ho3.view
    subst ev
    have fav : Fresh w av := fun p e => by have := own_fresh ho3 p e; omega
    replace hr1 := Lib.hid hr1
    replace hpr := Lib.hid hpr
    replace hdl := Lib.hid hdl
    replace hdl' := Lib.hid hdl'
    replace hC := Lib.hid hC
    replace ho3 := Lib.hid ho3
    replace hneu := Lib.hid hneu
    obtain ⟨⟨u0, u1, u2⟩, -, -, -⟩ := E.getBox 1 rfl
    obtain ⟨⟨t0, t1, t2⟩, -, -, -⟩ := E.getBox 2 rfl
    go_upto_if 71 with fail
    go_cut [15, 16] from 31 (fun s15 s16 wx => wx = w3)
    case first =>
      by_cases hP0 : P = 0
      · have eP : (((P : Nat) : Int) == 0) = true := by rw [beq_iff_eq]; omega
        have hneut := fun w => neutral_any f w
        rw [hneu.out hP0] at hneut
        replace hneut := Lib.hid hneut
        replace hP0 := Lib.hid hP0
        go_wp2_with fail
        refine (hneut.out _).mono ?_
        rintro e w4 ⟨rfl, rfl⟩
        dsimp only [resI]
        go_wp2_with fail
        go_meet
        case rel => rfl
      · have eP : (((P : Nat) : Int) == 0) = false := by rw [beq_eq_false_iff_ne]; omega
        go_wp2_with fail
        go_meet
        case rel => rfl
    case rest =>
      obtain rfl := hcut
      obtain ⟨Nn, hNn⟩ : ∃ Nn, Nn = U * C := ⟨_, rfl⟩
      rw [← hNn] at hcnt hUC
      have hct := count_any av (uu ++ vv) (uu.length + vv.length) kv wc rv (by simp only [List.length_append, maxLen]; have h1 := l6; have h2 := l6'; simp only [List.length_append, List.length_cons, List.length_nil] at h1 h2; omega) (by simp)
      rw [hcnt] at hct
      obtain ⟨bt, ot, rfl, cq⟩ := (E.getRow 5 rfl) 0 (by simp)
      clear cq
      have rvv : Row wc (some ⟨bt, ot + 1, none⟩) vv := fun i hi => by
        obtain ⟨b1, o1, e, hcc⟩ := (E.getRow 5 rfl) (i + 1) (by simp; omega)
        cases e
        refine ⟨_, _, rfl, ?_⟩
        rw [List.getD_cons_succ] at hcc
        rw [show ot + 1 + i = ot + (i + 1) by omega]
        exact hcc
      have hvc : vv.length + 1 ≤ c' := by simpa using hcs'
      obtain ⟨a2, ha2, r2⟩ : ∃ a2 : Addr, (if c' = 1 then (some ⟨bt, ot, none⟩ : Option Addr) else some ⟨bt, ot + 1, none⟩) = some a2 ∧ Row wc (some a2) vv := by
        by_cases h : c' = 1
        · refine ⟨_, if_pos h, ?_⟩
          obtain rfl : vv = [] := List.eq_nil_of_length_eq_zero (by omega)
          exact Row.nil _ _
        · exact ⟨_, if_neg h, rvv⟩
      clear rvv
      have i2 : (1 : Int) ≤ (vv.length : Int) + 1 := by omega
      have i3 : (vv.length : Int) + 1 ≤ (c' : Int) := by omega
      have hmk := run_make_room0 Nn (by omega)
      replace hcnt := Lib.hid hcnt
      replace hct := Lib.hid hct
      replace hNn := Lib.hid hNn
      replace hv := Lib.hid hv
      dsimp only [List.length_cons] at t1 u1 ⊢
      go_wp2_with fail
      refine hct.out.mono ?_
      rintro e w4 ⟨rfl, rfl⟩
      dsimp only [resI]
      go_wp2
      go_loop [19, 90] (fun v i => ∃ (k : Nat) (q : Int), k ≤ vv.length ∧ i = .int .i64 k ∧ v = .int .i64 q ∧ q = M.prod (vv.take k)) (fun _ i => vv.length - (intOf i).toNat)
      case atStart => exact ⟨0, 1, Nat.zero_le _, rfl, rfl, rfl⟩
      case round =>
        obtain ⟨k, q, hk, rfl, rfl, hqk⟩ := hrel
        by_cases hlt : k < vv.length
        · obtain ⟨b1, o1, ea, hcc⟩ := r2 k hlt
          obtain rfl : a2 = ⟨b1, o1, none⟩ := Option.some.inj ea
          clear ea
          have hw : wrap64 (q * vv[k]) = q * vv[k] := by
            have h1 := prod_bound5 (l := vv.take (k + 1)) (fun x hx => hv.out x (List.mem_of_mem_take hx)) (by rw [List.length_take]; omega)
            rw [prod_take hlt, ← hqk] at h1
            exact IntWalk.wrap64_in _ (by omega)
          have hnx := Lib.hid (show q * vv[k] = M.prod (vv.take (k + 1)) by rw [prod_take hlt, hqk])
          replace hqk := Lib.hid hqk
          go_wp2
          go_round
          case rel => exact ⟨k + 1, q * vv[k], by omega, by go_num, by first | rfl | rw [hw], hnx.out⟩
          case measure => (clear hw; simp [intOf]; omega)
        · obtain rfl : k = vv.length := by omega
          rw [List.take_of_length_le (Nat.le_refl _), hC.out] at hqk
          subst hqk
          clear hk hlt
          have E4 := (E.alloc (.cells (roomCells Nn) 3)).box false av (uu.length + vv.length) kv (some ⟨wc.heap.size, 0, none⟩) 0 Nn
          rw [World.size_alloc] at E4
          obtain ⟨⟨x0, x1, x2⟩, -, -, -⟩ := E4.getBox 2 rfl
          obtain ⟨⟨y0, y1, y2⟩, -, -, -⟩ := E4.getBox 3 rfl
          have ho4 := (own_room wc Nn wc.heap.size (Nat.le_refl _) (by unfold maxLen; omega)).below (push (start _) (.cells #[.bool false, .slice av (uu.length + vv.length) kv, .slice (some ⟨wc.heap.size, 0, none⟩) 0 Nn] 25))
          dsimp only [List.length_cons] at x1
          rw [show (uu ++ [(P : Int)]).length = uu.length + 1 by simp] at y1
          replace ho4 := Lib.hid ho4
          go_wp2_with fail
          refine (between_tf g _ _ _ _ _ _ _ _ _ _ _ _ _).mono ?_
          rintro e wB ⟨rfl, hgc, hb⟩
          have E5 := E4.step hb
          have ho5 := ho4.out.below hb
          have rvb : Row wB av (uu ++ vv) := ((rv.alloc (.cells (roomCells Nn) 3)).alloc (.cells #[.bool false, .slice av (uu.length + vv.length) kv, .slice (some ⟨wc.heap.size, 0, none⟩) 0 Nn] 25)).below hb
          simp only [World.size_alloc] at hgc hb
          have hmkP := run_make_room P P (Nat.le_refl _) (by omega)
          have HB : wc.heap.size + 1 + 1 + 1 + 1 + 1 < wB.heap.size := World.block_lt_of_cell? _ _ hgc
          have HW : w.heap.size + 1 + 1 < wc.heap.size := (E.getBox 0 rfl).lt
          have hDa := fun h => row_block (E.getRow 4 rfl) h
          have hDb := fun h => row_block (E.getRow 6 rfl) h
          have hDs := fun h => row_block rv h
          have rda := E5.getRow 5 rfl
          have rdb := E5.getRow 7 rfl
          have bres := E5.getBox 1 rfl
          have bxb := E5.getBox 2 rfl
          have bxa := E5.getBox 3 rfl
          dsimp only [List.length_cons] at bxb
          rw [show (uu ++ [(P : Int)]).length = uu.length + 1 by simp] at bxa
          have hI0 : InnAt w wB wc.heap.size (wc.heap.size + 1) (.slice av (uu.length + vv.length) kv) (.slice (some ⟨wc.heap.size, 0, none⟩) 0 Nn) [] wB := by
            obtain ⟨⟨z0, z1, z2⟩, _, _, z5⟩ := E5.getBox 0 rfl
            exact ⟨⟨z0, z1, z2⟩, z5, ⟨_, _, rfl, by omega, .inl rfl⟩, ho5, fun _ _ _ _ => rfl, E5.bel, Nat.le_refl _⟩
          have hinn := hr1.out
          rw [← hNn.out] at hinn
          clear E E4 E5 ho4 ho5 hb x0 x1 x2 y0 y1 y2 u0 u1 u2 t0 t1 t2 hr1 ha2 r2 rv i2 i3 hvc hmk hct hcnt ho3 hkm hv hvl hcs hcs' ls ls' hP hsz hneu hC hpr
          replace rda := Lib.hid rda
          replace rdb := Lib.hid rdb
          replace rvb := Lib.hid rvb
          replace bres := Lib.hid bres
          replace bxa := Lib.hid bxa
          replace bxb := Lib.hid bxb
          replace hI0 := Lib.hid hI0
          replace hinn := Lib.hid hinn
          replace hDa := Lib.hid hDa
          replace hDb := Lib.hid hDb
          replace hDs := Lib.hid hDs
          replace hgc := Lib.hid hgc
          go_wp2
          go_loopw [107] (fun v wr => ∃ (k : Nat) (dv : Value) (ys : List Int), k ≤ Nn ∧ v = .int .i64 k ∧ M.seqE k (M.innerCell f g true false d d' P C) = .ok ys ∧ InnAt w wB wc.heap.size (wc.heap.size + 1) (.slice av (uu.length + vv.length) kv) dv ys wr) (fun v _ => Nn - (intOf v).toNat)
          case atStart => exact ⟨0, _, [], Nat.zero_le _, rfl, rfl, hI0.out⟩
          case round =>
            clear hI0
            obtain ⟨k, dv, ys, hk, rfl, hseq, hI⟩ := hrel
            by_cases hlt : k < Nn
            case neg =>
              obtain rfl : k = Nn := by omega
              obtain ⟨⟨c0, c1, c2⟩, f2, ⟨gg, cap, rfl, hgne, hgor⟩, hown, hfr, hbel, hsz⟩ := hI
              have hfin := hinn.out
              unfold M.innerOf at hfin
              dsimp only at hfin
              rw [hseq] at hfin
              dsimp only at hfin
              obtain ⟨⟨z0, z1, z2⟩, y0, y1, y2⟩ := boxF_same bres.out (hfr (w.heap.size + 1 + 1) (by omega) (by omega) (by omega))
              have hrs : Row wr av (uu ++ vv) := by
                by_cases h0 : 0 < (uu ++ vv).length
                · obtain ⟨bv, ov, eav, hbv⟩ := hDs.out h0
                  exact row_same rvb.out fun p e => by rw [eav] at e; cases e; exact hfr bv (by omega) (by omega) (by omega)
                · obtain h1 : uu ++ vv = [] := List.eq_nil_of_length_eq_zero (by omega)
                  rw [h1]; exact Row.nil _ _
              have hne1 : wc.heap.size + 1 ≠ w.heap.size + 1 + 1 := by omega
              have fgg : Fresh w (some ⟨gg, 0, none⟩) := fun p e => by cases e; show w.heap.size ≤ gg; omega
              have hrd := hown.row
              have eSl : (uu ++ vv).length = uu.length + vv.length := by simp
              replace hfin := Lib.hid hfin
              replace hseq := Lib.hid hseq
              replace eSl := Lib.hid eSl
              clear hfr hown hlt hk
              go_wp2
              refine bodyPost_ret (v := .tuple #[arrV false av (uu.length + vv.length) kv (some ⟨gg, 0, none⟩) ys.length cap, .nilIface]) (by simp [results, Try.results5, go_sem, cell?_set_same, z0, z1, z2]) rfl ?_
              refine ArrPostF.ok (x := ⟨false, uu ++ vv, ys⟩) hfin.out (by rw [eSl.out]) ?_ ?_ fav fgg hkv (set3 hbel (by omega) _ _ _)
              · exact ((Row.set_ne hrs z0 (by simp)).set_ne ((World.cell?_setCell_other _ _ _ _ (by simp)).trans z1) (by simp)).set_ne ((World.cell?_setCell_other _ _ _ _ (by simp)).trans ((World.cell?_setCell_other _ _ _ _ (by simp)).trans z2)) (by simp)
              · exact ((Row.set_ne hrd z0 (by simp)).set_ne ((World.cell?_setCell_other _ _ _ _ (by simp)).trans z1) (by simp)).set_ne ((World.cell?_setCell_other _ _ _ _ (by simp)).trans ((World.cell?_setCell_other _ _ _ _ (by simp)).trans z2)) (by simp)
            have hk2 : k < U * C := by rw [← hNn.out]; exact hlt
            have hC1 : 0 < C := Nat.pos_of_ne_zero fun h => by rw [h] at hk2; simp at hk2
            obtain ⟨row, hrow⟩ : ∃ row, row = k / C := ⟨_, rfl⟩
            obtain ⟨col, hcol⟩ : ∃ col, col = k % C := ⟨_, rfl⟩
            have hrU : row < U := by rw [hrow]; exact Nat.div_lt_of_lt_mul (by rw [Nat.mul_comm]; exact hk2)
            have hcC : col < C := by rw [hcol]; exact Nat.mod_lt _ hC1
            have hrk : row ≤ k := by rw [hrow]; exact Nat.div_le_self _ _
            have hCk : C ≤ 4096 := by
              have : 1 * C ≤ U * C := Nat.mul_le_mul_right C (by omega)
              rw [← hNn.out] at this; omega
            have q0 : ((k : Int) / (C : Int)) = (row : Int) := by rw [hrow]; simp
            have q1 : Int.tdiv (k : Int) (C : Int) = (row : Int) := by rw [Int.tdiv_eq_ediv_of_nonneg (by omega), q0]
            have q2 : ((k : Int) % (C : Int)) = (col : Int) := by rw [hcol]; simp
            have q3 : Int.tmod (k : Int) (C : Int) = (col : Int) := by rw [Int.tmod_eq_emod_of_nonneg (by omega), q2]
            have qw : IntKind.i64.wrap (row : Int) = (row : Int) := by rw [IntKind.wrap_i64]; omega
            have qw2 : wrap64 (row : Int) = (row : Int) := IntWalk.wrap64_in _ (by omega)
            have qw3 : IntKind.i64.wrap (col : Int) = (col : Int) := by rw [IntKind.wrap_i64]; omega
            have hC0 : ((C : Int) == 0) = false := by rw [beq_eq_false_iff_ne]; omega
            have hCm : ((C : Int) == -1) = false := by rw [beq_eq_false_iff_ne]; omega
            replace hrow := Lib.hid hrow
            replace hcol := Lib.hid hcol
            replace hseq := Lib.hid hseq
            have hbr := boxF_same bres.out (hI.2.2.2.2.1 (w.heap.size + 1 + 1) (by omega) (by omega) (by omega))
            obtain ⟨⟨p0, p1, p2⟩, -, -, -⟩ := boxF_same bxa.out (hI.2.2.2.2.1 w.heap.size (by omega) (by omega) (by omega))
            obtain ⟨⟨q4, q5, q6⟩, -, -, -⟩ := boxF_same bxb.out (hI.2.2.2.2.1 (w.heap.size + 1) (by omega) (by omega) (by omega))
            have hgr := (cell_of_eq (hI.2.2.2.2.1 (wc.heap.size + 1 + 1 + 1 + 1 + 1) HB (by omega) (by omega)) 0).trans hgc.out
            have hwr := hI.2.2.2.2.2.2
            have hda : 0 < d.length → ∃ b_1 o, b = some ⟨b_1, o, none⟩ ∧ b_1 < wr.heap.size ∧ Row wr b d := fun h => by
              obtain ⟨b1, o1, rfl, h1⟩ := hDa.out h
              exact ⟨b1, o1, rfl, by omega, row_same rda.out fun p e => by cases e; exact hI.2.2.2.2.1 b1 (by omega) (by omega) (by omega)⟩
            have hdb : 0 < d'.length → ∃ b_1 o, b' = some ⟨b_1, o, none⟩ ∧ b_1 < wr.heap.size ∧ Row wr b' d' := fun h => by
              obtain ⟨b1, o1, rfl, h1⟩ := hDb.out h
              exact ⟨b1, o1, rfl, by omega, row_same rdb.out fun p e => by cases e; exact hI.2.2.2.2.1 b1 (by omega) (by omega) (by omega)⟩
            have hP6 : P ≤ 4096 := by
              have : P * 1 ≤ P * C := Nat.mul_le_mul_left P hC1
              omega
            have hol := own_zeros (wr.drewN 0) P wr.heap.size (Nat.le_refl _) (by unfold maxLen; omega)
            replace hI := Lib.hid hI
            replace hbr := Lib.hid hbr
            replace hda := Lib.hid hda
            replace hdb := Lib.hid hdb
            replace hgr := Lib.hid hgr
            replace hol := Lib.hid hol
            go_wp2
            go_quiet (fail)
            go_wp2
            rename World => wo
            have hol2 : Own ((wo.drewN ‹Nat›).alloc (.cells (roomCells P) 3)) wo.heap.size (.slice (some ⟨wo.heap.size, 0, none⟩) P P) ([] ++ List.replicate P 0) := hol.out
            clear bres bxa bxb rda rdb
            go_loopw [120] (fun v w' => ∃ (j : Nat) (l : List Int), j ≤ P ∧ v = .int .i64 j ∧ M.seqE j (M.lineV g true false d d' P C k) = .ok l ∧ Own w' wo.heap.size (.slice (some ⟨wo.heap.size, 0, none⟩) P P) (l ++ List.replicate (P - j) 0) ∧ Below wo.heap.size wo w') (fun v _ => P - (intOf v).toNat)
            case atStart => exact ⟨0, [], Nat.zero_le _, rfl, rfl, hol2, push (below_drewN (start wo) _) _⟩
            case round =>
              obtain ⟨j, l, hj, rfl, hsl, hol3, hB⟩ := hrel
              have hlc := seqE_length hsl
              by_cases hjP : j < P
              case pos =>
                obtain ⟨R, hR⟩ : ∃ R, R = row * P := ⟨_, rfl⟩
                obtain ⟨I, hI1⟩ : ∃ I, I = R + j := ⟨_, rfl⟩
                obtain ⟨Q, hQ⟩ : ∃ Q, Q = j * C := ⟨_, rfl⟩
                obtain ⟨K, hK1⟩ : ∃ K, K = Q + col := ⟨_, rfl⟩
                have hIl : I < d.length := by
                  have : (row + 1) * P ≤ U * P := Nat.mul_le_mul_right P hrU
                  rw [Nat.add_mul] at this
                  rw [hdl.out]; omega
                have hKl : K < d'.length := by
                  have : (j + 1) * C ≤ P * C := Nat.mul_le_mul_right C hjP
                  rw [Nat.add_mul] at this
                  rw [hdl'.out]; omega
                have hRl : R ≤ 4096 := by have := hdl.out; omega
                have hQl : Q ≤ 4096 := by have := hdl'.out; omega
                have iR0 : (row : Int) * (P : Int) = (R : Int) := by rw [hR]; simp
                have iR : IntKind.i64.wrap ((row : Int) * (P : Int)) = (R : Int) := by rw [iR0, IntKind.wrap_i64]; omega
                have iI : IntKind.i64.wrap ((R : Int) + (j : Int)) = (I : Int) := by rw [IntKind.wrap_i64]; omega
                have iQ0 : (j : Int) * (C : Int) = (Q : Int) := by rw [hQ]; simp
                have iQ : IntKind.i64.wrap ((j : Int) * (C : Int)) = (Q : Int) := by rw [iQ0, IntKind.wrap_i64]; omega
                have iK : IntKind.i64.wrap ((Q : Int) + (col : Int)) = (K : Int) := by rw [IntKind.wrap_i64]; omega
                have iI1 : (I : Int) < (d.length : Int) := by omega
                have iK1 : (K : Int) < (d'.length : Int) := by omega
                have hlv : M.lineV g true false d d' P C k j = M.tw g true false (d.getD I 0) (d'.getD K 0) := by
                  unfold M.lineV
                  rw [← hrow.out, ← hcol.out, hI1, hK1, hR, hQ]
                have xI : I64 (d.getD I 0) := by
                  rw [List.getD_eq_getElem?_getD, List.getElem?_eq_getElem hIl, Option.getD_some]; exact hd64 _ (List.getElem_mem hIl)
                have xK : I64 (d'.getD K 0) := by
                  rw [List.getD_eq_getElem?_getD, List.getElem?_eq_getElem hKl, Option.getD_some]; exact hd64' _ (List.getElem_mem hKl)
                obtain ⟨bd, od, rfl, hbd, rd⟩ := hda.out (by omega)
                obtain ⟨be, oe, rfl, hbe, re⟩ := hdb.out (by omega)
                obtain ⟨b1, o1, e1, cd⟩ := rd I hIl
                cases e1
                obtain ⟨b1, o1, e1, ce⟩ := re K hKl
                cases e1
                obtain ⟨X, hX⟩ : ∃ X, X = d.getD I 0 := ⟨_, rfl⟩
                obtain ⟨Y, hY⟩ : ∃ Y, Y = d'.getD K 0 := ⟨_, rfl⟩
                rw [← hX] at cd xI hlv
                rw [← hY] at ce xK hlv
                have L0 : w.heap.size < wo.heap.size := by omega
                have L1 : w.heap.size + 1 < wo.heap.size := by omega
                have L2 : wc.heap.size + 1 + 1 + 1 + 1 + 1 < wo.heap.size := by omega
                have F0 : wr.cell? ⟨w.heap.size, 2, none⟩ = some (.slice (some ⟨bd, od, none⟩) d.length z) := (hB.cell L0).trans p2
                have F1 : wr.cell? ⟨w.heap.size + 1, 2, none⟩ = some (.slice (some ⟨be, oe, none⟩) d'.length z') := (hB.cell L1).trans q6
                have F2 : wr.cell? ⟨bd, od + I, none⟩ = some (.int .i64 X) := (hB.cell hbd).trans cd
                have F3 : wr.cell? ⟨be, oe + K, none⟩ = some (.int .i64 Y) := (hB.cell hbe).trans ce
                have F4 : wr.cell? ⟨wc.heap.size + 1 + 1 + 1 + 1 + 1, 0, none⟩ = some (.int .i64 (if g = 9 then 1 else 0)) := (hB.cell L2).trans hgr.out
                have hfz := fun i => own_frozen hol3 i
                have hlr : (l ++ List.replicate (P - j) 0).length = P := by simp [hlc]; omega
                have ij1 : (j : Int) < (P : Int) := by omega
                have hbrw : BoxF wr (w.heap.size + 1 + 1) false none 0 0 none 0 0 := boxF_same hbr.out (hB.block _ (by omega))
                obtain ⟨⟨z0, z1, z2⟩, y0, y1, y2⟩ := hbrw
                have hw6 : Below w.heap.size w wr := below_trans hI.out.2.2.2.2.2.1 ⟨hB.os, hB.tape, hB.output, hB.size, fun b hb => hB.block b (by omega)⟩
                have N0 : w.heap.size ≠ wo.heap.size := by omega
                have N1 : w.heap.size + 1 ≠ wo.heap.size := by omega
                have N2 : bd ≠ wo.heap.size := by omega
                have N3 : be ≠ wo.heap.size := by omega
                have N4 : wc.heap.size + 1 + 1 + 1 + 1 + 1 ≠ wo.heap.size := by omega
                have hfj := hfz j
                have hcj := own_cell hol3 (i := j) (by omega)
                generalize (l ++ List.replicate (P - j) 0).getD j 0 = cj at hcj
                replace hfz := Lib.hid hfz
                replace hlr := Lib.hid hlr
                replace hR := Lib.hid hR
                replace hQ := Lib.hid hQ
                replace hI1 := Lib.hid hI1
                replace hK1 := Lib.hid hK1
                replace hX := Lib.hid hX
                replace hY := Lib.hid hY
                replace hlc := Lib.hid hlc
                replace hsl := Lib.hid hsl
                replace hol3 := Lib.hid hol3
                replace hB := Lib.hid hB
                clear cd ce rd re iR0 iQ0 p0 p1 p2 q4 q5 q6 hwr
                have N5 : w.heap.size + 1 + 1 ≠ wo.heap.size := by omega
                have hz6 : ∀ n v, BoxF ((wr.drewN n).setCell ⟨wo.heap.size, j, none⟩ v) (w.heap.size + 1 + 1) false none 0 0 none 0 0 := fun n v => boxF_same (w := wr) ⟨⟨z0, z1, z2⟩, y0, y1, y2⟩ (Below.heap_setCell (wr.drewN n) _ v _ N5)
                have hb6 : ∀ n v, Below w.heap.size w ((wr.drewN n).setCell ⟨wo.heap.size, j, none⟩ v) := fun n v => (below_drewN hw6 n).setCell (p := ⟨wo.heap.size, j, none⟩) (by show w.heap.size ≤ wo.heap.size; omega) v
                have ho6 : ∀ n v, Own ((wr.drewN n).setCell ⟨wo.heap.size, j, none⟩ (.int .i64 v)) wo.heap.size (.slice (some ⟨wo.heap.size, 0, none⟩) P P) ((l ++ [v]) ++ List.replicate (P - (j + 1)) 0) := fun n v => by
                  rw [← fill_set hlc.out hjP]
                  exact own_store (w := wr.drewN n) hol3.out (by rw [hlr.out]; exact hjP) v
                have hB6 : ∀ n v, Below wo.heap.size wo ((wr.drewN n).setCell ⟨wo.heap.size, j, none⟩ v) := fun n v => (below_drewN hB.out n).setCell (p := ⟨wo.heap.size, j, none⟩) (Nat.le_refl _) v
                clear z0 z1 z2 y0 y1 y2
                cases hv : M.tw g true false X Y with
                | error e =>
                  rw [hv] at hlv
                  have hce : M.innerCell f g true false d d' P C k = .error e := by unfold M.innerCell; rw [seqE_error (seqE_stop hsl.out hlv) hjP]
                  have hr := Lib.hid (hinn.out.trans (innerOf_error hseq.out hlt hce))
                  clear hlv hce
                  replace hv := Lib.hid hv
                  go_upto_region 33 with fail
                  go_region_held3 (fun w' => w'.cell? ⟨w.heap.size, 2, none⟩ = some (.slice (some ⟨bd, od, none⟩) d.length z) ∧ w'.cell? ⟨w.heap.size + 1, 2, none⟩ = some (.slice (some ⟨be, oe, none⟩) d'.length z') ∧ w'.cell? ⟨bd, od + I, none⟩ = some (.int .i64 X) ∧ w'.cell? ⟨be, oe + K, none⟩ = some (.int .i64 Y) ∧ w'.cell? ⟨wc.heap.size + 1 + 1 + 1 + 1 + 1, 0, none⟩ = some (.int .i64 (if g = 9 then 1 else 0)))
                    (first | (exact ⟨cell_keep (by assumption) N0, cell_keep (by assumption) N1, cell_keep (by assumption) N2, cell_keep (by assumption) N3, cell_keep (by assumption) N4⟩) | go_keep | (refine ⟨?_, ?_, ?_, ?_, ?_⟩ <;> assumption))
                    (first
                      | (go_at_call 36; refine (betwT_tf g X Y _ _ (by assumption) xI xK).mono ?_; rintro e w5 ⟨he, n5, rfl⟩; rw [hv.out] at he; subst he; dsimp only [resI]))
                  have hz7 := hz6 (1 + n5) (.int .i64 0)
                  have hb7 := hb6 (1 + n5) (.int .i64 0)
                  clear hz6 hb6 ho6 hB6 F0 F1 F2 F3 F4 hfj hcj iR iI iQ iK iI1 iK1
                  obtain ⟨w6, hq6⟩ : ∃ w6, w6 = (wr.drewN (1 + n5)).setCell ⟨wo.heap.size, j, none⟩ (.int .i64 0) := ⟨_, rfl⟩
                  rw [← hq6] at hz7 hb7 ⊢
                  replace hq6 := Lib.hid hq6
                  obtain ⟨⟨z0, z1, z2⟩, y0, y1, y2⟩ := hz7
                  go_wp2
                  refine bodyPost_ret (v := .tuple #[arrV false none 0 0 none 0 0, .iface 45 (.int .i64 e)]) (by simp [results, Try.results5, go_sem, cell?_set_same, z0, z1, z2]) rfl ?_
                  exact .error hr.out rfl (set3 hb7 (by omega) _ _ _)
                | ok v =>
                  rw [hv] at hlv
                  have hsn := seqE_next hsl.out hlv
                  clear hlv
                  replace hsn := Lib.hid hsn
                  replace hv := Lib.hid hv
                  go_upto_region 33 with fail
                  go_region_held3 (fun w' => w'.cell? ⟨w.heap.size, 2, none⟩ = some (.slice (some ⟨bd, od, none⟩) d.length z) ∧ w'.cell? ⟨w.heap.size + 1, 2, none⟩ = some (.slice (some ⟨be, oe, none⟩) d'.length z') ∧ w'.cell? ⟨bd, od + I, none⟩ = some (.int .i64 X) ∧ w'.cell? ⟨be, oe + K, none⟩ = some (.int .i64 Y) ∧ w'.cell? ⟨wc.heap.size + 1 + 1 + 1 + 1 + 1, 0, none⟩ = some (.int .i64 (if g = 9 then 1 else 0)))
                    (first | (exact ⟨cell_keep (by assumption) N0, cell_keep (by assumption) N1, cell_keep (by assumption) N2, cell_keep (by assumption) N3, cell_keep (by assumption) N4⟩) | go_keep | (refine ⟨?_, ?_, ?_, ?_, ?_⟩ <;> assumption))
                    (first
                      | (go_at_call 36; refine (betwT_tf g X Y _ _ (by assumption) xI xK).mono ?_; rintro e w5 ⟨he, n5, rfl⟩; rw [hv.out] at he; subst he; dsimp only [resI]))
                  have ho7 := ho6 (1 + n5) v
                  have hB7 := hB6 (1 + n5) (.int .i64 v)
                  clear hz6 hb6 ho6 hB6 F0 F1 F2 F3 F4 hfj hcj iR iI iQ iK iI1 iK1
                  obtain ⟨w6, hq6⟩ : ∃ w6, w6 = (wr.drewN (1 + n5)).setCell ⟨wo.heap.size, j, none⟩ (.int .i64 v) := ⟨_, rfl⟩
                  rw [← hq6] at ho7 hB7 ⊢
                  replace hq6 := Lib.hid hq6
                  replace ho7 := Lib.hid ho7
                  go_wp2
                  go_roundw
                  case rel => exact ⟨j + 1, l ++ [v], by omega, by go_num, hsn.out, ho7.out, hB7⟩
                  case measure => simp [intOf]; omega
              case neg =>
                obtain rfl : j = P := by omega
                have hbrw : BoxF wr (w.heap.size + 1 + 1) false none 0 0 none 0 0 := boxF_same hbr.out (hB.block _ (by omega))
                have hw6 : Below w.heap.size w wr := below_trans hI.out.2.2.2.2.2.1 ⟨hB.os, hB.tape, hB.output, hB.size, fun b hb => hB.block b (by omega)⟩
                rw [Nat.sub_self, List.replicate_zero, List.append_nil] at hol3
                have l64 : All64 l := seqE_all hsl fun i v hi h => by
                  unfold M.lineV at h
                  refine tw_i64 ?_ ?_ h
                  · exact all64_getD hd64 _
                  · exact all64_getD hd64' _
                have hrl := hol3.row
                have hfo := fun W (h : Row W _ l) => foldOf_any f (some ⟨wo.heap.size, 0, none⟩) l j j W h l64 (by unfold maxLen; omega) (by omega) hlc.symm
                have hfo1 := hfo _ hrl
                have hce : M.innerCell f g true false d d' j C k = M.foldL f l := by unfold M.innerCell; rw [hsl]
                clear hfo l64 hrl
                replace hfo1 := Lib.hid hfo1
                replace hsl := Lib.hid hsl
                replace hol3 := Lib.hid hol3
                replace hlc := Lib.hid hlc
                go_wp2_with fail
                refine hfo1.out.mono ?_
                rintro e w7 ⟨rfl, hb7⟩
                have hbs := hB.size
                have hb8 := hb7.size
                have hb67 : Below wo.heap.size wo w7 := below_trans hB ⟨hb7.os, hb7.tape, hb7.output, hb7.size, fun b hb => hb7.block b (by omega)⟩
                have hbw7 : Below w.heap.size w w7 := below_trans hI.out.2.2.2.2.2.1 ⟨hb67.os, hb67.tape, hb67.output, hb67.size, fun b hb => hb67.block b (by omega)⟩
                cases hv : M.foldL f l with
                | error e =>
                  have hr := Lib.hid (hinn.out.trans (innerOf_error hseq.out hlt (hce.trans hv)))
                  obtain ⟨⟨z0, z1, z2⟩, y0, y1, y2⟩ := boxF_same hbrw (hb7.block _ (by omega))
                  dsimp only [resI]
                  clear hce hb7 hB hw6 hb67
                  replace hv := Lib.hid hv
                  go_wp2
                  refine bodyPost_ret (v := .tuple #[arrV false none 0 0 none 0 0, .iface 45 (.int .i64 e)]) (by simp [results, Try.results5, go_sem, cell?_set_same, z0, z1, z2]) rfl ?_
                  exact .error hr.out rfl (set3 hbw7 (by omega) _ _ _)
                | ok v =>
                  have hsn := Lib.hid (seqE_next hseq.out (hce.trans hv))
                  dsimp only [resI]
                  have hI7 := hI.out
                  obtain ⟨gg, cap, rfl, hgne, hgor⟩ := hI7.2.2.1
                  have hlys := seqE_length hseq.out
                  have lo7 : wc.heap.size + 1 < wo.heap.size := by omega
                  have gglt := (own_at hI7.2.2.2.1).2
                  have hown7 := Lib.hid (own_same hI7.2.2.2.1 (hb67.block gg gglt))
                  have hstep := fun g' cap' w8 ho8 hg8 hot hbe hs8 => InnAt.step hI7 hb67 (v := v) (g' := g') (cap' := cap') (w8 := w8) ho8 hg8 hot hbe hs8 (by omega) (by omega) (by omega)
                  have hcb : w7.heap[wc.heap.size + 1]? = wo.heap[wc.heap.size + 1]? := hb67.block _ lo7
                  have c2 := (cell_of_eq hcb 2).trans hI7.1.2.2
                  have hlen : ys.length < 17592186044416 := by omega
                  have hB7 : wc.heap.size ≤ w7.heap.size := by omega
                  have hf2 := hI7.2.1
                  have hc2o := hI7.1.2.2
                  clear hce hb7 hB hw6 hI7
                  replace hstep := Lib.hid hstep
                  replace hcb := Lib.hid hcb
                  replace hv := Lib.hid hv
                  replace hlys := Lib.hid hlys
                  replace hf2 := Lib.hid hf2
                  replace hc2o := Lib.hid hc2o
                  go_wp2_with (at_builtin; refine app_at rfl (.tmp 165) (.tmp 167) rfl wc.heap.size gg ys.length cap ys v rfl hown7.out rfl hlen hB7 (ys.length + 1) rfl ?_; intro g' cap' w8 ho8 hg8 hot hb8 hs8; have e8 := (hot (wc.heap.size + 1) (by omega) (Ne.symm hgne)).trans hcb.out; have c8 := (cell_of_eq e8 2).trans hc2o.out; have f8 := (frozen_of_eq e8 2).trans hf2.out; have hin := hstep.out g' cap' w8 ho8 hg8 hot hb8 hs8; clear hot hb8 hg8 e8 hgor; replace ho8 := Lib.hid ho8; replace hin := Lib.hid hin)
                  go_roundw
                  case rel => exact ⟨k + 1, _, ys ++ [v], by omega, by go_num, hsn.out, hin.out⟩
                  case measure => simp [intOf]; omega


end Go.Proofs.Ytfnoalbnkbifmaa
