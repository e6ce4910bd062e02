/- The call prod.Inner of characters, by a function that does not compare. Condition: rows that lie as lists of ints of 64 bits, within their capacities. -/
import Derived.Test.YtfnoalbnkbifmaaInnBtw
namespace Go.Proofs.Ytfnoalbnkbifmaa
open Go.RowKit

set_option maxRecDepth 20000 in
set_option maxHeartbeats 16000000 in
theorem inner_dtt (f g : Int) (hcm : M.cmp g = false) (ch ch' : Bool) (hch : ch = true) (hch' : ch' = true) (a b a' b' : Option Addr) (s d s' d' : List Int) (m c n z m' c' n' z' : Nat) (w : World) (hs : Row w a s) (hd : Row w b d) (ls : s.length ≤ maxLen) (ld : d.length ≤ maxLen) (hd64 : All64 d) (hcs : s.length ≤ c) (em : m = s.length) (en : n = d.length)
    (hs' : Row w a' s') (hd' : Row w b' d') (ls' : s'.length ≤ maxLen) (ld' : d'.length ≤ maxLen) (hd64' : All64 d') (hcs' : s'.length ≤ c') (em' : m' = s'.length) (en' : n' = d'.length) :
    Calls Try.prog 5 #[.int .i64 f, .int .i64 g, arrV ch a m c b n z, arrV ch' a' m' c' b' n' z'] w fun e w' => ArrPostF (M.inner f g ⟨ch, s, d⟩ ⟨ch', s', d'⟩) w e w' := by
  replace hcm := Lib.hid hcm
  replace hch := Lib.hid hch
  replace hch' := Lib.hid hch'
  subst em
  subst en
  subst em'
  subst en'
  have E := (((((((Env.start w).addRow hd').addRow hs').addRow hd).addRow hs).box ch a s.length c b d.length z).box ch' a' s'.length c' b' d'.length z').box false none 0 0 none 0 0
  simp only [World.size_alloc] at E
  have E0 := E.alloc (.cells #[.int .i64 f, .int .i64 g] 22)
  have k1 := fun w c0 c1 => known2_any f g (w.heap.size + 1 + 1 + 1) w c0 c1
  have hkn := known2_any f g (w.heap.size + 1 + 1 + 1) ((((w.alloc (.cells #[.bool ch, .slice a s.length c, .slice b d.length z] 25)).alloc (.cells #[.bool ch', .slice a' s'.length c', .slice b' d'.length z'] 25)).alloc (.cells #[.bool false, .slice none 0 0, .slice none 0 0] 25)).alloc (.cells #[.int .i64 f, .int .i64 g] 22)) (by simp [go_sem]) (by simp [go_sem])
  have hck := fun w h1 h2 h3 h4 => pcheck_any ch ch' a b a' b' s d s' d' _ c _ z _ c' _ z' w h1 h2 ls ld rfl rfl h3 h4 ls' ld' rfl rfl
  clear k1
  replace hkn := Lib.hid hkn
  replace hck := Lib.hid hck
  go_enter Try.func5, Try.ntmps5
  go_wp2_with fail
  refine hkn.out.mono ?_
  rintro e w1 ⟨rfl, n1, rfl⟩
  replace E := E0.drew n1
  clear hkn E0 hs hd hs' hd'
  obtain ⟨w1, hw1⟩ : ∃ w1 : World, w1 = ((((w.alloc (.cells #[.bool ch, .slice a s.length c, .slice b d.length z] 25)).alloc (.cells #[.bool ch', .slice a' s'.length c', .slice b' d'.length z'] 25)).alloc (.cells #[.bool false, .slice none 0 0, .slice none 0 0] 25)).alloc (.cells #[.int .i64 f, .int .i64 g] 22)).drewN n1 := ⟨_, rfl⟩
  rw [← hw1] at E ⊢
  replace hw1 := Lib.hid hw1
  by_cases hk : M.unk f g = 0
  case neg =>
    have hr := Lib.hid (show M.inner f g ⟨ch, s, d⟩ ⟨ch', s', d'⟩ = .error 1 from if_pos hk)
    have h1 : M.unk f g = 1 := by unfold M.unk at hk ⊢; split <;> simp_all
    replace hk := Lib.hid hk
    rw [show errV (M.unk f g) = .iface 45 (.int .i64 1) by rw [h1]; rfl]
    replace h1 := Lib.hid h1
    obtain ⟨⟨u0, u1, u2⟩, g0, g1, g2⟩ := E.getBox 0 rfl
    go_wp2
    refine bodyPost_ret (v := .tuple #[arrV false none 0 0 none 0 0, .iface 45 (.int .i64 1)]) (by simp [results, Try.results5, go_sem, cell?_set_same, u0, u1, u2]) rfl ?_
    exact .error hr.out rfl (set3 E.bel (by omega) _ _ _)
  have hr0 : M.inner f g ⟨ch, s, d⟩ ⟨ch', s', d'⟩ = if M.flaws ⟨ch, s, d⟩ ⟨ch', s', d'⟩ ≠ 0 then .error (M.flaws ⟨ch, s, d⟩ ⟨ch', s', d'⟩) else match M.fits ⟨ch, s, d⟩ ⟨ch', s', d'⟩ with
      | .error e => .error e
      | .ok p => if ((ch || ch') && !M.cmp g) = true then .error 6 else match M.lone f p.2 with
        | .error e => .error e
        | .ok _ => M.innerOf f g ⟨ch, s, d⟩ ⟨ch', s', d'⟩ p.1 p.2.toNat (M.prod s'.tail).toNat (M.prod p.1).toNat := if_neg (fun h => h hk)
  rw [hk, errV_zero]
  clear hk
  obtain ⟨⟨u0, u1, u2⟩, -, -, -⟩ := E.getBox 1 rfl
  obtain ⟨⟨t0, t1, t2⟩, -, -, -⟩ := E.getBox 2 rfl
  replace hr0 := Lib.hid hr0
  go_wp2_with fail
  refine (hck.out _ (E.getRow 3 rfl) (E.getRow 4 rfl) (E.getRow 5 rfl) (E.getRow 6 rfl)).mono ?_
  rintro e w2 ⟨rfl, hb⟩
  replace E := E.step hb
  clear hb u0 u1 u2 t0 t1 t2 hck
  by_cases hf : M.flaws ⟨ch, s, d⟩ ⟨ch', s', d'⟩ = 0
  case neg =>
    have hr := Lib.hid (hr0.out.trans (if_pos hf))
    rw [errV_ne hf]
    generalize M.flaws ⟨ch, s, d⟩ ⟨ch', s', d'⟩ = nn at *
    replace hf := Lib.hid hf
    obtain ⟨⟨u0, u1, u2⟩, g0, g1, g2⟩ := E.getBox 0 rfl
    go_wp2
    refine bodyPost_ret (v := .tuple #[arrV false none 0 0 none 0 0, .iface 45 (.int .i64 nn)]) (by simp [results, Try.results5, go_sem, cell?_set_same, u0, u1, u2]) rfl ?_
    exact .error hr.out rfl (set3 E.bel (by omega) _ _ _)
  replace hr0 := hr0.out.trans (if_neg (fun h => h hf))
  rw [hf, errV_zero]
  have hfa : M.flaw ch s d = 0 := by unfold M.flaws at hf; split at hf <;> first | assumption | (rename_i h; exact absurd hf h)
  have hfb : M.flaw ch' s' d' = 0 := by unfold M.flaws at hf; rw [if_pos hfa] at hf; exact hf
  clear hf
  have l6 := (flaw_len hfa).2
  have l6' := (flaw_len hfb).2
  obtain ⟨⟨u0, u1, u2⟩, -, -, -⟩ := E.getBox 1 rfl
  obtain ⟨⟨t0, t1, t2⟩, -, -, -⟩ := E.getBox 2 rfl
  have hfit := fun w h1 h2 => fits_any ch ch' a b a' b' s d s' d' _ c d.length z _ c' d'.length z' w h1 h2 l6 l6' hcs hcs' rfl rfl
  replace hfit := Lib.hid hfit
  replace hfa := Lib.hid hfa
  replace hfb := Lib.hid hfb
  replace hr0 := Lib.hid hr0
  have sz2 := E.bel.size
  go_wp2_with fail
  refine (hfit.out _ (E.getRow 3 rfl) (E.getRow 5 rfl)).mono ?_
  intro e w3 hp
  have hb := hp.2.2
  replace E := E.step hb
  clear hb u0 u1 u2 t0 t1 t2 hfit
  cases hq : M.fits ⟨ch, s, d⟩ ⟨ch', s', d'⟩ with
  | error nn =>
    have hr := hr0.out
    rw [hq] at hr
    obtain ⟨v1, v2, rfl⟩ := hp.1 _ hq
    clear hp
    replace hr := Lib.hid hr
    replace hq := Lib.hid hq
    obtain ⟨⟨u0, u1, u2⟩, g0, g1, g2⟩ := E.getBox 0 rfl
    go_wp2
    refine bodyPost_ret (v := .tuple #[arrV false none 0 0 none 0 0, .iface 45 (.int .i64 nn)]) (by simp [results, Try.results5, go_sem, cell?_set_same, u0, u1, u2]) rfl ?_
    exact .error hr.out rfl (set3 E.bel (by omega) _ _ _)
  | ok pr =>
    obtain ⟨sv, long⟩ := pr
    have hr1 := hr0.out
    rw [hq] at hr1
    dsimp only at hr1
    obtain ⟨v3, rfl, ho3⟩ := hp.2.1 _ hq
    dsimp only at ho3 ⊢
    clear hp hr0
    replace hch := hch.out
    replace hch' := hch'.out
    subst hch
    subst hch'
    rw [if_pos (by rw [hcm.out]; rfl)] at hr1
    obtain ⟨av, kv, ev, hkv, hkm, rv⟩ := ho3.view
    subst ev
    obtain ⟨⟨u0, u1, u2⟩, -, -, -⟩ := E.getBox 1 rfl
    obtain ⟨⟨t0, t1, t2⟩, -, -, -⟩ := E.getBox 2 rfl
    obtain ⟨⟨y0, y1, y2⟩, y3, y4, y5⟩ := E.getBox 0 rfl
    have hbel := E.bel
    replace hr1 := Lib.hid hr1
    clear hq hfa hfb E ho3 rv
    go_wp2_with fail
    refine (compares_any g _).mono ?_
    rintro e w4 ⟨rfl, rfl⟩
    rw [hcm.out]
    go_wp2
    refine bodyPost_ret (v := .tuple #[arrV false none 0 0 none 0 0, .iface 45 (.int .i64 6)]) (by simp [results, Try.results5, go_sem, cell?_set_same, y0, y1, y2]) rfl ?_
    exact .error hr1.out rfl (set3 hbel (by omega) _ _ _)


set_option maxRecDepth 20000 in
set_option maxHeartbeats 16000000 in
theorem inner_dft (f g : Int) (hcm : M.cmp g = false) (ch ch' : Bool) (hch : ch = false) (hch' : ch' = true) (a b a' b' : Option Addr) (s d s' d' : List Int) (m c n z m' c' n' z' : Nat) (w : World) (hs : Row w a s) (hd : Row w b d) (ls : s.length ≤ maxLen) (ld : d.length ≤ maxLen) (hd64 : All64 d) (hcs : s.length ≤ c) (em : m = s.length) (en : n = d.length)
    (hs' : Row w a' s') (hd' : Row w b' d') (ls' : s'.length ≤ maxLen) (ld' : d'.length ≤ maxLen) (hd64' : All64 d') (hcs' : s'.length ≤ c') (em' : m' = s'.length) (en' : n' = d'.length) :
    Calls Try.prog 5 #[.int .i64 f, .int .i64 g, arrV ch a m c b n z, arrV ch' a' m' c' b' n' z'] w fun e w' => ArrPostF (M.inner f g ⟨ch, s, d⟩ ⟨ch', s', d'⟩) w e w' := by
  replace hcm := Lib.hid hcm
  replace hch := Lib.hid hch
  replace hch' := Lib.hid hch'
  subst em
  subst en
  subst em'
  subst en'
  have E := (((((((Env.start w).addRow hd').addRow hs').addRow hd).addRow hs).box ch a s.length c b d.length z).box ch' a' s'.length c' b' d'.length z').box false none 0 0 none 0 0
  simp only [World.size_alloc] at E
  have E0 := E.alloc (.cells #[.int .i64 f, .int .i64 g] 22)
  have k1 := fun w c0 c1 => known2_any f g (w.heap.size + 1 + 1 + 1) w c0 c1
  have hkn := known2_any f g (w.heap.size + 1 + 1 + 1) ((((w.alloc (.cells #[.bool ch, .slice a s.length c, .slice b d.length z] 25)).alloc (.cells #[.bool ch', .slice a' s'.length c', .slice b' d'.length z'] 25)).alloc (.cells #[.bool false, .slice none 0 0, .slice none 0 0] 25)).alloc (.cells #[.int .i64 f, .int .i64 g] 22)) (by simp [go_sem]) (by simp [go_sem])
  have hck := fun w h1 h2 h3 h4 => pcheck_any ch ch' a b a' b' s d s' d' _ c _ z _ c' _ z' w h1 h2 ls ld rfl rfl h3 h4 ls' ld' rfl rfl
  clear k1
  replace hkn := Lib.hid hkn
  replace hck := Lib.hid hck
  go_enter Try.func5, Try.ntmps5
  go_wp2_with fail
  refine hkn.out.mono ?_
  rintro e w1 ⟨rfl, n1, rfl⟩
  replace E := E0.drew n1
  clear hkn E0 hs hd hs' hd'
  obtain ⟨w1, hw1⟩ : ∃ w1 : World, w1 = ((((w.alloc (.cells #[.bool ch, .slice a s.length c, .slice b d.length z] 25)).alloc (.cells #[.bool ch', .slice a' s'.length c', .slice b' d'.length z'] 25)).alloc (.cells #[.bool false, .slice none 0 0, .slice none 0 0] 25)).alloc (.cells #[.int .i64 f, .int .i64 g] 22)).drewN n1 := ⟨_, rfl⟩
  rw [← hw1] at E ⊢
  replace hw1 := Lib.hid hw1
  by_cases hk : M.unk f g = 0
  case neg =>
    have hr := Lib.hid (show M.inner f g ⟨ch, s, d⟩ ⟨ch', s', d'⟩ = .error 1 from if_pos hk)
    have h1 : M.unk f g = 1 := by unfold M.unk at hk ⊢; split <;> simp_all
    replace hk := Lib.hid hk
    rw [show errV (M.unk f g) = .iface 45 (.int .i64 1) by rw [h1]; rfl]
    replace h1 := Lib.hid h1
    obtain ⟨⟨u0, u1, u2⟩, g0, g1, g2⟩ := E.getBox 0 rfl
    go_wp2
    refine bodyPost_ret (v := .tuple #[arrV false none 0 0 none 0 0, .iface 45 (.int .i64 1)]) (by simp [results, Try.results5, go_sem, cell?_set_same, u0, u1, u2]) rfl ?_
    exact .error hr.out rfl (set3 E.bel (by omega) _ _ _)
  have hr0 : M.inner f g ⟨ch, s, d⟩ ⟨ch', s', d'⟩ = if M.flaws ⟨ch, s, d⟩ ⟨ch', s', d'⟩ ≠ 0 then .error (M.flaws ⟨ch, s, d⟩ ⟨ch', s', d'⟩) else match M.fits ⟨ch, s, d⟩ ⟨ch', s', d'⟩ with
      | .error e => .error e
      | .ok p => if ((ch || ch') && !M.cmp g) = true then .error 6 else match M.lone f p.2 with
        | .error e => .error e
        | .ok _ => M.innerOf f g ⟨ch, s, d⟩ ⟨ch', s', d'⟩ p.1 p.2.toNat (M.prod s'.tail).toNat (M.prod p.1).toNat := if_neg (fun h => h hk)
  rw [hk, errV_zero]
  clear hk
  obtain ⟨⟨u0, u1, u2⟩, -, -, -⟩ := E.getBox 1 rfl
  obtain ⟨⟨t0, t1, t2⟩, -, -, -⟩ := E.getBox 2 rfl
  replace hr0 := Lib.hid hr0
  go_wp2_with fail
  refine (hck.out _ (E.getRow 3 rfl) (E.getRow 4 rfl) (E.getRow 5 rfl) (E.getRow 6 rfl)).mono ?_
  rintro e w2 ⟨rfl, hb⟩
  replace E := E.step hb
  clear hb u0 u1 u2 t0 t1 t2 hck
  by_cases hf : M.flaws ⟨ch, s, d⟩ ⟨ch', s', d'⟩ = 0
  case neg =>
    have hr := Lib.hid (hr0.out.trans (if_pos hf))
    rw [errV_ne hf]
    generalize M.flaws ⟨ch, s, d⟩ ⟨ch', s', d'⟩ = nn at *
    replace hf := Lib.hid hf
    obtain ⟨⟨u0, u1, u2⟩, g0, g1, g2⟩ := E.getBox 0 rfl
    go_wp2
    refine bodyPost_ret (v := .tuple #[arrV false none 0 0 none 0 0, .iface 45 (.int .i64 nn)]) (by simp [results, Try.results5, go_sem, cell?_set_same, u0, u1, u2]) rfl ?_
    exact .error hr.out rfl (set3 E.bel (by omega) _ _ _)
  replace hr0 := hr0.out.trans (if_neg (fun h => h hf))
  rw [hf, errV_zero]
  have hfa : M.flaw ch s d = 0 := by unfold M.flaws at hf; split at hf <;> first | assumption | (rename_i h; exact absurd hf h)
  have hfb : M.flaw ch' s' d' = 0 := by unfold M.flaws at hf; rw [if_pos hfa] at hf; exact hf
  clear hf
  have l6 := (flaw_len hfa).2
  have l6' := (flaw_len hfb).2
  obtain ⟨⟨u0, u1, u2⟩, -, -, -⟩ := E.getBox 1 rfl
  obtain ⟨⟨t0, t1, t2⟩, -, -, -⟩ := E.getBox 2 rfl
  have hfit := fun w h1 h2 => fits_any ch ch' a b a' b' s d s' d' _ c d.length z _ c' d'.length z' w h1 h2 l6 l6' hcs hcs' rfl rfl
  replace hfit := Lib.hid hfit
  replace hfa := Lib.hid hfa
  replace hfb := Lib.hid hfb
  replace hr0 := Lib.hid hr0
  have sz2 := E.bel.size
  go_wp2_with fail
  refine (hfit.out _ (E.getRow 3 rfl) (E.getRow 5 rfl)).mono ?_
  intro e w3 hp
  have hb := hp.2.2
  replace E := E.step hb
  clear hb u0 u1 u2 t0 t1 t2 hfit
  cases hq : M.fits ⟨ch, s, d⟩ ⟨ch', s', d'⟩ with
  | error nn =>
    have hr := hr0.out
    rw [hq] at hr
    obtain ⟨v1, v2, rfl⟩ := hp.1 _ hq
    clear hp
    replace hr := Lib.hid hr
    replace hq := Lib.hid hq
    obtain ⟨⟨u0, u1, u2⟩, g0, g1, g2⟩ := E.getBox 0 rfl
    go_wp2
    refine bodyPost_ret (v := .tuple #[arrV false none 0 0 none 0 0, .iface 45 (.int .i64 nn)]) (by simp [results, Try.results5, go_sem, cell?_set_same, u0, u1, u2]) rfl ?_
    exact .error hr.out rfl (set3 E.bel (by omega) _ _ _)
  | ok pr =>
    obtain ⟨sv, long⟩ := pr
    have hr1 := hr0.out
    rw [hq] at hr1
    dsimp only at hr1
    obtain ⟨v3, rfl, ho3⟩ := hp.2.1 _ hq
    dsimp only at ho3 ⊢
    clear hp hr0
    replace hch := hch.out
    replace hch' := hch'.out
    subst hch
    subst hch'
    rw [if_pos (by rw [hcm.out]; rfl)] at hr1
    obtain ⟨av, kv, ev, hkv, hkm, rv⟩ := ho3.view
    subst ev
    obtain ⟨⟨u0, u1, u2⟩, -, -, -⟩ := E.getBox 1 rfl
    obtain ⟨⟨t0, t1, t2⟩, -, -, -⟩ := E.getBox 2 rfl
    obtain ⟨⟨y0, y1, y2⟩, y3, y4, y5⟩ := E.getBox 0 rfl
    have hbel := E.bel
    replace hr1 := Lib.hid hr1
    clear hq hfa hfb E ho3 rv
    go_wp2_with fail
    refine (compares_any g _).mono ?_
    rintro e w4 ⟨rfl, rfl⟩
    rw [hcm.out]
    go_wp2
    refine bodyPost_ret (v := .tuple #[arrV false none 0 0 none 0 0, .iface 45 (.int .i64 6)]) (by simp [results, Try.results5, go_sem, cell?_set_same, y0, y1, y2]) rfl ?_
    exact .error hr1.out rfl (set3 hbel (by omega) _ _ _)


set_option maxRecDepth 20000 in
set_option maxHeartbeats 16000000 in
theorem inner_dtf (f g : Int) (hcm : M.cmp g = false) (ch ch' : Bool) (hch : ch = true) (hch' : ch' = false) (a b a' b' : Option Addr) (s d s' d' : List Int) (m c n z m' c' n' z' : Nat) (w : World) (hs : Row w a s) (hd : Row w b d) (ls : s.length ≤ maxLen) (ld : d.length ≤ maxLen) (hd64 : All64 d) (hcs : s.length ≤ c) (em : m = s.length) (en : n = d.length)
    (hs' : Row w a' s') (hd' : Row w b' d') (ls' : s'.length ≤ maxLen) (ld' : d'.length ≤ maxLen) (hd64' : All64 d') (hcs' : s'.length ≤ c') (em' : m' = s'.length) (en' : n' = d'.length) :
    Calls Try.prog 5 #[.int .i64 f, .int .i64 g, arrV ch a m c b n z, arrV ch' a' m' c' b' n' z'] w fun e w' => ArrPostF (M.inner f g ⟨ch, s, d⟩ ⟨ch', s', d'⟩) w e w' := by
  replace hcm := Lib.hid hcm
  replace hch := Lib.hid hch
  replace hch' := Lib.hid hch'
  subst em
  subst en
  subst em'
  subst en'
  have E := (((((((Env.start w).addRow hd').addRow hs').addRow hd).addRow hs).box ch a s.length c b d.length z).box ch' a' s'.length c' b' d'.length z').box false none 0 0 none 0 0
  simp only [World.size_alloc] at E
  have E0 := E.alloc (.cells #[.int .i64 f, .int .i64 g] 22)
  have k1 := fun w c0 c1 => known2_any f g (w.heap.size + 1 + 1 + 1) w c0 c1
  have hkn := known2_any f g (w.heap.size + 1 + 1 + 1) ((((w.alloc (.cells #[.bool ch, .slice a s.length c, .slice b d.length z] 25)).alloc (.cells #[.bool ch', .slice a' s'.length c', .slice b' d'.length z'] 25)).alloc (.cells #[.bool false, .slice none 0 0, .slice none 0 0] 25)).alloc (.cells #[.int .i64 f, .int .i64 g] 22)) (by simp [go_sem]) (by simp [go_sem])
  have hck := fun w h1 h2 h3 h4 => pcheck_any ch ch' a b a' b' s d s' d' _ c _ z _ c' _ z' w h1 h2 ls ld rfl rfl h3 h4 ls' ld' rfl rfl
  clear k1
  replace hkn := Lib.hid hkn
  replace hck := Lib.hid hck
  go_enter Try.func5, Try.ntmps5
  go_wp2_with fail
  refine hkn.out.mono ?_
  rintro e w1 ⟨rfl, n1, rfl⟩
  replace E := E0.drew n1
  clear hkn E0 hs hd hs' hd'
  obtain ⟨w1, hw1⟩ : ∃ w1 : World, w1 = ((((w.alloc (.cells #[.bool ch, .slice a s.length c, .slice b d.length z] 25)).alloc (.cells #[.bool ch', .slice a' s'.length c', .slice b' d'.length z'] 25)).alloc (.cells #[.bool false, .slice none 0 0, .slice none 0 0] 25)).alloc (.cells #[.int .i64 f, .int .i64 g] 22)).drewN n1 := ⟨_, rfl⟩
  rw [← hw1] at E ⊢
  replace hw1 := Lib.hid hw1
  by_cases hk : M.unk f g = 0
  case neg =>
    have hr := Lib.hid (show M.inner f g ⟨ch, s, d⟩ ⟨ch', s', d'⟩ = .error 1 from if_pos hk)
    have h1 : M.unk f g = 1 := by unfold M.unk at hk ⊢; split <;> simp_all
    replace hk := Lib.hid hk
    rw [show errV (M.unk f g) = .iface 45 (.int .i64 1) by rw [h1]; rfl]
    replace h1 := Lib.hid h1
    obtain ⟨⟨u0, u1, u2⟩, g0, g1, g2⟩ := E.getBox 0 rfl
    go_wp2
    refine bodyPost_ret (v := .tuple #[arrV false none 0 0 none 0 0, .iface 45 (.int .i64 1)]) (by simp [results, Try.results5, go_sem, cell?_set_same, u0, u1, u2]) rfl ?_
    exact .error hr.out rfl (set3 E.bel (by omega) _ _ _)
  have hr0 : M.inner f g ⟨ch, s, d⟩ ⟨ch', s', d'⟩ = if M.flaws ⟨ch, s, d⟩ ⟨ch', s', d'⟩ ≠ 0 then .error (M.flaws ⟨ch, s, d⟩ ⟨ch', s', d'⟩) else match M.fits ⟨ch, s, d⟩ ⟨ch', s', d'⟩ with
      | .error e => .error e
      | .ok p => if ((ch || ch') && !M.cmp g) = true then .error 6 else match M.lone f p.2 with
        | .error e => .error e
        | .ok _ => M.innerOf f g ⟨ch, s, d⟩ ⟨ch', s', d'⟩ p.1 p.2.toNat (M.prod s'.tail).toNat (M.prod p.1).toNat := if_neg (fun h => h hk)
  rw [hk, errV_zero]
  clear hk
  obtain ⟨⟨u0, u1, u2⟩, -, -, -⟩ := E.getBox 1 rfl
  obtain ⟨⟨t0, t1, t2⟩, -, -, -⟩ := E.getBox 2 rfl
  replace hr0 := Lib.hid hr0
  go_wp2_with fail
  refine (hck.out _ (E.getRow 3 rfl) (E.getRow 4 rfl) (E.getRow 5 rfl) (E.getRow 6 rfl)).mono ?_
  rintro e w2 ⟨rfl, hb⟩
  replace E := E.step hb
  clear hb u0 u1 u2 t0 t1 t2 hck
  by_cases hf : M.flaws ⟨ch, s, d⟩ ⟨ch', s', d'⟩ = 0
  case neg =>
    have hr := Lib.hid (hr0.out.trans (if_pos hf))
    rw [errV_ne hf]
    generalize M.flaws ⟨ch, s, d⟩ ⟨ch', s', d'⟩ = nn at *
    replace hf := Lib.hid hf
    obtain ⟨⟨u0, u1, u2⟩, g0, g1, g2⟩ := E.getBox 0 rfl
    go_wp2
    refine bodyPost_ret (v := .tuple #[arrV false none 0 0 none 0 0, .iface 45 (.int .i64 nn)]) (by simp [results, Try.results5, go_sem, cell?_set_same, u0, u1, u2]) rfl ?_
    exact .error hr.out rfl (set3 E.bel (by omega) _ _ _)
  replace hr0 := hr0.out.trans (if_neg (fun h => h hf))
  rw [hf, errV_zero]
  have hfa : M.flaw ch s d = 0 := by unfold M.flaws at hf; split at hf <;> first | assumption | (rename_i h; exact absurd hf h)
  have hfb : M.flaw ch' s' d' = 0 := by unfold M.flaws at hf; rw [if_pos hfa] at hf; exact hf
  clear hf
  have l6 := (flaw_len hfa).2
  have l6' := (flaw_len hfb).2
  obtain ⟨⟨u0, u1, u2⟩, -, -, -⟩ := E.getBox 1 rfl
  obtain ⟨⟨t0, t1, t2⟩, -, -, -⟩ := E.getBox 2 rfl
  have hfit := fun w h1 h2 => fits_any ch ch' a b a' b' s d s' d' _ c d.length z _ c' d'.length z' w h1 h2 l6 l6' hcs hcs' rfl rfl
  replace hfit := Lib.hid hfit
  replace hfa := Lib.hid hfa
  replace hfb := Lib.hid hfb
  replace hr0 := Lib.hid hr0
  have sz2 := E.bel.size
  go_wp2_with fail
  refine (hfit.out _ (E.getRow 3 rfl) (E.getRow 5 rfl)).mono ?_
  intro e w3 hp
  have hb := hp.2.2
  replace E := E.step hb
  clear hb u0 u1 u2 t0 t1 t2 hfit
  cases hq : M.fits ⟨ch, s, d⟩ ⟨ch', s', d'⟩ with
  | error nn =>
    have hr := hr0.out
    rw [hq] at hr
    obtain ⟨v1, v2, rfl⟩ := hp.1 _ hq
    clear hp
    replace hr := Lib.hid hr
    replace hq := Lib.hid hq
    obtain ⟨⟨u0, u1, u2⟩, g0, g1, g2⟩ := E.getBox 0 rfl
    go_wp2
    refine bodyPost_ret (v := .tuple #[arrV false none 0 0 none 0 0, .iface 45 (.int .i64 nn)]) (by simp [results, Try.results5, go_sem, cell?_set_same, u0, u1, u2]) rfl ?_
    exact .error hr.out rfl (set3 E.bel (by omega) _ _ _)
  | ok pr =>
    obtain ⟨sv, long⟩ := pr
    have hr1 := hr0.out
    rw [hq] at hr1
    dsimp only at hr1
    obtain ⟨v3, rfl, ho3⟩ := hp.2.1 _ hq
    dsimp only at ho3 ⊢
    clear hp hr0
    replace hch := hch.out
    replace hch' := hch'.out
    subst hch
    subst hch'
    rw [if_pos (by rw [hcm.out]; rfl)] at hr1
    obtain ⟨av, kv, ev, hkv, hkm, rv⟩ := ho3.view
    subst ev
    obtain ⟨⟨u0, u1, u2⟩, -, -, -⟩ := E.getBox 1 rfl
    obtain ⟨⟨t0, t1, t2⟩, -, -, -⟩ := E.getBox 2 rfl
    obtain ⟨⟨y0, y1, y2⟩, y3, y4, y5⟩ := E.getBox 0 rfl
    have hbel := E.bel
    replace hr1 := Lib.hid hr1
    clear hq hfa hfb E ho3 rv
    go_wp2_with fail
    refine (compares_any g _).mono ?_
    rintro e w4 ⟨rfl, rfl⟩
    rw [hcm.out]
    go_wp2
    refine bodyPost_ret (v := .tuple #[arrV false none 0 0 none 0 0, .iface 45 (.int .i64 6)]) (by simp [results, Try.results5, go_sem, cell?_set_same, y0, y1, y2]) rfl ?_
    exact .error hr1.out rfl (set3 hbel (by omega) _ _ _)


end Go.Proofs.Ytfnoalbnkbifmaa
