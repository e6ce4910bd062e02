/- The document's Innered at any two arrays. Condition: rows that lie as lists of ints of 64 bits, within their capacities. -/
import Derived.Test.YtcenhemlgapkeaaDoorRefInnB
namespace Go.Proofs.YtcenhemlgapkeaaDoor
open Go.RowKit

set_option maxRecDepth 20000 in
set_option maxHeartbeats 16000000 in
theorem refInner_any (f g : Int) (ch ch' : Bool) (a b a' b' : Option Addr) (s d s' d' : List Int) (m c n z m' c' n' z' : Nat) (w : World) (hs : Row w a s) (hd : Row w b d) (ls : s.length ≤ maxLen) (ld : d.length ≤ maxLen) (hd64 : All64 d) (hcs : s.length ≤ c) (em : m = s.length) (en : n = d.length)
    (hs' : Row w a' s') (hd' : Row w b' d') (ls' : s'.length ≤ maxLen) (ld' : d'.length ≤ maxLen) (hd64' : All64 d') (hcs' : s'.length ≤ c') (em' : m' = s'.length) (en' : n' = d'.length) :
    Calls Tryd.prog 35 #[.int .i64 f, .int .i64 g, arrV ch a m c b n z, arrV ch' a' m' c' b' n' z'] w fun e w' => DocPost (M.inner f g ⟨ch, s, d⟩ ⟨ch', s', d'⟩) w e w' := by
  subst em
  subst en
  subst em'
  subst en'
  have E := ((((((Env.start w).addRow hd').addRow hs').addRow hd).addRow hs).box ch a s.length c b d.length z).box ch' a' s'.length c' b' d'.length z' |>.box false none 0 0 none 0 0
  simp only [World.size_alloc] at E
  have kf := fun w h1 h2 h3 h4 => refFlaws_any ch ch' a b a' b' s d s' d' _ c _ z _ c' _ z' w h1 h2 ls ld rfl rfl h3 h4 ls' ld' rfl rfl
  replace kf := Lib.hid kf
  by_cases hu : M.unk f g = 0
  case neg =>
    have hr := Lib.hid (show M.inner f g ⟨ch, s, d⟩ ⟨ch', s', d'⟩ = .error 1 from if_pos hu)
    have hn : ¬ ((1 ≤ f ∧ f ≤ 16) ∧ (1 ≤ g ∧ g ≤ 16)) := by
      intro h
      apply hu
      unfold M.unk M.fn2
      rw [decide_eq_true h.1, decide_eq_true h.2]; rfl
    have hbel := E.bel
    obtain ⟨⟨z0, z1, z2⟩, y0, y1, y2⟩ := E.getBox 0 rfl
    clear E hs hd hs' hd' kf
    replace hu := Lib.hid hu
    have t1 : ∃ x, decide (f < 1) = x := ⟨_, rfl⟩
    have t2 : ∃ x, decide (16 < f) = x := ⟨_, rfl⟩
    have t3 : ∃ x, decide (g < 1) = x := ⟨_, rfl⟩
    have t4 : ∃ x, decide (16 < g) = x := ⟨_, rfl⟩
    obtain ⟨x1, t1⟩ := t1
    obtain ⟨x2, t2⟩ := t2
    obtain ⟨x3, t3⟩ := t3
    obtain ⟨x4, t4⟩ := t4
    have hany : x1 = true ∨ (x1 = false ∧ x2 = true) ∨ (x1 = false ∧ x2 = false ∧ x3 = true) ∨ (x1 = false ∧ x2 = false ∧ x3 = false ∧ x4 = true) := by
      cases x1
      · cases x2
        · cases x3
          · cases x4
            · exfalso
              have q1 := of_decide_eq_false t1
              have q2 := of_decide_eq_false t2
              have q3 := of_decide_eq_false t3
              have q4 := of_decide_eq_false t4
              exact hn ⟨⟨by omega, by omega⟩, by omega, by omega⟩
            · exact .inr (.inr (.inr ⟨rfl, rfl, rfl, rfl⟩))
          · exact .inr (.inr (.inl ⟨rfl, rfl, rfl⟩))
        · exact .inr (.inl ⟨rfl, rfl⟩)
      · exact .inl rfl
    replace hn := Lib.hid hn
    rcases hany with rfl | ⟨rfl, rfl⟩ | ⟨rfl, rfl, rfl⟩ | ⟨rfl, rfl, rfl, rfl⟩
    all_goals
      go_enter Tryd.func35, Tryd.ntmps35
      go_wp2
      refine bodyPost_ret (v := .tuple #[arrV false none 0 0 none 0 0, .int .i64 1]) (by simp [results, Tryd.results35, go_sem, cell?_set_same, z0, z1, z2]) rfl ?_
      exact .error hr.out rfl hbel
  by_cases hfl : M.flaws ⟨ch, s, d⟩ ⟨ch', s', d'⟩ = 0
  case pos =>
    by_cases h1 : s ≠ [] ∧ s' ≠ []
    · obtain ⟨h1, h2⟩ := h1
      clear E kf
      obtain ⟨u, p, rfl⟩ : ∃ u p, s = u ++ [p] := ⟨s.dropLast, s.getLast h1, (List.dropLast_concat_getLast h1).symm⟩
      obtain ⟨q, v, rfl⟩ : ∃ q v, s' = q :: v := by
        match s', h2 with
        | q :: v, _ => exact ⟨q, v, rfl⟩
      have l1 : (u ++ [p]).length = u.length + 1 := by simp
      rw [l1] at hcs ⊢
      exact refInner_main f g hu ch ch' a b a' b' u v d d' p q c d.length z c' d'.length z' w hs hd ld hd64 hcs rfl hs' hd' ld' hd64' hcs' rfl hfl
    · have h0 : s = [] ∨ s' = [] := by
        by_cases e : s = []
        · exact .inl e
        · exact .inr (Decidable.of_not_not fun k => h1 ⟨e, k⟩)
      have hr : M.inner f g ⟨ch, s, d⟩ ⟨ch', s', d'⟩ = .error 3 := by
        unfold M.inner
        rw [if_neg (fun h => h hu), if_neg (fun h => h hfl)]
        unfold M.fits
        rw [if_pos h0]
      have hfg : (1 ≤ f ∧ f ≤ 16) ∧ (1 ≤ g ∧ g ≤ 16) := by
        unfold M.unk at hu
        split at hu
        · rename_i h
          rw [Bool.and_eq_true] at h
          unfold M.fn2 at h
          exact ⟨of_decide_eq_true h.1, of_decide_eq_true h.2⟩
        · cases hu
      obtain ⟨⟨f1, f2⟩, g1, g2⟩ := hfg
      have t1 : decide (f < 1) = false := decide_eq_false (by omega)
      have t2 : decide (16 < f) = false := decide_eq_false (by omega)
      have t3 : decide (g < 1) = false := decide_eq_false (by omega)
      have t4 : decide (16 < g) = false := decide_eq_false (by omega)
      have hflv := Lib.hid hfl
      replace hr := Lib.hid hr
      obtain ⟨⟨u0, u1, u2⟩, -, -, -⟩ := E.getBox 2 rfl
      obtain ⟨⟨v0, v1, v2⟩, -, -, -⟩ := E.getBox 1 rfl
      obtain ⟨x, y, tx, ty, hxy⟩ : ∃ x y, (((s.length : Nat) : Int) == 0) = x ∧ (((s'.length : Nat) : Int) == 0) = y ∧ (x = true ∨ (x = false ∧ y = true)) := by
        refine ⟨_, _, rfl, rfl, ?_⟩
        rcases h0 with h0 | h0
        · left; rw [h0]; rfl
        · by_cases e : s = []
          · left; rw [e]; rfl
          · right; exact ⟨by rw [beq_eq_false_iff_ne]; have := List.length_pos_iff.2 e; omega, by rw [h0]; rfl⟩
      clear h0 h1 hfl hs hd hs' hd' f1 f2 g1 g2 hu
      rcases hxy with rfl | ⟨rfl, rfl⟩
      all_goals
        go_enter Tryd.func35, Tryd.ntmps35
        go_wp2_with fail
        refine (kf.out _ (E.getRow 3 rfl) (E.getRow 4 rfl) (E.getRow 5 rfl) (E.getRow 6 rfl)).mono ?_
        rintro e w2 ⟨rfl, hb⟩
        rw [hflv.out]
        replace E := E.step hb
        clear u0 u1 u2 v0 v1 v2 hb
        obtain ⟨⟨u0, u1, u2⟩, -, -, -⟩ := E.getBox 2 rfl
        obtain ⟨⟨v0, v1, v2⟩, -, -, -⟩ := E.getBox 1 rfl
        obtain ⟨⟨z0, z1, z2⟩, y0, y1, y2⟩ := E.getBox 0 rfl
        have hbel := E.bel
        clear E
        go_wp2
        refine bodyPost_ret (v := .tuple #[arrV false none 0 0 none 0 0, .int .i64 3]) (by simp [results, Tryd.results35, go_sem, cell?_set_same, z0, z1, z2]) rfl ?_
        exact .error hr.out rfl (set3 hbel (by omega) _ _ _)
  case neg =>
    have hr : M.inner f g ⟨ch, s, d⟩ ⟨ch', s', d'⟩ = .error (M.flaws ⟨ch, s, d⟩ ⟨ch', s', d'⟩) := by
      unfold M.inner
      rw [if_neg (fun h => h hu), if_pos hfl]
    have hfg : (1 ≤ f ∧ f ≤ 16) ∧ (1 ≤ g ∧ g ≤ 16) := by
      unfold M.unk at hu
      split at hu
      · rename_i h
        rw [Bool.and_eq_true] at h
        unfold M.fn2 at h
        exact ⟨of_decide_eq_true h.1, of_decide_eq_true h.2⟩
      · cases hu
    obtain ⟨⟨f1, f2⟩, g1, g2⟩ := hfg
    have t1 : decide (f < 1) = false := decide_eq_false (by omega)
    have t2 : decide (16 < f) = false := decide_eq_false (by omega)
    have t3 : decide (g < 1) = false := decide_eq_false (by omega)
    have t4 : decide (16 < g) = false := decide_eq_false (by omega)
    have hxz : (M.flaws ⟨ch, s, d⟩ ⟨ch', s', d'⟩ != 0) = true := by rw [bne_iff_ne]; exact hfl
    generalize M.flaws ⟨ch, s, d⟩ ⟨ch', s', d'⟩ = nn at *
    replace hr := Lib.hid hr
    replace hfl := Lib.hid hfl
    obtain ⟨⟨u0, u1, u2⟩, -, -, -⟩ := E.getBox 2 rfl
    obtain ⟨⟨v0, v1, v2⟩, -, -, -⟩ := E.getBox 1 rfl
    clear hs hd hs' hd' f1 f2 g1 g2 hu
    go_enter Tryd.func35, Tryd.ntmps35
    go_wp2_with fail
    refine (kf.out _ (E.getRow 3 rfl) (E.getRow 4 rfl) (E.getRow 5 rfl) (E.getRow 6 rfl)).mono ?_
    rintro e w2 ⟨rfl, hb⟩
    replace E := E.step hb
    clear u0 u1 u2 v0 v1 v2 hb kf
    obtain ⟨⟨z0, z1, z2⟩, y0, y1, y2⟩ := E.getBox 0 rfl
    have hbel := E.bel
    clear E
    go_wp2
    refine bodyPost_ret (v := .tuple #[arrV false none 0 0 none 0 0, .int .i64 nn]) (by simp [results, Tryd.results35, go_sem, cell?_set_same, z0, z1, z2]) rfl ?_
    exact .error hr.out rfl (set3 hbel (by omega) _ _ _)
end Go.Proofs.YtcenhemlgapkeaaDoor
