/- The document's axes are the program's, in plain Lean. No condition. -/
import Derived.Test.YtldhklbpmfckcaaDoorAxed
import Derived.Test.YtldhklbpmfckcaaDoorPlainPerm
namespace Go.Proofs.YtldhklbpmfckcaaDoor
open Go.RowKit
namespace M

theorem once_perm {p : List Int} (h : once p = true) : IsPerm p p.length := by
  have h := of_decide_eq_true h
  have hsub : ∀ y ∈ upTo p.length, y ∈ p := fun y hy => by
    obtain ⟨h0, h1⟩ := mem_upTo.1 hy
    have := h y.toNat (by omega)
    rw [Int.toNat_of_nonneg h0] at this
    exact List.count_pos_iff.1 (by omega)
  have hr : ∀ x ∈ p, 0 ≤ x ∧ x < (p.length : Int) := fun x hx => by
    refine Decidable.byContradiction fun hn => ?_
    have h1 : (x :: upTo p.length).Nodup := List.nodup_cons.2 ⟨fun hm => hn (mem_upTo.1 hm), nodup_upTo _⟩
    have h2 := h1.length_le_of_subset (l₂ := p) (fun y hy => by
      simp only [List.mem_cons] at hy
      rcases hy with rfl | hy
      · exact hx
      · exact hsub y hy)
    rw [List.length_cons, length_upTo] at h2
    omega
  refine ⟨rfl, hr, ?_⟩
  rw [List.nodup_iff_count]
  intro x
  by_cases hx : x ∈ p
  · obtain ⟨h0, h1⟩ := hr x hx
    have := h x.toNat (by omega)
    rw [Int.toNat_of_nonneg h0] at this
    omega
  · rw [List.count_eq_zero.2 hx]; omega

theorem perm_once {p : List Int} (h : IsPerm p p.length) : once p = true := by
  refine decide_eq_true fun want hw => ?_
  have hm : (want : Int) ∈ p := h.all ⟨by omega, by omega⟩
  rw [h.nodup.count, if_pos hm]

theorem axesFrom_err {s : List Int} : ∀ (rest out taken : List Int) (k : Nat) (e : Int), axesFrom s out k taken rest = .error e → e = 5 := by
  intro rest
  induction rest with
  | nil => intro out taken k e h; cases h
  | cons to p ih =>
    intro out taken k e h
    rw [axesFrom] at h
    split at h
    · exact (Except.error.inj h).symm
    · exact ih _ _ _ _ h

theorem pick_none {p s : List Int} {to : Int} (h : to ∉ p) : pick p s to = [] := by
  induction p generalizing s with
  | nil => rfl
  | cons x p ih =>
    cases s with
    | nil => rfl
    | cons y s =>
      simp only [List.mem_cons, not_or] at h
      rw [pick, if_neg (fun e => h.1 e.symm)]
      exact ih h.2

theorem pick_one {p s : List Int} {k : Nat} (hn : p.Nodup) (hk : k < p.length) (hs : k < s.length) : pick p s (p.getD k 0) = [s.getD k 0] := by
  induction p generalizing s k with
  | nil => simp at hk
  | cons x p ih =>
    cases s with
    | nil => simp at hs
    | cons y s =>
      obtain ⟨h1, h2⟩ := List.nodup_cons.1 hn
      cases k with
      | zero => simp only [List.getD_cons_zero]; rw [pick, if_pos rfl, pick_none h1]
      | succ k =>
        simp only [List.getD_cons_succ]
        have hk' : k < p.length := by simpa using hk
        have hm : p.getD k 0 ∈ p := by
          have : p.getD k 0 = p[k] := by simp [hk']
          rw [this]; exact List.getElem_mem _
        rw [pick, if_neg (fun e : x = p.getD k 0 => h1 (by rw [e]; exact hm))]
        exact ih h2 hk' (by simpa using hs)

theorem gather_axes {s p t : List Int} (h : axes s p = .ok t) : gather s p s.length = t := by
  obtain ⟨_, hp, hl, ht⟩ := axes_ok h
  have hone : ∀ i, i < s.length → pick p s (i : Int) = [t.getD i 0] := by
    intro i hi
    have hm : (i : Int) ∈ p := hp.all ⟨by omega, by omega⟩
    obtain ⟨k, hk, he⟩ := List.getElem_of_mem hm
    have hks : k < s.length := by have := hp.len; omega
    have hg : p.getD k 0 = (i : Int) := by simp [hk, he]
    have h1 := pick_one (s := s) hp.nodup hk hks
    rw [hg] at h1
    have h2 := ht k hks
    rw [hg] at h2
    rw [h1, ← h2]
    simp
  have hgen : ∀ n, n ≤ s.length → gather s p n = t.take n := by
    intro n
    induction n with
    | zero => intro _; simp [gather]
    | succ n ih =>
      intro hn
      rw [gather_succ, ih (by omega), hone n (by omega), List.take_succ_eq_append_getElem (by omega)]
      congr 2
      simp [show n < t.length by omega]
  rw [hgen s.length (Nat.le_refl _), List.take_of_length_le (by omega)]

theorem axed_axes (s p : List Int) : axed s p = axes s p := by
  cases hc : count s with
  | error e => rw [axed, axes, hc]
  | ok q =>
    by_cases hl : p.length = s.length
    · cases ho : once p with
      | true =>
        have hp := once_perm ho
        rw [hl] at hp
        obtain ⟨t, ht⟩ := axes_mk hc hp
        rw [ht, axed, hc]
        dsimp only
        rw [if_neg (fun h => h hl), ho, if_pos rfl, gather_axes ht]
      | false =>
        have h1 : axed s p = .error 5 := by rw [axed, hc]; dsimp only; rw [if_neg (fun h => h hl), ho]; rfl
        rw [h1]
        cases hx : axes s p with
        | ok t =>
          have hp := (axes_ok hx).2.1
          rw [← hl] at hp
          rw [perm_once hp] at ho
          cases ho
        | error e =>
          rw [axes, hc] at hx
          simp only at hx
          rw [if_neg (fun h => h hl)] at hx
          rw [axesFrom_err _ _ _ _ _ hx]
    · rw [axed, axes, hc]
      dsimp only
      rw [if_pos hl, if_pos hl]

end M
end Go.Proofs.YtldhklbpmfckcaaDoor
