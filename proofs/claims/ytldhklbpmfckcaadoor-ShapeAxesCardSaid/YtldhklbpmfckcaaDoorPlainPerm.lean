/- Plain facts: axes go and come back. No program in sight. -/
import Derived.Test.YtldhklbpmfckcaaDoorPlainShape
import Derived.Test.YtldhklbpmfckcaaDoorAxes
import Derived.Test.YtldhklbpmfckcaaDoorBack
namespace Go.Proofs.YtldhklbpmfckcaaDoor
open Go.RowKit
namespace M

/-- The numbers from 0 on. -/
def upTo (n : Nat) : List Int := (List.range n).map fun i : Nat => (i : Int)

theorem mem_upTo {n : Nat} {x : Int} : x ∈ upTo n ↔ 0 ≤ x ∧ x < (n : Int) := by
  simp only [upTo, List.mem_map, List.mem_range]
  constructor
  · rintro ⟨i, hi, rfl⟩; omega
  · rintro ⟨h0, h1⟩; exact ⟨x.toNat, by omega, by omega⟩

theorem nodup_upTo (n : Nat) : (upTo n).Nodup := by
  unfold upTo
  rw [List.nodup_iff_pairwise_ne, List.pairwise_map]
  exact (List.nodup_iff_pairwise_ne.1 List.nodup_range).imp fun h e => h (by omega)

theorem length_upTo (n : Nat) : (upTo n).length = n := by simp [upTo]

/-- A list of the numbers from 0 on, each once. -/
structure IsPerm (p : List Int) (n : Nat) : Prop where
  len : p.length = n
  range : ∀ x ∈ p, 0 ≤ x ∧ x < (n : Int)
  nodup : p.Nodup

theorem IsPerm.all {p : List Int} {n : Nat} (h : IsPerm p n) {x : Int} (hx : 0 ≤ x ∧ x < (n : Int)) : x ∈ p := by
  refine Decidable.byContradiction fun hn => ?_
  have h1 : (x :: p).Nodup := List.nodup_cons.2 ⟨hn, h.nodup⟩
  have h2 := h1.length_le_of_subset (l₂ := upTo n) (fun y hy => by
    simp only [List.mem_cons] at hy
    rcases hy with rfl | hy
    · exact mem_upTo.2 hx
    · exact mem_upTo.2 (h.range y hy))
  rw [length_upTo] at h2
  have := h.len
  simp at h2
  omega

theorem IsPerm.perm {p : List Int} {n : Nat} (h : IsPerm p n) : p.Perm (upTo n) :=
  (List.perm_ext_iff_of_nodup h.nodup (nodup_upTo n)).2 fun _ => ⟨fun hx => mem_upTo.2 (h.range _ hx), fun hx => h.all (mem_upTo.1 hx)⟩

theorem prod_perm {s t : List Int} (h : s.Perm t) : prod s = prod t := by
  induction h with
  | nil => rfl
  | cons x _ ih => simp [prod, ih]
  | swap x y l => simp only [prod]; rw [← Int.mul_assoc, ← Int.mul_assoc, Int.mul_comm y x]
  | trans _ _ ih1 ih2 => rw [ih1, ih2]

theorem getD_set (l : List Int) (i j : Nat) (v : Int) (hi : i < l.length) : (l.set i v).getD j 0 = if i = j then v else l.getD j 0 := by
  simp only [List.getD_eq_getElem?_getD, List.getElem?_set]
  split
  · rename_i h; subst h; simp [hi]
  · rfl

theorem axesFrom_ok {s : List Int} : ∀ (rest out taken : List Int) (k : Nat) (t : List Int), axesFrom s out k taken rest = .ok t → out.length = s.length →
    (∀ x ∈ rest, (0 ≤ x ∧ x < (s.length : Int)) ∧ x ∉ taken) ∧ rest.Nodup ∧ t.length = s.length ∧
    (∀ i, i < rest.length → t.getD (rest.getD i 0).toNat 0 = s.getD (k + i) 0) ∧ (∀ j : Nat, (j : Int) ∉ rest → t.getD j 0 = out.getD j 0) := by
  intro rest
  induction rest with
  | nil =>
    intro out taken k t h ho
    obtain rfl := Except.ok.inj h
    exact ⟨by simp, List.nodup_nil, ho, by simp, fun _ _ => rfl⟩
  | cons to p ih =>
    intro out taken k t h ho
    rw [axesFrom] at h
    split at h
    · cases h
    · rename_i hc
      simp only [not_or, Int.not_lt, Int.not_le] at hc
      obtain ⟨c0, c1, c2⟩ := hc
      obtain ⟨h1, h2, h3, h4, h5⟩ := ih _ _ _ _ h (by simpa using ho)
      have hno : to ∉ p := fun hm => (h1 to hm).2 (by simp)
      refine ⟨?_, List.nodup_cons.2 ⟨hno, h2⟩, h3, ?_, ?_⟩
      · intro x hx
        simp only [List.mem_cons] at hx
        rcases hx with rfl | hx
        · exact ⟨⟨c0, c1⟩, c2⟩
        · exact ⟨(h1 x hx).1, fun hm => (h1 x hx).2 (by simp [hm])⟩
      · intro i hi
        cases i with
        | zero =>
          rw [List.getD_cons_zero, h5 to.toNat (by rw [Int.toNat_of_nonneg c0]; exact hno), getD_set _ _ _ _ (by omega)]
          simp
        | succ i =>
          have := h4 i (by simpa using hi)
          rw [List.getD_cons_succ, this]
          congr 1
          omega
      · intro j hj
        simp only [List.mem_cons, not_or] at hj
        rw [h5 j hj.2, getD_set _ _ _ _ (by omega), if_neg (by omega)]

theorem axesFrom_mk {s : List Int} : ∀ (rest out taken : List Int) (k : Nat), (∀ x ∈ rest, (0 ≤ x ∧ x < (s.length : Int)) ∧ x ∉ taken) → rest.Nodup → ∃ t, axesFrom s out k taken rest = .ok t := by
  intro rest
  induction rest with
  | nil => intro out _ _ _ _; exact ⟨out, rfl⟩
  | cons to p ih =>
    intro out taken k h hn
    obtain ⟨hn1, hn2⟩ := List.nodup_cons.1 hn
    obtain ⟨⟨c0, c1⟩, c2⟩ := h to (by simp)
    rw [axesFrom, if_neg (by simp only [not_or, Int.not_lt, Int.not_le]; exact ⟨c0, c1, c2⟩)]
    refine ih _ _ _ (fun x hx => ⟨(h x (by simp [hx])).1, fun hm => ?_⟩) hn2
    simp only [List.mem_append, List.mem_singleton] at hm
    rcases hm with hm | rfl
    · exact (h x (by simp [hx])).2 hm
    · exact hn1 hx

theorem axes_ok {s p t : List Int} (h : axes s p = .ok t) :
    (∃ q, count s = .ok q) ∧ IsPerm p s.length ∧ t.length = s.length ∧ ∀ i, i < s.length → t.getD (p.getD i 0).toNat 0 = s.getD i 0 := by
  cases hc : count s with
  | error e => rw [axes, hc] at h; cases h
  | ok q =>
    rw [axes, hc] at h
    simp only at h
    split at h
    · cases h
    · rename_i hl
      have hl : p.length = s.length := Decidable.of_not_not hl
      obtain ⟨h1, h2, h3, h4, _⟩ := axesFrom_ok _ _ _ _ _ h (by simp)
      exact ⟨⟨q, rfl⟩, ⟨hl, fun x hx => (h1 x hx).1, h2⟩, h3, fun i hi => by have := h4 i (by omega); simpa using this⟩

theorem axes_mk {s p : List Int} {q : Int} (hc : count s = .ok q) (hp : IsPerm p s.length) : ∃ t, axes s p = .ok t := by
  obtain ⟨t, ht⟩ := axesFrom_mk (s := s) p (List.replicate s.length 0) [] 0 (fun x hx => ⟨hp.range x hx, by simp⟩) hp.nodup
  refine ⟨t, ?_⟩
  rw [axes, hc]
  simp only
  rw [if_neg (by have := hp.len; omega), ht]

theorem getD_map (p : List Int) (t : List Int) (i : Nat) (hi : i < p.length) : (p.map fun x => t.getD x.toNat 0).getD i 0 = t.getD (p.getD i 0).toNat 0 := by
  simp [hi]

theorem eq_of_getD {s t : List Int} (hl : s.length = t.length) (h : ∀ i, i < s.length → s.getD i 0 = t.getD i 0) : s = t := by
  apply List.ext_getElem hl
  intro i h1 h2
  have := h i h1
  simpa [h1, h2] using this

/-- As many cells. -/
theorem axes_perm {s p t : List Int} (h : axes s p = .ok t) : s.Perm t := by
  obtain ⟨_, hp, hl, hg⟩ := axes_ok h
  have e1 : s = p.map fun x => t.getD x.toNat 0 := eq_of_getD (by simp [hp.len]) fun i hi => by
    rw [getD_map _ _ _ (by have := hp.len; omega), hg i hi]
  have e2 : t = (upTo s.length).map fun x => t.getD x.toNat 0 := eq_of_getD (by simp [length_upTo, hl]) fun i hi => by
    rw [getD_map _ _ _ (by rw [length_upTo]; omega)]
    have : (upTo s.length).getD i 0 = (i : Int) := by simp [upTo, show i < s.length by omega]
    rw [this, Int.toNat_natCast]
  rw [e1]
  conv => rhs; rw [e2]
  exact hp.perm.map _

theorem backFrom_spec (n : Nat) : ∀ (rest out : List Int) (k : Nat), out.length = n → (∀ x ∈ rest, 0 ≤ x ∧ x < (n : Int)) → rest.Nodup →
    (backFrom n out k rest).length = n ∧ (∀ i, i < rest.length → (backFrom n out k rest).getD (rest.getD i 0).toNat 0 = ((k + i : Nat) : Int)) ∧
    (∀ j : Nat, (j : Int) ∉ rest → (backFrom n out k rest).getD j 0 = out.getD j 0) := by
  intro rest
  induction rest with
  | nil => intro out k ho _ _; exact ⟨ho, by simp, fun _ _ => rfl⟩
  | cons x p ih =>
    intro out k ho hr hn
    obtain ⟨hn1, hn2⟩ := List.nodup_cons.1 hn
    obtain ⟨c0, c1⟩ := hr x (by simp)
    obtain ⟨h1, h2, h3⟩ := ih (out.set x.toNat (k : Int)) (k + 1) (by simpa using ho) (fun y hy => hr y (by simp [hy])) hn2
    have e : backFrom n out k (x :: p) = backFrom n (out.set x.toNat (k : Int)) (k + 1) p := by rw [backFrom, if_pos ⟨c0, c1⟩]
    rw [e]
    refine ⟨h1, ?_, ?_⟩
    · intro i hi
      cases i with
      | zero =>
        rw [List.getD_cons_zero, h3 x.toNat (by rw [Int.toNat_of_nonneg c0]; exact hn1), getD_set _ _ _ _ (by omega)]
        simp
      | succ i =>
        rw [List.getD_cons_succ, h2 i (by simpa using hi)]
        congr 1
        omega
    · intro j hj
      simp only [List.mem_cons, not_or] at hj
      rw [h3 j hj.2, getD_set _ _ _ _ (by omega), if_neg (by omega)]

theorem back_spec {p : List Int} {n : Nat} (hp : IsPerm p n) : IsPerm (backwards p) n ∧ ∀ i, i < n → (backwards p).getD (p.getD i 0).toNat 0 = (i : Int) := by
  obtain ⟨h1, h2, _⟩ := backFrom_spec p.length p (List.replicate p.length 0) 0 (by simp) (by rw [hp.len]; exact hp.range) hp.nodup
  have hlen : (backwards p).length = n := by rw [backwards, h1, hp.len]
  have hget : ∀ i, i < n → (backwards p).getD (p.getD i 0).toNat 0 = (i : Int) := fun i hi => by
    have := h2 i (by rw [hp.len]; exact hi)
    simpa [backwards] using this
  -- each place of the list is p's at some index
  have hat : ∀ j, j < n → ∃ i, i < n ∧ (p.getD i 0).toNat = j := fun j hj => by
    obtain ⟨i, hi, he⟩ := List.getElem_of_mem (hp.all (x := (j : Int)) (by omega))
    exact ⟨i, by rw [← hp.len]; exact hi, by simp [hi, he]⟩
  refine ⟨⟨hlen, ?_, ?_⟩, hget⟩
  · intro x hx
    obtain ⟨j, hj, rfl⟩ := List.getElem_of_mem hx
    obtain ⟨i, hi, he⟩ := hat j (by omega)
    have := hget i hi
    rw [he] at this
    have e : (backwards p).getD j 0 = (backwards p)[j] := by simp [hj]
    rw [← e, this]
    omega
  · rw [List.nodup_iff_pairwise_ne, List.pairwise_iff_getElem]
    intro j1 j2 h1 h2 hlt heq
    obtain ⟨i1, hi1, he1⟩ := hat j1 (by omega)
    obtain ⟨i2, hi2, he2⟩ := hat j2 (by omega)
    have g1 := hget i1 hi1
    have g2 := hget i2 hi2
    rw [he1] at g1
    rw [he2] at g2
    have e1 : (backwards p).getD j1 0 = (backwards p)[j1] := by simp [h1]
    have e2 : (backwards p).getD j2 0 = (backwards p)[j2] := by simp [h2]
    rw [e1] at g1
    rw [e2] at g2
    have : i1 = i2 := by omega
    subst this
    omega

/-- AXES GO AND COME BACK. -/
theorem axes_back {s p t : List Int} (h : axes s p = .ok t) : axes t (backwards p) = .ok s ∧ ∃ m, count s = .ok m ∧ count t = .ok m := by
  obtain ⟨⟨q, hq⟩, hp, hl, hg⟩ := axes_ok h
  obtain ⟨h6, hb, hqp, _, hm⟩ := count_ok hq
  have hperm := axes_perm h
  have hct : count t = .ok q := by
    have := count_mk (s := t) (by omega) (fun x hx => hb x (hperm.mem_iff.2 hx)) (by rw [← prod_perm hperm]; omega)
    rw [this, ← prod_perm hperm, hqp]
  obtain ⟨hbp, hbg⟩ := back_spec hp
  obtain ⟨u, hu⟩ := axes_mk hct (p := backwards p) (by rw [hl]; exact hbp)
  refine ⟨?_, q, hq, hct⟩
  obtain ⟨_, _, hlu, hgu⟩ := axes_ok hu
  rw [hu]
  congr 1
  refine eq_of_getD (by omega) fun i hi => ?_
  have hi' : i < s.length := by omega
  have h1 := hp.range (p.getD i 0) (by
    have : p.getD i 0 = p[i]'(by rw [hp.len]; exact hi') := by simp [show i < p.length by rw [hp.len]; exact hi']
    rw [this]; exact List.getElem_mem _)
  have h2 := hgu (p.getD i 0).toNat (by omega)
  rw [hbg i hi', Int.toNat_natCast, hg i hi'] at h2
  exact h2

end M
end Go.Proofs.YtldhklbpmfckcaaDoor
