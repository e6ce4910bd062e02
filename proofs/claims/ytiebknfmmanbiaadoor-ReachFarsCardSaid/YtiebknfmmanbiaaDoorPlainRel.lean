/- Plain facts on relations that lie as arrays. No program in sight. -/
import Derived.Test.YtiebknfmmanbiaaDoorWkClose
namespace Go.Proofs.YtiebknfmmanbiaaDoor
open Go.RowKit

/-- A relation's array. -/
theorem rel_parts {x : Arr} (h : M.relFault x = 0) : ∃ n : Nat, n ≤ 24 ∧ x.ch = false ∧ x.s = [(n : Int), (n : Int)] ∧ x.d.length = n * n ∧ M.relN x = n ∧ (∀ c ∈ x.d, c = 0 ∨ c = 1) ∧ M.flaw x.ch x.s x.d = 0 := by
  obtain ⟨ch, s, d⟩ := x
  unfold M.relFault at h
  simp only at h
  by_cases hf : M.flaw ch s d = 0
  case neg => rw [if_pos hf] at h; exact absurd h hf
  rw [if_neg (fun k => k hf)] at h
  by_cases hl : s.length = 2
  case neg => rw [if_pos hl] at h; cases h
  rw [if_neg (fun k => k hl)] at h
  obtain ⟨u, v, rfl⟩ : ∃ u v, s = [u, v] := by
    match s, hl with
    | [u, v], _ => exact ⟨u, v, rfl⟩
  simp only [List.getD_cons_zero, List.getD_cons_succ] at h
  by_cases he : u = v
  case neg => rw [if_pos he] at h; cases h
  subst he
  rw [if_neg (fun k => k rfl)] at h
  by_cases hg : 24 < u
  case pos => rw [if_pos hg] at h; cases h
  rw [if_neg hg] at h
  cases ch
  case true => rw [if_pos rfl] at h; cases h
  rw [if_neg (by decide)] at h
  split at h
  case isFalse => cases h
  rename_i h01
  obtain ⟨q, hq, hlen⟩ := flaw_parts hf
  have h0 := ((M.count_ok hq).2.1 u (by simp)).1
  have hqq := (M.count_ok hq).2.2.1
  obtain ⟨n, rfl⟩ : ∃ n : Nat, u = n := ⟨u.toNat, by omega⟩
  refine ⟨n, by omega, rfl, rfl, ?_, rfl, ?_, hf⟩
  · rw [hqq] at hlen
    simp only [M.prod, Int.mul_one] at hlen
    exact_mod_cast hlen
  · intro c hc
    rw [List.all_eq_true] at h01
    have := h01 c hc
    simpa using this

theorem rel_mk {n : Nat} {d : List Int} (hn : n ≤ 24) (hl : d.length = n * n) (h : ∀ c ∈ d, c = 0 ∨ c = 1) : M.relFault ⟨false, [(n : Int), (n : Int)], d⟩ = 0 := by
  have hp : M.prod [(n : Int), (n : Int)] = (n * n : Nat) := by simp [M.prod]
  have hnn : n * n ≤ 24 * 24 := Nat.mul_le_mul hn hn
  have hc : M.count [(n : Int), (n : Int)] = .ok ((n * n : Nat) : Int) := by
    rw [← hp]
    refine M.count_mk (by simp) ?_ (by rw [hp]; omega)
    intro x hx
    simp at hx
    omega
  have hf := flaw_num hc (show (d.length : Int) = ((n * n : Nat) : Int) by rw [hl])
  unfold M.relFault
  simp only [hf, List.length_cons, List.length_nil, List.getD_cons_zero, List.getD_cons_succ]
  rw [if_neg (by simp), if_neg (by simp), if_neg (by simp), if_neg (by omega), if_neg (by simp), if_pos]
  rw [List.all_eq_true]
  intro c hc
  rcases h c hc with h | h <;> simp [h]

theorem relCells_01 (n : Nat) (F : Nat → Nat → Bool) : ∀ c ∈ relCells n F, c = 0 ∨ c = 1 := by
  intro c hc
  unfold relCells at hc
  obtain ⟨p, _, rfl⟩ := List.mem_map.1 hc
  split
  · exact .inr rfl
  · exact .inl rfl

theorem relE_in {n : Nat} {d : List Int} {ch : Bool} {i j : Nat} (hi : i < n) (hj : j < n) : M.relE ⟨ch, [(n : Int), (n : Int)], d⟩ i j = (d.getD (i * n + j) 0 == 1) := by
  have e : M.relN ⟨ch, [(n : Int), (n : Int)], d⟩ = n := rfl
  unfold M.relE
  rw [e, decide_eq_true ⟨hi, hj⟩, Bool.true_and]

theorem relE_cells {n : Nat} {F : Nat → Nat → Bool} {i j : Nat} (hi : i < n) (hj : j < n) : M.relE ⟨false, [(n : Int), (n : Int)], relCells n F⟩ i j = F i j := by
  rw [relE_in hi hj, relCells_get F hi hj]
  cases F i j <;> rfl

theorem split_index {n q : Nat} (h : q < n * n) : q / n < n ∧ q % n < n ∧ q / n * n + q % n = q := by
  have hn : 0 < n := Nat.pos_of_ne_zero fun h0 => by rw [h0] at h; simp at h
  exact ⟨Nat.div_lt_of_lt_mul h, Nat.mod_lt _ hn, by rw [Nat.mul_comm]; exact Nat.div_add_mod q n⟩

theorem relCells_at {n q : Nat} (F : Nat → Nat → Bool) (h : q < n * n) : (relCells n F).getD q 0 = if F (q / n) (q % n) then 1 else 0 := by
  obtain ⟨h1, h2, h3⟩ := split_index h
  have := relCells_get F h1 h2
  rwa [h3] at this

theorem relCells_congr {n : Nat} {F G : Nat → Nat → Bool} (h : ∀ i j, i < n → j < n → F i j = G i j) : relCells n F = relCells n G := by
  unfold relCells
  apply List.map_congr_left
  intro p hp
  have hp' := List.mem_range.1 hp
  obtain ⟨h1, h2, _⟩ := split_index hp'
  rw [h _ _ h1 h2]

/-- Once more it is the same. -/
theorem close_close {n : Nat} (hn : n ≤ 24) (F : Nat → Nat → Bool) : M.close ⟨false, [(n : Int), (n : Int)], relCells n (Re.clo n F)⟩ = .ok ⟨false, [(n : Int), (n : Int)], relCells n (Re.clo n F)⟩ := by
  have hf := rel_mk hn (relCells_length n (Re.clo n F)) (relCells_01 n _)
  unfold M.close
  rw [if_pos hf]
  have e : M.relN ⟨false, [(n : Int), (n : Int)], relCells n (Re.clo n F)⟩ = n := rfl
  rw [e]
  congr 2
  refine relCells_congr fun i j hi hj => ?_
  rw [Re.clo_congr (F := Re.clo n F) (fun i j hi hj => relE_cells hi hj) hi hj, Re.clo_clo hi hj]

/-- Its cells. -/
theorem clo_cell_iff {n q : Nat} {F : Nat → Nat → Bool} (h : q < n * n) : (relCells n F).getD q 0 = 1 ↔ F (q / n) (q % n) = true := by
  rw [relCells_at F h]
  cases F (q / n) (q % n) <;> simp

theorem relE_at {n q : Nat} {ch : Bool} {d : List Int} (h : q < n * n) : M.relE ⟨ch, [(n : Int), (n : Int)], d⟩ (q / n) (q % n) = true ↔ d.getD q 0 = 1 := by
  obtain ⟨h1, h2, h3⟩ := split_index h
  rw [relE_in h1 h2, h3]; simp

theorem chained_clo {n : Nat} {F : Nat → Nat → Bool} : ∀ i j k, i < n → j < n → k < n → (relCells n (Re.clo n F)).getD (i * n + j) 0 = 1 → (relCells n (Re.clo n F)).getD (j * n + k) 0 = 1 → (relCells n (Re.clo n F)).getD (i * n + k) 0 = 1 := by
  intro i j k hi hj hk
  rw [relCells_get _ hi hj, relCells_get _ hj hk, relCells_get _ hi hk]
  intro h1 h2
  have a1 : Re.clo n F i j = true := by cases h : Re.clo n F i j <;> simp [h] at h1 ⊢
  have a2 : Re.clo n F j k = true := by cases h : Re.clo n F j k <;> simp [h] at h2 ⊢
  rw [Re.clo_trans hj a1 a2]; rfl

end Go.Proofs.YtiebknfmmanbiaaDoor
