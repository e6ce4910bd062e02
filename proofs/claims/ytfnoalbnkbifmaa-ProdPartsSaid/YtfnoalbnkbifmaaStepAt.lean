/- One append of a row, or of nothing, to an own slice, as a step of a region that draws its order, with word of the block that it lies in afterwards. Condition: fewer than 2^44 ints. -/
import Derived.Test.YtfnoalbnkbifmaaSqApp
import Derived.Test.YtfnoalbnkbifmaaBdS
import Derived.Deep.Upon
namespace Go.Proofs.Ytfnoalbnkbifmaa
open Go.RowKit Go.Lib

theorem step_app_at {w : World} {ops : Array Oper} {o : Oper} {a : Act} {K : Act → World → Prop} {Q : Exit → Act → World → Prop} {E : Prop} (hgd : o.guard = none) (s x : Operand)
    (ho : o.op = .call { callee := .builtin .append, args := #[s, x], argTypes := #[23, 23] })
    (B g n cap : Nat) (ys zs : List Int) (b : Option Addr) (m c : Nat) (hs : a.eval s = .slice (some ⟨g, 0, none⟩) n cap) (hown : Own w B (.slice (some ⟨g, 0, none⟩) n cap) ys) (hx : a.eval x = .slice b m c) (en : n = ys.length) (em : m = zs.length) (hrow : Row w b zs)
    (hlen : ys.length + zs.length < 17592186044416) (hB : B ≤ w.heap.size) (L : Nat) (eL : L = ys.length + zs.length)
    (h : ∀ g' c' w', Own w' B (.slice (some ⟨g', 0, none⟩) L c') (ys ++ zs) → (g' = g ∨ w.heap.size ≤ g') → (∀ k, k < w.heap.size → k ≠ g → w'.heap[k]? = w.heap[k]?) → Below B w w' → K (a.put o.dst (.slice (some ⟨g', 0, none⟩) L c')) w') :
    if Region.wanted o (yielded ops a.tmps) = true then Oper.wp Try.prog o a w K Q else E := by
  subst en
  subst em
  subst eL
  have hw : Region.wanted o (yielded ops a.tmps) = true := by simp [Region.wanted, hgd]
  rw [if_pos hw]
  obtain ⟨i0, hi, hz0, hz1, hz2⟩ := info_parts Try.infoInt
  have hbl := own_block hown
  cases b with
  | none =>
    obtain rfl : zs = [] := by
      cases zs with
      | nil => rfl
      | cons z r => obtain ⟨b, o, e, _⟩ := hrow 0 (by simp); cases e
    obtain ⟨av, cv, hv, hle, -, -⟩ := hown.view
    cases hv
    have hr : (Builtin.append_ #[23, 23] o.type #[.slice (some ⟨g, 0, none⟩) ys.length cap, .slice none 0 c]).run Try.prog w = .ok (.slice (some ⟨g, 0, none⟩) ys.length cap) w :=
      run_append_nothing w 23 23 o.type 3 i0 Try.underlying23 hi (some ⟨g, 0, none⟩) ys.length cap hle _ (Src.ofNil w Try.underlying23 c)
    have hk := h g cap w (by rw [List.append_nil]; exact hown) (.inl rfl) (fun _ _ _ => rfl) (Below.refl _ _)
    unfold Oper.wp execOp
    simp only [ho, resolve, invoke, builtin, Sem.run_bind, Sem.run_pure, Result.andThen_ok, List.map_toArray, List.map_cons, List.map_nil, hs, hx, List.length_nil, hr]
    exact hk
  | some p =>
    obtain ⟨v', w', hr, h1, h2, _, h4⟩ := run_append_own_at (P := Try.prog) w B 23 o.type 3 i0 (.int .i64 0) 1 8 Try.underlying23 hi hz0 hz1 hz2 rfl (by decide) _ _ _ hown
      p zs.length c (zs.map (Value.int .i64)) (by simp) (by
        intro j u hj
        have hjl : j < zs.length := by
          have h1 := (List.getElem?_eq_some_iff.1 hj).1
          simpa using h1
        obtain ⟨b1, o1, hb, hc⟩ := hrow j hjl
        cases hb
        rw [Addr.add_lit, hc]
        rw [← hj]
        simp [hjl]) (by
        intro u hu
        obtain ⟨n, _, rfl⟩ := List.mem_map.1 hu
        rfl) (by simp only [maxLen]; omega) (by omega) hB
    have hown' : Own w' B v' (ys ++ zs) := by unfold Own; simpa using h1
    have hbe : Below B w w' := (Below.refl B w).grown h2 hB (fun k hk => by simp [Value.ownBlock] at hk; omega)
    have hot : ∀ k, k < w.heap.size → k ≠ g → w'.heap[k]? = w.heap[k]? := fun k hk hne => h2.block k hk (by simp [Value.ownBlock]; exact hne)
    have hK : K (a.put o.dst v') w' := by
      rcases hown'.2 with ⟨rfl, hn⟩ | ⟨g', cap', cur, rfl, hg, _⟩
      · simp [Value.ownBlock] at h4
      · have e2 : (ys ++ zs).length = ys.length + zs.length := by simp
        rw [e2] at hown' ⊢
        refine h g' cap' w' hown' ?_ hot hbe
        rcases h4 with h4 | h4
        · simp [Value.ownBlock] at h4; exact .inl h4
        · simp [Value.ownBlock] at h4; exact .inr (by omega)
    unfold Oper.wp execOp
    simp only [ho, resolve, invoke, builtin, Sem.run_bind, Sem.run_pure, Result.andThen_ok, List.map_toArray, List.map_cons, List.map_nil, hs, hx, hr]
    exact hK
end Go.Proofs.Ytfnoalbnkbifmaa
