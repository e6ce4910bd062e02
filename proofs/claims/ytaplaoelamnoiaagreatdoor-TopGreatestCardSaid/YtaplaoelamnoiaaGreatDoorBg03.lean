/- Texts that lie in one file: what is plain, rows, boxes, squares, and what is known of a world. No condition. -/
import Derived.Test.YtaplaoelamnoiaaGreatDoorBg02
import Derived.Deep.RegionLaw
/- One append of an int to an own slice, as a step of a region that draws its order. -/
namespace Go.Proofs.YtaplaoelamnoiaaGreatDoor
open Go.RowKit

/-- out = append(out, n) as one step of a region that draws. -/
theorem step_app_int {w : World} {ops : Array Oper} {o : Oper} {a : Act} {K : Act → World → Prop} {Q : Exit → Act → World → Prop} {E : Prop} (hgd : o.guard = none) (s x : Operand)
    (ho : o.op = .call { callee := .builtin .append, args := #[s, x], argTypes := #[22, 22] })
    (B : Nat) (v : Value) (ys : List Int) (n : Int) (blk : Nat) (hs : a.eval s = v) (hown : Own w B v ys) (hx : a.eval x = .slice (some ⟨blk, 0, none⟩) 1 1) (hc : w.cell? ⟨blk, 0, none⟩ = some (.int .i64 n))
    (hlen : ys.length < 17592186044416) (hB : B ≤ w.heap.size) (m : Nat) (em : m = ys.length + 1)
    (h : ∀ a' c' w', Own w' B (.slice a' m c') (ys ++ [n]) → Below B w w' → K (a.put o.dst (.slice a' m c')) w') :
    if Region.wanted o (yielded ops a.tmps) = true then Oper.wp Tryz.prog o a w K Q else E := by
  have hw : Region.wanted o (yielded ops a.tmps) = true := by simp [Region.wanted, hgd]
  rw [if_pos hw]
  obtain ⟨i0, hi, hz0, hz1, hz2⟩ := info_parts Tryz.infoInt
  refine wp_append_own w s x 22 ho B 3 i0 (.int .i64 0) 1 8 Tryz.underlying22 hi hz0 hz1 hz2 rfl (by decide) v _ _ hs hown
    ⟨blk, 0, none⟩ 1 1 [.int .i64 n] hx rfl ?_ ?_ (by simp only [maxLen]; omega) (by omega) hB ?_
  · intro j u hj
    match j, hj with
    | 0, hj => simp at hj; subst hj; simpa [Addr.add] using hc
  · intro u hu; simp at hu; subst hu; rfl
  · intro v' w' h1 h2 _
    have hown' : Own w' B v' (ys ++ [n]) := by unfold Own; simpa using h1
    obtain ⟨a', c', hv, _, _, _⟩ := hown'.view
    have e2 : (ys ++ [n]).length = m := by rw [em]; simp
    rw [e2] at hv
    subst hv
    refine h a' c' w' hown' ?_
    exact (Below.refl B w).grown h2 hB (fun k hk => by
        rcases hown.2 with ⟨rfl, _⟩ | ⟨g, cap, cur, rfl, hg, _⟩
        · simp [Value.ownBlock] at hk
        · simp [Value.ownBlock] at hk; omega)

end Go.Proofs.YtaplaoelamnoiaaGreatDoor
