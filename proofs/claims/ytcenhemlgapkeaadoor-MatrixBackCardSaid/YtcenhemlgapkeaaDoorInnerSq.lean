/- The inner product of two squares, as plain lists. No program in sight; at most six rows. -/
import Derived.Test.YtcenhemlgapkeaaDoorPlainInner
import Derived.Test.YtcenhemlgapkeaaDoorBdQ
import Derived.Test.YtcenhemlgapkeaaDoorGrid
import Derived.Test.YtcenhemlgapkeaaDoorBdM
namespace Go.Proofs.YtcenhemlgapkeaaDoor
open Go.RowKit

theorem count_sq {n : Nat} (hn : n ≤ 6) : M.count [(n : Int), (n : Int)] = .ok ((n * n : Nat) : Int) := by
  have h1 : n = 0 ∨ n = 1 ∨ n = 2 ∨ n = 3 ∨ n = 4 ∨ n = 5 ∨ n = 6 := by omega
  rcases h1 with rfl | rfl | rfl | rfl | rfl | rfl | rfl <;> rfl
theorem foldL_add {l : List Int} (h : All64 l) : M.foldL 1 l = .ok (wrap64 l.sum) := by
  induction l with
  | nil =>
    show M.neutral 1 = _
    unfold M.neutral
    rw [if_pos (by simp)]
    simp [wrap64]
  | cons x r ih =>
    have hx : I64 x := h x (by simp)
    by_cases hr : r = []
    · subst hr
      show Except.ok x = _
      rw [List.sum_cons, List.sum_nil, Int.add_zero, wrap_id hx]
    · rw [foldL_cons hr, ih fun y hy => h y (by simp [hy])]
      show M.two 1 x (wrap64 r.sum) = _
      unfold M.two
      rw [if_pos rfl, List.sum_cons]
      congr 1
      unfold wrap64; omega
theorem sum_wrap (F : Nat → Int) (n : Nat) : wrap64 (((List.range n).map fun j => wrap64 (F j)).sum) = wrap64 (Mx.S n F) := by
  induction n with
  | zero => rfl
  | succ n ih =>
    rw [List.range_succ, List.map_append, List.sum_append]
    simp only [List.map_cons, List.map_nil, List.sum_cons, List.sum_nil, Int.add_zero]
    show _ = wrap64 (Mx.S n F + F n)
    generalize ((List.range n).map fun j => wrap64 (F j)).sum = a at *
    generalize Mx.S n F = b at *
    generalize F n = c
    unfold wrap64 at *; omega

theorem inner_sq {n : Nat} (hn : n ≤ 6) {d d' : List Int} (hd : d.length = n * n) (hd' : d'.length = n * n) :
    M.inner 1 3 ⟨false, [(n : Int), (n : Int)], d⟩ ⟨false, [(n : Int), (n : Int)], d'⟩ = .ok ⟨false, [(n : Int), (n : Int)], sqList n (Mx.mul n (M.sqA n d) (M.sqA n d'))⟩ := by
  have hc := count_sq hn
  have f1 : M.flaw false [(n : Int), (n : Int)] d = 0 := flaw_num hc (by rw [hd])
  have f2 : M.flaw false [(n : Int), (n : Int)] d' = 0 := flaw_num hc (by rw [hd'])
  have hfl : M.flaws ⟨false, [(n : Int), (n : Int)], d⟩ ⟨false, [(n : Int), (n : Int)], d'⟩ = 0 := by
    unfold M.flaws; rw [if_pos f1]; exact f2
  have hfit : M.fits ⟨false, [(n : Int), (n : Int)], d⟩ ⟨false, [(n : Int), (n : Int)], d'⟩ = .ok ([(n : Int), (n : Int)], (n : Int)) := by
    unfold M.fits
    rw [if_neg (by simp), if_neg (by simp)]
    show (match M.count [(n : Int), (n : Int)] with | Except.error e => Except.error e | Except.ok _ => Except.ok ([(n : Int), (n : Int)], (n : Int))) = _
    rw [hc]
  have hlone : ∃ v, M.lone 1 (n : Int) = .ok v := by
    unfold M.lone; split
    · exact ⟨0, rfl⟩
    · exact ⟨0, rfl⟩
  obtain ⟨v, hlone⟩ := hlone
  have hcell : ∀ k, k < n * n → M.innerCell 1 3 false false d d' n n k = .ok (wrap64 (Mx.mul n (M.sqA n d) (M.sqA n d') (k / n) (k % n))) := fun k hk => by
    have hn0 : 0 < n := Nat.pos_of_ne_zero fun h => by subst h; simp at hk
    have hi : k / n < n := Nat.div_lt_of_lt_mul hk
    have hj : k % n < n := Nat.mod_lt _ hn0
    have hl : M.seqE n (M.lineV 3 false false d d' n n k) = .ok ((List.range n).map fun j => wrap64 (M.sqA n d (k / n) j * M.sqA n d' j (k % n))) := seqE_ok fun j hjn => by
      unfold M.lineV M.tw
      rw [if_pos rfl, sqA_get d hi hjn, sqA_get d' hjn hj]
      rfl
    unfold M.innerCell
    rw [hl]
    show M.foldL 1 _ = _
    rw [foldL_add (fun x hx => by obtain ⟨j, _, rfl⟩ := List.mem_map.1 hx; exact I64_wrap _), sum_wrap]
    rfl
  unfold M.inner
  rw [if_neg (by decide), if_neg (by rw [hfl]; simp), hfit]
  dsimp only
  rw [if_neg (by simp), hlone]
  dsimp only
  have hp1 : (M.prod [(n : Int)]).toNat = n := by simp [M.prod]
  have hp2 : (M.prod [(n : Int), (n : Int)]).toNat = n * n := by
    have : M.prod [(n : Int), (n : Int)] = ((n * n : Nat) : Int) := by simp [M.prod]
    rw [this]; rfl
  rw [List.tail_cons, hp1, hp2, Int.toNat_natCast]
  unfold M.innerOf
  dsimp only
  rw [seqE_ok hcell]
  rfl

/-- The determinant of the product. -/
theorem det_inner {n : Nat} (d d' : List Int) : wrap64 (Mx.det n (M.sqA n (sqList n (Mx.mul n (M.sqA n d) (M.sqA n d'))))) = wrap64 (wrap64 (Mx.det n (M.sqA n d)) * wrap64 (Mx.det n (M.sqA n d'))) := by
  rw [det_wrap n (B := Mx.mul n (M.sqA n d) (M.sqA n d')) fun i j hi hj => by
    show wrap64 (M.sqA n (mkList n fun i j => wrap64 (Mx.mul n (M.sqA n d) (M.sqA n d') i j)) i j) = _
    rw [sqA_mk _ hi hj, wrap_wrap], wrap_mul_l, wrap_mul_r, Mx.det_mul]
end Go.Proofs.YtcenhemlgapkeaaDoor
