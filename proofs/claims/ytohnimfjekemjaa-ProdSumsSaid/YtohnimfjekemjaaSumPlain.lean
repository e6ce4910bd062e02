/- Sums of matrices, and products of sums, as plain lists. No program in sight; matrices of at most 64 rows and columns. -/
import Derived.Test.YtohnimfjekemjaaSemiRing
import Derived.Test.YtohnimfjekemjaaWkEach
namespace Go.Proofs.Ytohnimfjekemjaa
open Go.RowKit

theorem matL_seq {m n : Nat} {T : Nat → Except Int Int} {A : Nat → Nat → Z6} (h : ∀ k, k < m * n → T k = .ok (A (k / n) (k % n)).1) : M.seqE (m * n) T = .ok (matL m n A) := seqE_ok h
/-- The sum of two matrices, cell by cell. -/
theorem each_sum {m n : Nat} (hm : m ≤ 64) (hn : n ≤ 64) {a b : List Int} (ha : All64 a) (hb : All64 b) (la : a.length = m * n) (lb : b.length = m * n) :
    M.each2 1 ⟨false, [(m : Int), (n : Int)], a⟩ ⟨false, [(m : Int), (n : Int)], b⟩ = .ok ⟨false, [(m : Int), (n : Int)], matL m n fun i j => srAdd.ad (matA n ha i j) (matA n hb i j)⟩ := by
  have f1 := flaw_mat hm hn la
  have f2 := flaw_mat hm hn lb
  have hfl : M.flaws ⟨false, [(m : Int), (n : Int)], a⟩ ⟨false, [(m : Int), (n : Int)], b⟩ = 0 := by unfold M.flaws; rw [if_pos f1]; exact f2
  have hfit : M.fitE ⟨false, [(m : Int), (n : Int)], a⟩ ⟨false, [(m : Int), (n : Int)], b⟩ = .ok ([(m : Int), (n : Int)], m * n, false, false) := by
    unfold M.fitE
    rw [if_neg (by simp), if_neg (by simp), if_neg (by simp), if_neg (by simp)]
    show Except.ok ([(m : Int), (n : Int)], a.length, false, false) = _
    rw [la]
  unfold M.each2
  rw [if_neg (by decide), if_neg (by rw [hfl]; simp), hfit]
  show (if ((!M.cmp 1) && (false || false)) = true then Except.error 6 else _) = _
  rw [if_neg (by decide)]
  show M.fillE [(m : Int), (n : Int)] (m * n) (fun i => M.tw 1 false false (M.pickC false a i) (M.pickC false b i)) = _
  have hs : M.seqE (m * n) (fun i => M.tw 1 false false (M.pickC false a i) (M.pickC false b i)) = .ok (matL m n fun i j => srAdd.ad (matA n ha i j) (matA n hb i j)) := matL_seq fun k hk => by
    have q3 : k / n * n + k % n = k := by rw [Nat.mul_comm]; exact Nat.div_add_mod k n
    unfold M.tw M.pickC
    rw [if_pos rfl]
    show M.two 1 (a.getD k 0) (b.getD k 0) = .ok (wrap64 (a.getD (k / n * n + k % n) 0 + b.getD (k / n * n + k % n) 0))
    rw [q3]; rfl
  unfold M.fillE
  rw [hs]

/-- By the left hand: a·(b + c). -/
theorem sum_left {m p n : Nat} (hm : m ≤ 64) (hp : p ≤ 64) (hn : n ≤ 64) {a b c : List Int} (ha : All64 a) (hb : All64 b) (hc : All64 c) (la : a.length = m * p) (lb : b.length = p * n) (lc : c.length = p * n) {s : List Int}
    (hs : M.each2 1 ⟨false, [(p : Int), (n : Int)], b⟩ ⟨false, [(p : Int), (n : Int)], c⟩ = .ok ⟨false, [(p : Int), (n : Int)], s⟩) :
    ∃ X P Q, M.inner 1 3 ⟨false, [(m : Int), (p : Int)], a⟩ ⟨false, [(p : Int), (n : Int)], s⟩ = .ok ⟨false, [(m : Int), (n : Int)], X⟩ ∧ M.inner 1 3 ⟨false, [(m : Int), (p : Int)], a⟩ ⟨false, [(p : Int), (n : Int)], b⟩ = .ok ⟨false, [(m : Int), (n : Int)], P⟩ ∧
      M.inner 1 3 ⟨false, [(m : Int), (p : Int)], a⟩ ⟨false, [(p : Int), (n : Int)], c⟩ = .ok ⟨false, [(m : Int), (n : Int)], Q⟩ ∧ M.each2 1 ⟨false, [(m : Int), (n : Int)], P⟩ ⟨false, [(m : Int), (n : Int)], Q⟩ = .ok ⟨false, [(m : Int), (n : Int)], X⟩ ∧
      (All64 P ∧ P.length = m * n) ∧ (All64 Q ∧ Q.length = m * n) ∧ X.length = m * n := by
  rw [each_sum hp hn hb hc lb lc] at hs
  injection hs with hs
  rw [Arr.mk.injEq] at hs
  obtain ⟨-, -, rfl⟩ := hs
  refine ⟨_, _, _, inner_sr srAdd srAdd_of hm hp hn ha (matL_i64 _ _ _) la (matL_length _ _ _), inner_sr srAdd srAdd_of hm hp hn ha hb la lb, inner_sr srAdd srAdd_of hm hp hn ha hc la lc, ?_, ⟨matL_i64 _ _ _, matL_length _ _ _⟩, ⟨matL_i64 _ _ _, matL_length _ _ _⟩, matL_length _ _ _⟩
  rw [each_sum hm hn (matL_i64 _ _ _) (matL_i64 _ _ _) (matL_length _ _ _) (matL_length _ _ _)]
  congr 2
  refine matL_congr fun i l hi hl => ?_
  rw [matA_L _ _ hi hl, matA_L _ _ hi hl, ← srAdd.mm_addr]
  exact srAdd.mm_congr (fun _ _ => rfl) fun j hj => (matA_L (fun i j => srAdd.ad (matA n hb i j) (matA n hc i j)) (matL_i64 _ _ _) hj hl).symm
/-- By the right hand: (b + c)·a. -/
theorem sum_right {p n q : Nat} (hp : p ≤ 64) (hn : n ≤ 64) (hq : q ≤ 64) {a b c : List Int} (ha : All64 a) (hb : All64 b) (hc : All64 c) (la : a.length = n * q) (lb : b.length = p * n) (lc : c.length = p * n) {s : List Int}
    (hs : M.each2 1 ⟨false, [(p : Int), (n : Int)], b⟩ ⟨false, [(p : Int), (n : Int)], c⟩ = .ok ⟨false, [(p : Int), (n : Int)], s⟩) :
    ∃ X P Q, M.inner 1 3 ⟨false, [(p : Int), (n : Int)], s⟩ ⟨false, [(n : Int), (q : Int)], a⟩ = .ok ⟨false, [(p : Int), (q : Int)], X⟩ ∧ M.inner 1 3 ⟨false, [(p : Int), (n : Int)], b⟩ ⟨false, [(n : Int), (q : Int)], a⟩ = .ok ⟨false, [(p : Int), (q : Int)], P⟩ ∧
      M.inner 1 3 ⟨false, [(p : Int), (n : Int)], c⟩ ⟨false, [(n : Int), (q : Int)], a⟩ = .ok ⟨false, [(p : Int), (q : Int)], Q⟩ ∧ M.each2 1 ⟨false, [(p : Int), (q : Int)], P⟩ ⟨false, [(p : Int), (q : Int)], Q⟩ = .ok ⟨false, [(p : Int), (q : Int)], X⟩ ∧
      (All64 P ∧ P.length = p * q) ∧ (All64 Q ∧ Q.length = p * q) ∧ X.length = p * q := by
  rw [each_sum hp hn hb hc lb lc] at hs
  injection hs with hs
  rw [Arr.mk.injEq] at hs
  obtain ⟨-, -, rfl⟩ := hs
  refine ⟨_, _, _, inner_sr srAdd srAdd_of hp hn hq (matL_i64 _ _ _) ha (matL_length _ _ _) la, inner_sr srAdd srAdd_of hp hn hq hb ha lb la, inner_sr srAdd srAdd_of hp hn hq hc ha lc la, ?_, ⟨matL_i64 _ _ _, matL_length _ _ _⟩, ⟨matL_i64 _ _ _, matL_length _ _ _⟩, matL_length _ _ _⟩
  rw [each_sum hp hq (matL_i64 _ _ _) (matL_i64 _ _ _) (matL_length _ _ _) (matL_length _ _ _)]
  congr 2
  refine matL_congr fun i l hi hl => ?_
  rw [matA_L _ _ hi hl, matA_L _ _ hi hl, ← srAdd.mm_addl]
  exact srAdd.mm_congr (fun j hj => (matA_L (fun i j => srAdd.ad (matA n hb i j) (matA n hc i j)) (matL_i64 _ _ _) hi hj).symm) fun _ _ => rfl
theorem sum_fact : M.inner 1 3 ⟨false, [2], [1, 1]⟩ ⟨false, [2], [4, 3]⟩ = .ok ⟨false, [], [7]⟩ := by kernel_rfl

end Go.Proofs.Ytohnimfjekemjaa
