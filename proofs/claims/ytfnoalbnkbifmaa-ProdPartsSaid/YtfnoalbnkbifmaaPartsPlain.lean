/- A table in two parts, and its rows' sums, as plain lists. No program in sight; no condition. -/
import Derived.Test.YtfnoalbnkbifmaaOutPlain
import Derived.Test.YtfnoalbnkbifmaaJoinP
import Derived.Test.YtfnoalbnkbifmaaLinesPlain
namespace Go.Proofs.Ytfnoalbnkbifmaa
open Go.RowKit

theorem badLen_of {s : List Int} (h : ∀ x ∈ s, 0 ≤ x ∧ x ≤ 4096) : M.badLen s = 0 := by
  induction s with
  | nil => rfl
  | cons n r ih =>
    have h1 := h n (by simp)
    show (if n < 0 then 4 else if 4096 < n then 7 else M.badLen r) = 0
    rw [if_neg (by omega), if_neg (by omega)]
    exact ih fun x hx => h x (by simp [hx])
theorem prod_pos {s : List Int} (h : ∀ x ∈ s, 1 ≤ x) : 1 ≤ M.prod s := by
  induction s with
  | nil => simp [M.prod]
  | cons n r ih =>
    have h1 := h n (by simp)
    have h2 := ih fun x hx => h x (by simp [hx])
    show 1 ≤ n * M.prod r
    calc (1 : Int) = 1 * 1 := rfl
      _ ≤ n * M.prod r := Int.mul_le_mul h1 h2 (by omega) (by omega)
theorem mulUp_of {s : List Int} : ∀ (a : Int), 1 ≤ a → (∀ x ∈ s, 1 ≤ x) → a * M.prod s ≤ 4096 → M.mulUp a s = .ok (a * M.prod s) := by
  induction s with
  | nil => intro a _ _ _; simp [M.mulUp, M.prod]
  | cons n r ih =>
    intro a ha h h4
    have h1 := h n (by simp)
    have h2 := prod_pos (s := r) fun x hx => h x (by simp [hx])
    have e : a * M.prod (n :: r) = (a * n) * M.prod r := by simp only [M.prod]; rw [Int.mul_assoc]
    rw [e] at h4 ⊢
    have hp : 1 ≤ a * n := by
      calc (1 : Int) = 1 * 1 := rfl
        _ ≤ a * n := Int.mul_le_mul ha h1 (by omega) (by omega)
    have hle : a * n ≤ (a * n) * M.prod r := by
      calc a * n = (a * n) * 1 := (Int.mul_one _).symm
        _ ≤ (a * n) * M.prod r := Int.mul_le_mul_of_nonneg_left h2 (by omega)
    show (if 4096 < a * n then Except.error 7 else M.mulUp (a * n) r) = _
    rw [if_neg (by omega)]
    exact ih _ hp (fun x hx => h x (by simp [hx])) h4
theorem count_of {s : List Int} (h6 : s.length ≤ 6) (h : ∀ x ∈ s, 0 ≤ x ∧ x ≤ 4096) (h4 : M.prod s ≤ 4096) : M.count s = .ok (M.prod s) := by
  unfold M.count
  rw [if_neg (by omega), if_neg (by rw [badLen_of h]; simp)]
  by_cases h0 : (0 : Int) ∈ s
  · rw [if_pos h0]
    have : M.prod s = 0 := prod_zero (by unfold M.anyZero; rw [List.any_eq_true]; exact ⟨0, h0, rfl⟩)
    rw [this]
  · rw [if_neg h0]
    have h1 : ∀ x ∈ s, 1 ≤ x := fun x hx => by
      have := h x hx
      have hne : x ≠ 0 := fun e => h0 (e ▸ hx)
      omega
    rw [mulUp_of 1 (by omega) h1 (by omega), Int.one_mul]
theorem seqE_congr0 {n : Nat} {F G : Nat → Except Int Int} (h : ∀ i, i < n → F i = G i) : M.seqE n F = M.seqE n G := by
  induction n with
  | zero => rfl
  | succ n ih =>
    unfold M.seqE
    rw [ih fun i hi => h i (by omega), h n (by omega)]
theorem seqE_split {n : Nat} {F : Nat → Except Int Int} : ∀ {m : Nat} {l : List Int}, M.seqE (n + m) F = .ok l → ∃ l1 l2, M.seqE n F = .ok l1 ∧ M.seqE m (fun i => F (n + i)) = .ok l2 ∧ l = l1 ++ l2 := by
  intro m
  induction m with
  | zero => intro l h; exact ⟨l, [], h, rfl, by simp⟩
  | succ m ih =>
    intro l h
    rw [← Nat.add_assoc] at h
    unfold M.seqE at h
    cases hq : M.seqE (n + m) F with
    | error e => rw [hq] at h; cases h
    | ok l' =>
      rw [hq] at h
      obtain ⟨l1, l2, h1, h2, rfl⟩ := ih hq
      cases hf : F (n + m) with
      | error e => simp only [hf] at h; cases h
      | ok v =>
        simp only [hf] at h
        cases h
        exact ⟨l1, l2 ++ [v], h1, seqE_next h2 hf, by simp⟩

/-- The table of two parts is that of the one behind that of the other. -/
theorem parts_is {f : Int} {a b c x y : Arr} (hx : M.join0 a b = .ok x) (hy : M.outer f x c = .ok y) (h64 : All64 a.d) (hb64 : All64 b.d) (hc64 : All64 c.d) :
    ∃ p q, M.outer f a c = .ok p ∧ M.outer f b c = .ok q ∧ M.join0 p q = .ok y ∧ All64 p.d ∧ All64 q.d ∧ p.s.length ≤ maxLen ∧ q.s.length ≤ maxLen ∧ p.d.length ≤ maxLen ∧ q.d.length ≤ maxLen ∧ y.s.length ≤ maxLen ∧ y.d.length ≤ maxLen := by
  obtain ⟨m, n, u, fa, fb, sa, sb, hch, ⟨N, hN⟩, rfl⟩ := join0_ok hx
  unfold M.outer at hy
  split at hy
  · cases hy
  rename_i hf
  split at hy
  · cases hy
  rename_i hfl
  have hfl := Decidable.of_not_not hfl
  dsimp only at hy hfl
  cases hcc : M.count (((m + n) :: u) ++ c.s) with
  | error e => rw [hcc] at hy; cases hy
  | ok K =>
  rw [hcc] at hy
  dsimp only at hy
  split at hy
  · cases hy
  rename_i hcm
  cases hs : M.seqE ((a.d ++ b.d).length * c.d.length) (M.outC f a.ch c.ch (a.d ++ b.d) c.d) with
  | error e => rw [hs] at hy; cases hy
  | ok l =>
  rw [hs] at hy
  cases hy
  have fc : M.flaw c.ch c.s c.d = 0 := by
    unfold M.flaws at hfl
    dsimp only at hfl
    split at hfl
    · exact hfl
    · rename_i k; exact absurd hfl k
  obtain ⟨qa, ca, ea⟩ := flaw_parts fa
  obtain ⟨qb, cb, eb⟩ := flaw_parts fb
  obtain ⟨qc, cc, ec⟩ := flaw_parts fc
  obtain ⟨a1, a2, a3, a4, a5⟩ := M.count_ok ca
  obtain ⟨b1, b2, b3, b4, b5⟩ := M.count_ok cb
  obtain ⟨c1, c2, c3, c4, c5⟩ := M.count_ok cc
  obtain ⟨k1, k2, k3, k4, k5⟩ := M.count_ok hcc
  rw [sa] at ca a1 a2 a3
  rw [sb] at cb b1 b2 b3
  have pa : M.prod ((m :: u) ++ c.s) = (a.d.length : Int) * (c.d.length : Int) := by rw [prod_append, ea, ec, a3, c3]
  have pb : M.prod ((n :: u) ++ c.s) = (b.d.length : Int) * (c.d.length : Int) := by rw [prod_append, eb, ec, b3, c3]
  have pk : K = (a.d.length : Int) * (c.d.length : Int) + (b.d.length : Int) * (c.d.length : Int) := by
    rw [k3, prod_append, ← pa, ← pb, prod_append, prod_append]
    show (m + n) * M.prod u * M.prod c.s = m * M.prod u * M.prod c.s + n * M.prod u * M.prod c.s
    rw [Int.add_mul, Int.add_mul]
  have na : (0 : Int) ≤ (a.d.length : Int) * (c.d.length : Int) := Int.mul_nonneg (by omega) (by omega)
  have nb : (0 : Int) ≤ (b.d.length : Int) * (c.d.length : Int) := Int.mul_nonneg (by omega) (by omega)
  have ma : ∀ x ∈ (m :: u) ++ c.s, 0 ≤ x ∧ x ≤ 4096 := fun x hx => by
    rcases List.mem_append.1 hx with h | h
    · exact a2 x h
    · exact c2 x h
  have mb : ∀ x ∈ (n :: u) ++ c.s, 0 ≤ x ∧ x ≤ 4096 := fun x hx => by
    rcases List.mem_append.1 hx with h | h
    · exact b2 x h
    · exact c2 x h
  have ha := count_of (s := (m :: u) ++ c.s) (by simp at k1 ⊢; omega) ma (by omega)
  have hb := count_of (s := (n :: u) ++ c.s) (by simp at k1 ⊢; omega) mb (by omega)
  have hlen : (a.d ++ b.d).length * c.d.length = a.d.length * c.d.length + b.d.length * c.d.length := by rw [List.length_append, Nat.add_mul]
  rw [hlen] at hs
  obtain ⟨l1, l2, h1, h2, rfl⟩ := seqE_split hs
  have hA : M.seqE (a.d.length * c.d.length) (M.outC f a.ch c.ch a.d c.d) = .ok l1 := by
    rw [← h1]
    refine seqE_congr0 fun i hi => ?_
    have h0 : 0 < c.d.length := Nat.pos_of_ne_zero fun h => by rw [h] at hi; simp at hi
    have hd : i / c.d.length < a.d.length := Nat.div_lt_of_lt_mul (by rw [Nat.mul_comm]; exact hi)
    unfold M.outC
    rw [List.getD_eq_getElem?_getD, List.getD_eq_getElem?_getD (l := a.d ++ b.d), List.getElem?_append_left hd]
  have hB : M.seqE (b.d.length * c.d.length) (M.outC f b.ch c.ch b.d c.d) = .ok l2 := by
    rw [← h2]
    refine seqE_congr0 fun i hi => ?_
    have h0 : 0 < c.d.length := Nat.pos_of_ne_zero fun h => by rw [h] at hi; simp at hi
    have e1 : (a.d.length * c.d.length + i) / c.d.length = a.d.length + i / c.d.length := by
      rw [Nat.mul_comm, Nat.mul_add_div h0]
    have e2 : (a.d.length * c.d.length + i) % c.d.length = i % c.d.length := by rw [Nat.mul_comm, Nat.mul_add_mod]
    unfold M.outC
    rw [e1, e2, List.getD_eq_getElem?_getD, List.getD_eq_getElem?_getD (l := a.d ++ b.d), List.getElem?_append_right (Nat.le_add_right _ _), Nat.add_sub_cancel_left, hch]
  have la := seqE_length hA
  have lb := seqE_length hB
  have oc : ∀ (c1 c2 : Bool) (d d' : List Int), All64 d → All64 d' → ∀ i v, M.outC f c1 c2 d d' i = .ok v → I64 v := fun c1 c2 d d' h h' i v hv => tw_i64 (getD64 h _) (getD64 h' _) hv
  have l4 : (l1.length : Int) = (a.d.length : Int) * (c.d.length : Int) := by rw [la]; simp
  have l4' : (l2.length : Int) = (b.d.length : Int) * (c.d.length : Int) := by rw [lb]; simp
  have fp : M.flaw false ((m :: u) ++ c.s) l1 = 0 := flaw_num ha (by rw [pa, l4])
  have fq : M.flaw false ((n :: u) ++ c.s) l2 = 0 := flaw_num hb (by rw [pb, l4'])
  have hj := join0_of (c := false) (m := m) (n := n) (u := u ++ c.s) (N := K) fp fq hcc
  refine ⟨⟨false, a.s ++ c.s, l1⟩, ⟨false, b.s ++ c.s, l2⟩, ?_, ?_, ?_, ?_, ?_, ?_, ?_, ?_, ?_, ?_, ?_⟩
  · unfold M.outer
    rw [if_neg hf, if_neg (by unfold M.flaws; rw [if_pos fa]; exact fun k => k fc), sa, ha]
    dsimp only
    rw [if_neg hcm, hA]
  · unfold M.outer
    rw [if_neg hf, if_neg (by unfold M.flaws; rw [if_pos fb]; exact fun k => k fc), sb, hb]
    dsimp only
    rw [← hch, if_neg hcm, hch, hB]
  · rw [sa, sb]; exact hj
  · exact seqE_all hA fun i v _ hv => oc _ _ _ _ h64 hc64 i v hv
  · exact seqE_all hB fun i v _ hv => oc _ _ _ _ hb64 hc64 i v hv
  all_goals (unfold maxLen; first | (rw [sa]; simp at k1 ⊢; omega) | (rw [sb]; simp at k1 ⊢; omega) | (simp at k1 ⊢; omega) | skip)

/-- The sum, wrapped. -/
def sumW (l : List Int) : Int := wrap64 (l.foldr (· + ·) 0)
theorem fold_add {l : List Int} (h : All64 l) : M.foldL 1 l = .ok (sumW l) := by
  induction l with
  | nil =>
    have e : wrap64 0 = 0 := IntWalk.wrap64_in _ (by omega)
    show M.neutral 1 = .ok (wrap64 0)
    rw [e]; rfl
  | cons x r ih =>
    have hr : All64 r := fun y hy => h y (by simp [hy])
    have hx : I64 x := h x (by simp)
    by_cases e : r = []
    · subst e
      show Except.ok x = .ok (wrap64 (x + 0))
      rw [Int.add_zero, IntWalk.wrap64_in _ hx]
    · rw [foldL_cons e, ih hr]
      show Except.ok (wrap64 (x + wrap64 _)) = .ok (wrap64 (x + _))
      rw [wrap_add_r]
theorem sum_mul (x : Int) (l : List Int) : wrap64 (x * sumW l) = sumW (l.map fun y => wrap64 (x * y)) := by
  unfold sumW
  rw [wrap_mul_r]
  induction l with
  | nil => simp
  | cons y r ih =>
    simp only [List.foldr_cons, List.map_cons]
    rw [Int.mul_add, ← wrap_add_r, ih, wrap_add_r, wrap_add_l]
/-- A table's rows fold to what each cell is with what the columns fold to. -/
theorem rows_is {a c : Arr} {N K : Nat} (fa : M.flaw a.ch a.s a.d = 0) (fc : M.flaw c.ch c.s c.d = 0) (ca : a.ch = false) (cc : c.ch = false) (sa : a.s = [(N : Int)]) (sc : c.s = [(K : Int)]) (h64 : All64 a.d) (hc64 : All64 c.d)
    {L : Int} (hL : M.count ([(N : Int)] ++ [(K : Int)]) = .ok L) :
    ∃ T R v, M.outer 3 a c = .ok ⟨false, [(N : Int), (K : Int)], T⟩ ∧ All64 T ∧ T.length ≤ maxLen ∧ M.flaw false ([(N : Int)] ++ [(K : Int)]) T = 0 ∧ N ≤ 4096 ∧ c.d.length = K ∧
      M.reduce 1 [(N : Int)] K T = .ok ⟨false, [(N : Int)], R⟩ ∧ M.reduce 1 [] K c.d = .ok ⟨false, [], [v]⟩ ∧ I64 v ∧ M.each2 3 a ⟨false, [], [v]⟩ = .ok ⟨false, [(N : Int)], R⟩ ∧ R.length ≤ maxLen := by
  obtain ⟨qa, ka, ea⟩ := flaw_parts fa
  obtain ⟨qc, kc, ec⟩ := flaw_parts fc
  obtain ⟨a1, a2, a3, a4, a5⟩ := M.count_ok ka
  obtain ⟨c1, c2, c3, c4, c5⟩ := M.count_ok kc
  have dN : a.d.length = N := by
    rw [sa] at a3
    have : M.prod [(N : Int)] = N := by simp [M.prod]
    omega
  have dK : c.d.length = K := by
    rw [sc] at c3
    have : M.prod [(K : Int)] = K := by simp [M.prod]
    omega
  obtain ⟨k1, k2, k3, k4, k5⟩ := M.count_ok hL
  have hLp : L = ((N * K : Nat) : Int) := by rw [k3]; simp [M.prod]
  have hT : M.seqE (a.d.length * c.d.length) (M.outC 3 a.ch c.ch a.d c.d) = .ok ((List.range (N * K)).map fun q => wrap64 (a.d.getD (q / K) 0 * c.d.getD (q % K) 0)) := by
    rw [dN, dK]
    refine seqE_ok fun i hi => ?_
    unfold M.outC
    rw [dK]
    unfold M.tw
    rw [if_pos (by rw [ca, cc])]
    rfl
  have hline : ∀ o, o < N → M.lineAt ((List.range (N * K)).map fun q => wrap64 (a.d.getD (q / K) 0 * c.d.getD (q % K) 0)) K o = c.d.map fun y => wrap64 (a.d.getD o 0 * y) := by
    intro o ho
    unfold M.lineAt
    refine List.ext_getElem (by simp [dK]) fun j h1 h2 => ?_
    simp only [List.length_map, List.length_range] at h1
    simp only [List.getElem_map, List.getElem_range]
    have hlt : o * K + j < N * K := by
      calc o * K + j < o * K + K := by omega
        _ = (o + 1) * K := by rw [Nat.add_mul, Nat.one_mul]
        _ ≤ N * K := Nat.mul_le_mul_right _ ho
    have e1 : (o * K + j) / K = o := by rw [Nat.mul_comm, Nat.mul_add_div (by omega), Nat.div_eq_of_lt h1, Nat.add_zero]
    have e2 : (o * K + j) % K = j := by rw [Nat.mul_comm, Nat.mul_add_mod, Nat.mod_eq_of_lt h1]
    rw [List.getD_eq_getElem?_getD]
    simp only [List.getElem?_map, List.getElem?_range hlt, Option.map_some, Option.getD_some, e1, e2]
    rw [List.getD_eq_getElem?_getD (l := c.d), List.getElem?_eq_getElem (by omega), Option.getD_some]
  have hfold : ∀ o, o < N → M.lastFold 1 ((List.range (N * K)).map fun q => wrap64 (a.d.getD (q / K) 0 * c.d.getD (q % K) 0)) K o = .ok (wrap64 (a.d.getD o 0 * sumW c.d)) := by
    intro o ho
    unfold M.lastFold
    rw [hline o ho, fold_add (fun x hx => by obtain ⟨y, -, rfl⟩ := List.mem_map.1 hx; exact I64_wrap _), ← sum_mul]
  have hlone : M.lone 1 K = .ok 0 := by
    unfold M.lone
    split
    · rfl
    · rfl
  have hT64 : All64 ((List.range (N * K)).map fun q => wrap64 (a.d.getD (q / K) 0 * c.d.getD (q % K) 0)) := fun x hx => by obtain ⟨y, -, rfl⟩ := List.mem_map.1 hx; exact I64_wrap _
  have hlT : ((List.range (N * K)).map fun q => wrap64 (a.d.getD (q / K) 0 * c.d.getD (q % K) 0)).length = N * K := by simp
  refine ⟨_, (List.range N).map fun o => wrap64 (a.d.getD o 0 * sumW c.d), sumW c.d, ?_, hT64, by rw [hlT]; unfold maxLen; omega, flaw_num hL (by rw [hlT, hLp]), by omega, dK, ?_, ?_, I64_wrap _, ?_, by simp; unfold maxLen; omega⟩
  · unfold M.outer
    rw [if_neg (by decide), if_neg (by unfold M.flaws; rw [if_pos fa]; exact fun k => k fc), sa, sc, hL]
    dsimp only
    rw [if_neg (by rw [ca, cc]; decide), hT]
    rfl
  · unfold M.reduce
    rw [hlone]
    dsimp only
    have hO : (M.alongO [(N : Int)]).toNat = N := by rw [alongO_prod]; simp [M.prod]
    rw [hO, seqE_ok (G := fun o => wrap64 (a.d.getD o 0 * sumW c.d)) hfold]
  · unfold M.reduce
    rw [hlone]
    dsimp only
    have h1 : (M.alongO []).toNat = 1 := rfl
    rw [h1, seqE_one]
    unfold M.lastFold
    rw [lineAt_zero dK, fold_add hc64]
  · have hfit : M.fitE a ⟨false, [], [sumW c.d]⟩ = .ok ([(N : Int)], N, false, true) := by
      unfold M.fitE
      rw [if_neg (by rw [sa]; simp), if_pos rfl, sa, dN]
    unfold M.each2
    rw [if_neg (by decide), if_neg (by unfold M.flaws; rw [if_pos fa]; exact fun k => k rfl), hfit]
    dsimp only
    rw [if_neg (by rw [ca]; decide)]
    unfold M.fillE
    rw [seqE_ok (G := fun o => wrap64 (a.d.getD o 0 * sumW c.d)) fun i hi => ?_]
    unfold M.tw
    rw [if_pos ca]
    rfl
end Go.Proofs.Ytfnoalbnkbifmaa
