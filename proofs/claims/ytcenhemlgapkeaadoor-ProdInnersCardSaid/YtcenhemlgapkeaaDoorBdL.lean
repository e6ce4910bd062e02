/- Texts that lie in one file: what is plain, rows, boxes, squares, and what is known of a world. No condition. -/
import Derived.Test.YtcenhemlgapkeaaDoorBdY
import Derived.Test.YtcenhemlgapkeaaDoorWkNeutral
import Derived.Test.YtcenhemlgapkeaaDoorBdR
import Derived.Test.YtcenhemlgapkeaaDoorBdK
/- The lines of a place of a product: where their cells lie. No program in sight; no condition. -/
namespace Go.Proofs.YtcenhemlgapkeaaDoor
open Go.RowKit

theorem line_one {u v : List Int} {N : Int} {i j P C : Nat} (hc : M.count (u ++ v) = .ok N) (hi : (i : Int) < N) (hC : M.prod v = (C : Int)) (hj : j < P) :
    M.InR (u ++ [(P : Int)]) (((M.coords (u ++ v) i).1.take u.length ++ [0]).set u.length (j : Int)) ∧
    M.placeN 0 (u ++ [(P : Int)]) (((M.coords (u ++ v) i).1.take u.length ++ [0]).set u.length (j : Int)) = ((i / C * P + j : Nat) : Int) := by
  obtain ⟨p1, -, p3, -⟩ := coords_parts hc hi
  have hl : ((M.coords (u ++ v) i).1.take u.length).length = u.length := p1.length
  generalize (M.coords (u ++ v) i).1.take u.length = A at *
  have e : (A ++ [(0 : Int)]).set u.length (j : Int) = A ++ [(j : Int)] := by rw [← hl, List.set_append_right _ _ (Nat.le_refl _), Nat.sub_self]; rfl
  rw [e]
  refine ⟨(M.InR_append hl).2 ⟨p1, ?_⟩, ?_⟩
  · exact ⟨by omega, by omega, trivial⟩
  · rw [M.placeN_append hl, p3, hC]
    show (i : Int) / C * P + j = _
    simp
theorem line_two {u v : List Int} {N : Int} {i j P C : Nat} (hc : M.count (u ++ v) = .ok N) (hi : (i : Int) < N) (hC : M.prod v = (C : Int)) (hj : j < P) :
    M.InR ((P : Int) :: v) (([0] ++ (M.coords (u ++ v) i).1.drop u.length).set 0 (j : Int)) ∧
    M.placeN 0 ((P : Int) :: v) (([0] ++ (M.coords (u ++ v) i).1.drop u.length).set 0 (j : Int)) = ((j * C + i % C : Nat) : Int) := by
  obtain ⟨-, p2, -, p4⟩ := coords_parts hc hi
  generalize (M.coords (u ++ v) i).1.drop u.length = A at *
  have e : ([(0 : Int)] ++ A).set 0 (j : Int) = (j : Int) :: A := rfl
  rw [e]
  refine ⟨⟨by omega, by omega, p2⟩, ?_⟩
  show M.placeN (0 * (P : Int) + j) v A = _
  rw [M.placeN_at p2, p4, hC]
  simp
theorem line_in {U P C i j : Nat} (hi : i < U * C) (hj : j < P) : i / C * P + j < U * P ∧ j * C + i % C < P * C := by
  have hC : 0 < C := Nat.pos_of_ne_zero fun h => by subst h; simp at hi
  have h1 : i / C < U := Nat.div_lt_of_lt_mul (by rw [Nat.mul_comm]; exact hi)
  have h2 := Nat.mod_lt i hC
  refine ⟨?_, ?_⟩
  · calc i / C * P + j < i / C * P + P := by omega
      _ = (i / C + 1) * P := by rw [Nat.add_mul, Nat.one_mul]
      _ ≤ U * P := Nat.mul_le_mul_right _ h1
  · calc j * C + i % C < j * C + C := by omega
      _ = (j + 1) * C := by rw [Nat.add_mul, Nat.one_mul]
      _ ≤ P * C := Nat.mul_le_mul_right _ hj
end Go.Proofs.YtcenhemlgapkeaaDoor

/- The document's answer Neutral: it is M.neutral. No condition. -/
namespace Go.Proofs.YtcenhemlgapkeaaDoor
open Go.RowKit

set_option maxHeartbeats 1000000 in
theorem refNeutral_any (f : Int) (w : World) : Calls Tryd.prog 72 #[.int .i64 f] w fun e w' => e = .returned (refI (M.neutral f)) ∧ w = w' := by
  by_cases hr : 1 ≤ f ∧ f ≤ 16
  · have hs : f = 1 ∨ f = 2 ∨ f = 3 ∨ f = 4 ∨ f = 5 ∨ f = 6 ∨ f = 7 ∨ f = 8 ∨ f = 9 ∨ f = 10 ∨ f = 11 ∨ f = 12 ∨ f = 13 ∨ f = 14 ∨ f = 15 ∨ f = 16 := by omega
    clear hr
    rcases hs with rfl | rfl | rfl | rfl | rfl | rfl | rfl | rfl | rfl | rfl | rfl | rfl | rfl | rfl | rfl | rfl
    all_goals
      go_enter Tryd.func72, Tryd.ntmps72
      go_wp2
      go_ret2
      exact ⟨rfl, rfl⟩
  have hf := Lib.hid (show M.neutral f = .error 1 by unfold M.neutral; rw [if_neg (by omega), if_neg (by omega), if_neg (by omega), if_neg (by omega), if_neg (by omega), if_neg (by omega)])
  cases e1 : decide (f < 1) with
  | true =>
    clear hr
    go_enter Tryd.func72, Tryd.ntmps72
    go_wp2
    go_ret2
    exact ⟨by rw [hf.out]; rfl, rfl⟩
  | false =>
    have e2 : decide (16 < f) = true := by have := of_decide_eq_false e1; exact decide_eq_true (by omega)
    clear hr
    go_enter Tryd.func72, Tryd.ntmps72
    go_wp2
    go_ret2
    exact ⟨by rw [hf.out]; rfl, rfl⟩

theorem neutral_err {f e : Int} (h : M.neutral f = .error e) : e ≠ 0 := by
  have : e = 6 ∨ e = 1 := by
    unfold M.neutral at h
    repeat' split at h
    all_goals cases h
    · exact .inl rfl
    · exact .inr rfl
  omega

end Go.Proofs.YtcenhemlgapkeaaDoor

/- The document's Folded: what a line folds to. Condition: a row of ints of 64 bits. -/
namespace Go.Proofs.YtcenhemlgapkeaaDoor
open Go.RowKit

theorem foldL_ne {f e : Int} : ∀ {l : List Int}, M.foldL f l = .error e → e ≠ 0 := by
  intro l
  induction l with
  | nil => intro h; exact neutral_err h
  | cons x r ih =>
    intro h
    by_cases hr : r = []
    · subst hr; cases h
    · rw [foldL_cons hr] at h
      cases hq : M.foldL f r with
      | error e' => rw [hq] at h; cases h; exact ih hq
      | ok v => rw [hq] at h; exact two_err h
set_option maxHeartbeats 2000000 in
theorem refFolded_any (f : Int) : ∀ (l : List Int) (a : Option Addr) (c : Nat) (w : World), Row w a l → All64 l → l.length ≤ maxLen → l.length ≤ c →
    Calls Tryd.prog 74 #[.int .i64 f, .slice a l.length c] w fun e w' => e = .returned (refI (M.foldL f l)) ∧ w = w' := by
  intro l
  induction l with
  | nil =>
    intro a c w hr _ _ _
    have hn := Lib.hid (refNeutral_any f w)
    have e0 := Lib.hid (show M.foldL f [] = M.neutral f from rfl)
    dsimp only [List.length_nil]
    cases hv : M.neutral f with
    | ok v =>
      rw [hv] at hn e0
      replace hv := Lib.hid hv
      go_enter Tryd.func74, Tryd.ntmps74
      go_wp2_with fail
      refine hn.out.mono ?_
      rintro e w' ⟨rfl, rfl⟩
      dsimp only [refI]
      go_wp2
      go_ret2
      exact ⟨by rw [e0.out]; rfl, rfl⟩
    | error v =>
      rw [hv] at hn e0
      replace hv := Lib.hid hv
      go_enter Tryd.func74, Tryd.ntmps74
      go_wp2_with fail
      refine hn.out.mono ?_
      rintro e w' ⟨rfl, rfl⟩
      dsimp only [refI]
      go_wp2
      go_ret2
      exact ⟨by rw [e0.out]; rfl, rfl⟩
  | cons x r ih =>
    intro a c w hr h64 hl hc
    obtain ⟨b, o, rfl, c0⟩ := hr 0 (by simp)
    simp only [List.getD_cons_zero, Nat.add_zero] at c0
    have hx64 : I64 x := h64 x (by simp)
    cases r with
    | nil =>
      clear ih hr
      dsimp only [List.length_cons, List.length_nil, Nat.zero_add]
      go_enter Tryd.func74, Tryd.ntmps74
      go_wp2
      go_ret2
      exact ⟨rfl, rfl⟩
    | cons y r =>
      have hr1 : Row w (some ⟨b, o + 1, none⟩) (y :: r) := by
        intro i hi
        obtain ⟨_, _, ee, h⟩ := hr (i + 1) (by simpa using hi)
        cases ee
        refine ⟨_, _, rfl, ?_⟩
        rw [Nat.add_assoc, Nat.add_comm 1 i]
        exact h
      have hi := ih (some ⟨b, o + 1, none⟩) (c - 1) w hr1 (fun z hz => h64 z (by simp [hz])) (by simp only [List.length_cons] at hl ⊢; omega) (by simp only [List.length_cons] at hc ⊢; omega)
      have ef : M.foldL f (x :: y :: r) = match M.foldL f (y :: r) with | .ok n => M.two f x n | .error e => .error e := rfl
      have h2 := fun n hn => refTwo_any f x n w hx64 hn
      have hn64 : ∀ n, M.foldL f (y :: r) = .ok n → I64 n := fun n h => foldL_i64 (fun n h => neutral_i64 h) (fun z hz => h64 z (by simp [hz])) n h
      obtain ⟨m, hm⟩ : ∃ m, (x :: y :: r).length = m + 2 := ⟨r.length, by simp⟩
      have hm1 : (y :: r).length = m + 1 := by simp at hm ⊢; omega
      rw [hm] at hl hc ⊢
      rw [hm1] at hi
      have t1 : (((m + 2 : Nat) : Int) == 0) = false := by rw [beq_eq_false_iff_ne]; omega
      have t2 : (((m + 2 : Nat) : Int) == 1) = false := by rw [beq_eq_false_iff_ne]; omega
      have t3 : (((m : Nat) : Int) + 2 == 0) = false := by rw [beq_eq_false_iff_ne]; omega
      have t4 : (((m : Nat) : Int) + 2 == 1) = false := by rw [beq_eq_false_iff_ne]; omega
      have hl' : m + 2 ≤ 9223372036854775807 := by unfold maxLen at hl; omega
      clear ih hr hr1 h64 hm hm1
      generalize y :: r = l at *
      cases hv : M.foldL f l with
      | error v =>
        rw [hv] at hi ef
        have hv0 : (v != 0) = true := by rw [bne_iff_ne]; exact foldL_ne hv
        replace hi := Lib.hid hi
        replace ef := Lib.hid ef
        clear h2 hn64 hv
        go_enter Tryd.func74, Tryd.ntmps74
        go_wp2_with fail
        refine hi.out.mono ?_
        rintro e w' ⟨rfl, rfl⟩
        dsimp only [refI]
        go_wp2
        go_ret2
        exact ⟨by rw [ef.out]; rfl, rfl⟩
      | ok v =>
        rw [hv] at hi ef
        have h3 := h2 v (hn64 v hv)
        dsimp only at ef
        replace hi := Lib.hid hi
        replace ef := Lib.hid ef
        clear h2 hn64 hv
        cases hq : M.two f x v with
        | ok u =>
          rw [hq] at h3 ef
          replace h3 := Lib.hid h3
          clear hq
          go_enter Tryd.func74, Tryd.ntmps74
          go_wp2_with fail
          refine hi.out.mono ?_
          rintro e w' ⟨rfl, rfl⟩
          dsimp only [refI]
          go_wp2_with fail
          refine h3.out.mono ?_
          rintro e w' ⟨rfl, rfl⟩
          dsimp only [refI]
          go_wp2
          go_ret2
          exact ⟨by rw [ef.out]; rfl, rfl⟩
        | error u =>
          rw [hq] at h3 ef
          replace h3 := Lib.hid h3
          clear hq
          go_enter Tryd.func74, Tryd.ntmps74
          go_wp2_with fail
          refine hi.out.mono ?_
          rintro e w' ⟨rfl, rfl⟩
          dsimp only [refI]
          go_wp2_with fail
          refine h3.out.mono ?_
          rintro e w' ⟨rfl, rfl⟩
          dsimp only [refI]
          go_wp2
          go_ret2
          exact ⟨by rw [ef.out]; rfl, rfl⟩
end Go.Proofs.YtcenhemlgapkeaaDoor
