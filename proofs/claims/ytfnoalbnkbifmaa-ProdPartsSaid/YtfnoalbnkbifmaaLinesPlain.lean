/- A line with a line: the inner product of two lists and the fold of their cells, one by one, as plain lists. No condition. -/
import Derived.Test.YtfnoalbnkbifmaaWkEach
import Derived.Test.YtfnoalbnkbifmaaPlainInner
import Derived.Test.YtfnoalbnkbifmaaWkReduce
namespace Go.Proofs.Ytfnoalbnkbifmaa
open Go.RowKit

theorem map_getD_self (l : List Int) : (List.range l.length).map (fun j => l.getD j 0) = l := by
  refine List.ext_getElem (by simp) fun i h1 h2 => ?_
  simp only [List.getElem_map, List.getElem_range]
  rw [List.getD_eq_getElem?_getD, List.getElem?_eq_getElem h2, Option.getD_some]
theorem lineAt_zero {l : List Int} {P : Nat} (h : l.length = P) : M.lineAt l P 0 = l := by
  unfold M.lineAt
  subst h
  simp only [Nat.zero_mul, Nat.zero_add]
  exact map_getD_self l
theorem seqE_one (F : Nat → Except Int Int) : M.seqE 1 F = match F 0 with | .error e => .error e | .ok v => .ok [v] := by
  show (match M.seqE 0 F with | .error e => Except.error e | .ok l => match F 0 with | .error e => .error e | .ok v => .ok (l ++ [v])) = _
  unfold M.seqE
  cases F 0 <;> rfl

namespace M
/-- What is known of the three answers of two lists of one length. -/
def LinesIs (f g : Int) (x y : Arr) (P : Nat) : Prop :=
  (∃ e e', each2 g x y = .error e ∧ inner f g x y = .error e') ∨
  (∃ l, each2 g x y = .ok ⟨false, [(P : Int)], l⟩ ∧ l.length = P ∧ All64 l ∧
    ((fn2 f = false ∧ ∃ e', inner f g x y = .error e') ∨
     (fn2 f = true ∧ ((∃ e e', reduce f [] P l = .error e ∧ inner f g x y = .error e') ∨ (∃ v, reduce f [] P l = .ok ⟨false, [], [v]⟩ ∧ inner f g x y = .ok ⟨false, [], [v]⟩)))))
end M

theorem lines_is (f g : Int) (x y : Arr) (P : Nat) (hx : M.flaw x.ch x.s x.d = 0) (hy : M.flaw y.ch y.s y.d = 0) (sx : x.s = [(P : Int)]) (sy : y.s = [(P : Int)]) (hx64 : All64 x.d) (hy64 : All64 y.d) : M.LinesIs f g x y P := by
  obtain ⟨q1, c1, e1⟩ := flaw_parts hx
  obtain ⟨a1, a2, a3, a4, a5⟩ := M.count_ok c1
  have hdx : x.d.length = P := by
    rw [sx] at a3
    have : M.prod [(P : Int)] = P := by simp [M.prod]
    omega
  have hfls : M.flaws x y = 0 := by unfold M.flaws; rw [if_pos hx]; exact hy
  have hfit : M.fitE x y = .ok ([(P : Int)], P, false, false) := by
    unfold M.fitE
    rw [if_neg (by rw [sx]; simp), if_neg (by rw [sy]; simp), if_neg (by rw [sx, sy]; simp), if_neg (by rw [sx, sy]; simp), sx, hdx]
  have hfits : M.fits x y = .ok ([], (P : Int)) := by
    unfold M.fits
    rw [if_neg (by rw [sx, sy]; simp), if_neg (by rw [sx, sy]; simp), sx, sy]
    rfl
  have hin : M.inner f g x y = if M.unk f g ≠ 0 then .error 1 else if ((x.ch || y.ch) && !M.cmp g) = true then .error 6 else match M.lone f P with | .error e => .error e | .ok _ => M.innerOf f g x y [] P 1 1 := by
    unfold M.inner
    rw [if_neg (show ¬ M.flaws x y ≠ 0 by rw [hfls]; simp), hfits]
    simp only [sy]
    rfl
  have hea : M.each2 g x y = if M.fn2 g = false then .error 1 else if ((!M.cmp g) && (x.ch || y.ch)) = true then .error 6 else M.fillE [(P : Int)] P fun i => M.tw g x.ch y.ch (x.d.getD i 0) (y.d.getD i 0) := by
    unfold M.each2
    rw [if_neg (show ¬ M.flaws x y ≠ 0 by rw [hfls]; simp), hfit]
    rfl
  have hcell : ∀ l, M.seqE P (fun i => M.tw g x.ch y.ch (x.d.getD i 0) (y.d.getD i 0)) = l → M.innerCell f g x.ch y.ch x.d y.d P 1 0 = match l with | .error e => .error e | .ok l => M.foldL f l := by
    intro l hl
    unfold M.innerCell
    have : (M.lineV g x.ch y.ch x.d y.d P 1 0) = fun i => M.tw g x.ch y.ch (x.d.getD i 0) (y.d.getD i 0) := by
      funext j
      unfold M.lineV
      simp
    rw [this, hl]
    cases l <;> rfl
  by_cases hg : M.fn2 g = false
  · left
    refine ⟨1, 1, by rw [hea, if_pos hg], ?_⟩
    rw [hin, if_pos (by unfold M.unk; rw [hg]; simp)]
  · have hg' : M.fn2 g = true := by simpa using hg
    rw [if_neg hg] at hea
    by_cases hc : ((!M.cmp g) && (x.ch || y.ch)) = true
    · left
      rw [if_pos hc] at hea
      have hc' : ((x.ch || y.ch) && !M.cmp g) = true := by rw [Bool.and_comm]; exact hc
      rw [if_pos hc'] at hin
      by_cases hu : M.unk f g ≠ 0
      · exact ⟨_, _, hea, by rw [hin, if_pos hu]⟩
      · exact ⟨_, _, hea, by rw [hin, if_neg hu]⟩
    · rw [if_neg hc] at hea
      have hc' : ¬ ((x.ch || y.ch) && !M.cmp g) = true := by rw [Bool.and_comm]; exact hc
      rw [if_neg hc'] at hin
      unfold M.fillE at hea
      cases hq : M.seqE P (fun i => M.tw g x.ch y.ch (x.d.getD i 0) (y.d.getD i 0)) with
      | error e =>
        left
        rw [hq] at hea
        have hce := hcell _ hq
        dsimp only at hce
        refine ⟨e, ?_⟩
        by_cases hu : M.unk f g ≠ 0
        · exact ⟨_, hea, by rw [hin, if_pos hu]⟩
        · rw [if_neg hu] at hin
          cases hl : M.lone f P with
          | error e' => rw [hl] at hin; exact ⟨_, hea, hin⟩
          | ok v =>
            rw [hl] at hin
            refine ⟨e, hea, ?_⟩
            rw [hin]
            unfold M.innerOf
            rw [seqE_one, hce]
      | ok l =>
        right
        rw [hq] at hea
        have hce := hcell _ hq
        dsimp only at hce
        have hll := seqE_length hq
        have hl64 : All64 l := seqE_all hq fun i v _ hv => tw_i64 (getD64 hx64 i) (getD64 hy64 i) hv
        refine ⟨l, hea, hll, hl64, ?_⟩
        cases hf : M.fn2 f with
        | false =>
          left
          refine ⟨rfl, 1, ?_⟩
          rw [hin, if_pos (by unfold M.unk; rw [hf]; simp)]
        | true =>
          right
          refine ⟨rfl, ?_⟩
          rw [if_neg (by unfold M.unk; rw [hf, hg']; simp)] at hin
          have hre : M.reduce f [] P l = match M.lone f P with | .error e => .error e | .ok _ => match M.foldL f l with | .error e => .error e | .ok v => .ok ⟨false, [], [v]⟩ := by
            unfold M.reduce
            have h1 : (M.alongO []).toNat = 1 := rfl
            rw [h1, seqE_one]
            unfold M.lastFold
            rw [lineAt_zero hll]
            cases M.lone f P with
            | error e => rfl
            | ok v => cases M.foldL f l <;> rfl
          cases hl : M.lone f P with
          | error e => rw [hl] at hin hre; exact .inl ⟨_, _, hre, hin⟩
          | ok v0 =>
            rw [hl] at hin hre
            dsimp only at hin hre
            unfold M.innerOf at hin
            rw [seqE_one, hce] at hin
            cases hv : M.foldL f l with
            | error e => rw [hv] at hin hre; exact .inl ⟨_, _, hre, hin⟩
            | ok v => rw [hv] at hin hre; exact .inr ⟨v, hre, hin⟩
end Go.Proofs.Ytfnoalbnkbifmaa
