/- What the document's calls leave that tell an array and an error's number; answers of both kinds beside each other. No condition. -/
import Derived.Test.YtcenhemlgapkeaaDoorOutS
import Derived.Test.YtcenhemlgapkeaaDoorPlainArr
namespace Go.Proofs.YtcenhemlgapkeaaDoor
open Go.RowKit

/-- What a call of the document's leaves that tells an array, or an error's number. -/
def DocPost (r : Except Int Arr) (w : World) (e : Ending) (w' : World) : Prop :=
  (∀ n, r = .error n → e = .returned (.tuple #[arrV false none 0 0 none 0 0, .int .i64 n])) ∧
  (∀ x, r = .ok x → ∃ a c b k, e = .returned (.tuple #[arrV x.ch a x.s.length c b x.d.length k, .int .i64 0]) ∧ Row w' a x.s ∧ Row w' b x.d) ∧
  Below w.heap.size w w'
theorem DocPost.error {r : Except Int Arr} {w w' : World} {e : Ending} {n : Int} (h : r = .error n) (he : e = .returned (.tuple #[arrV false none 0 0 none 0 0, .int .i64 n])) (hb : Below w.heap.size w w') : DocPost r w e w' := by
  subst h; exact ⟨fun m hm => by cases hm; exact he, fun x hx => (by cases hx), hb⟩
theorem DocPost.ok {r : Except Int Arr} {w w' : World} {e : Ending} {x : Arr} {a b : Option Addr} {c k : Nat} (h : r = .ok x) (he : e = .returned (.tuple #[arrV x.ch a x.s.length c b x.d.length k, .int .i64 0])) (h1 : Row w' a x.s) (h2 : Row w' b x.d) (hb : Below w.heap.size w w') : DocPost r w e w' := by
  subst h; exact ⟨fun m hm => (by cases hm), fun y hy => by cases hy; exact ⟨a, c, b, k, he, h1, h2⟩, hb⟩

/-- An answer: its array and its error's number, 0 if there is none. -/
def Ans0 (r : Except Int Arr) (ch : Bool) (s d : List Int) (n : Int) : Prop :=
  (n = 0 ∧ r = .ok ⟨ch, s, d⟩) ∨ (n ≠ 0 ∧ r = .error n ∧ ch = false ∧ s = [] ∧ d = [])
/-- What is needed of a rule: its errors have numbers, its arrays' lists are not too long. -/
def Tame (r : Except Int Arr) : Prop := (∀ n, r = .error n → n ≠ 0) ∧ ∀ x, r = .ok x → x.s.length ≤ maxLen ∧ x.d.length ≤ maxLen
theorem DocPost.ans0 {r : Except Int Arr} {w w' : World} {e : Ending} (h : DocPost r w e w') (ht : Tame r) :
    ∃ ch a s c b d z n, e = .returned (.tuple #[arrV ch a s.length c b d.length z, .int .i64 n]) ∧ Ans0 r ch s d n ∧ s.length ≤ maxLen ∧ d.length ≤ maxLen ∧ Row w' a s ∧ Row w' b d ∧ Below w.heap.size w w' := by
  cases hr : r with
  | error n => exact ⟨false, none, [], 0, none, [], 0, n, h.1 n hr, .inr ⟨ht.1 n hr, rfl, rfl, rfl, rfl⟩, by simp [maxLen], by simp [maxLen], Row.nil _ _, Row.nil _ _, h.2.2⟩
  | ok x =>
    obtain ⟨a, c, b, k, he, h1, h2⟩ := h.2.1 x hr
    exact ⟨x.ch, a, x.s, c, b, x.d, k, 0, he, .inl ⟨rfl, rfl⟩, (ht.2 x hr).1, (ht.2 x hr).2, h1, h2, h.2.2⟩
theorem ArrPost.ans0 {r : Except Int Arr} {w w' : World} {e : Ending} (h : ArrPost r w e w') (ht : Tame r) :
    ∃ ch a s c b d z n, e = .returned (.tuple #[arrV ch a s.length c b d.length z, errV n]) ∧ Ans0 r ch s d n ∧ s.length ≤ maxLen ∧ d.length ≤ maxLen ∧ Row w' a s ∧ Row w' b d ∧ Below w.heap.size w w' := by
  cases hr : r with
  | error n =>
    have hn := ht.1 n hr
    exact ⟨false, none, [], 0, none, [], 0, n, by rw [errV_ne hn]; exact h.1 n hr, .inr ⟨hn, rfl, rfl, rfl, rfl⟩, by simp [maxLen], by simp [maxLen], Row.nil _ _, Row.nil _ _, h.2.2⟩
  | ok x =>
    obtain ⟨a, c, b, k, he, h1, h2⟩ := h.2.1 x hr
    exact ⟨x.ch, a, x.s, c, b, x.d, k, 0, he, .inl ⟨rfl, rfl⟩, (ht.2 x hr).1, (ht.2 x hr).2, h1, h2, h.2.2⟩
theorem ArrPostF.plain {r : Except Int Arr} {w w' : World} {e : Ending} (h : ArrPostF r w e w') : ArrPost r w e w' :=
  ⟨h.1, fun x hx => by obtain ⟨a, c, b, k, h1, h2, h3, -, -, -⟩ := h.2.1 x hx; exact ⟨a, c, b, k, h1, h2, h3⟩, h.2.2⟩
theorem ans0_same {r : Except Int Arr} {ch ch' : Bool} {s s' d d' : List Int} {n n' : Int} (h : Ans0 r ch s d n) (h' : Ans0 r ch' s' d' n') : (n == n') = true ∧ decide ((⟨ch, s, d⟩ : Arr) = ⟨ch', s', d'⟩) = true := by
  rcases h with ⟨rfl, h1⟩ | ⟨h0, h1, rfl, rfl, rfl⟩
  · rcases h' with ⟨rfl, h2⟩ | ⟨h0', h2, rfl, rfl, rfl⟩
    · rw [h1] at h2; cases h2; exact ⟨by simp, by simp⟩
    · rw [h1] at h2; cases h2
  · rcases h' with ⟨rfl, h2⟩ | ⟨h0', h2, rfl, rfl, rfl⟩
    · rw [h1] at h2; cases h2
    · rw [h1] at h2; cases h2; exact ⟨by simp, by simp⟩
end Go.Proofs.YtcenhemlgapkeaaDoor
