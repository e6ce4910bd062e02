/- Answers that are arrays or errors, and the law's helper matches. No condition. -/
import Derived.Test.YtiebknfmmanbiaaBdA
import Derived.Test.YtiebknfmmanbiaaWkMatch
import Derived.Test.YtiebknfmmanbiaaBdB
namespace Go.Proofs.Ytiebknfmmanbiaa
open Go.RowKit

/-- An error, or none. -/
def eV : Option Int → Value
  | none => .nilIface
  | some n => .iface 62 (.int .i64 n)
theorem eV_some (n : Int) : eV (some n) = .iface 62 (.int .i64 n) := rfl
theorem eV_none : eV none = .nilIface := rfl
/-- An answer's array and error. -/
def Ans (r : Except Int Arr) (w : World) (ch : Bool) (a : Option Addr) (s : List Int) (b : Option Addr) (d : List Int) (o : Option Int) : Prop :=
  Row w a s ∧ Row w b d ∧ ((o = none ∧ r = .ok ⟨ch, s, d⟩) ∨ ∃ n, o = some n ∧ r = .error n)
theorem row_none (w : World) (a : Option Addr) : Row w a [] := fun i hi => by simp at hi
theorem ArrPostF.ans {r : Except Int Arr} {w w' : World} {e : Ending} (h : ArrPostF r w e w') :
    ∃ ch a s c b d z o, e = .returned (.tuple #[arrV ch a s.length c b d.length z, eV o]) ∧ Ans r w' ch a s b d o ∧ Below w.heap.size w w' := by
  cases hr : r with
  | error n =>
    obtain ⟨rfl, hb⟩ := h.is_error hr
    exact ⟨false, none, [], 0, none, [], 0, some n, rfl, ⟨row_none _ _, row_none _ _, .inr ⟨n, rfl, rfl⟩⟩, hb⟩
  | ok x =>
    obtain ⟨a, c, b, k, rfl, h1, h2, -, -, -, hb⟩ := h.is_ok hr
    exact ⟨x.ch, a, x.s, c, b, x.d, k, none, rfl, ⟨h1, h2, .inl ⟨rfl, rfl⟩⟩, hb⟩
theorem ArrPost.ans {r : Except Int Arr} {w w' : World} {e : Ending} (h : ArrPost r w e w') :
    ∃ ch a s c b d z o, e = .returned (.tuple #[arrV ch a s.length c b d.length z, eV o]) ∧ Ans r w' ch a s b d o ∧ Below w.heap.size w w' := by
  cases hr : r with
  | error n =>
    obtain ⟨rfl, hb⟩ := h.is_error hr
    exact ⟨false, none, [], 0, none, [], 0, some n, rfl, ⟨row_none _ _, row_none _ _, .inr ⟨n, rfl, rfl⟩⟩, hb⟩
  | ok x =>
    obtain ⟨a, c, b, k, rfl, h1, h2, hb⟩ := h.is_ok hr
    exact ⟨x.ch, a, x.s, c, b, x.d, k, none, rfl, ⟨h1, h2, .inl ⟨rfl, rfl⟩⟩, hb⟩

/-- Two answers that agree: an error each, or the same sound array. -/
def Agree (ch : Bool) (s d : List Int) (o : Option Int) (ch' : Bool) (s' d' : List Int) (o' : Option Int) : Prop :=
  (o = none ∧ o' = none ∧ M.flaw ch s d = 0 ∧ ch' = ch ∧ s' = s ∧ d' = d) ∨ (∃ n n', o = some n ∧ o' = some n')
theorem ans_agree {r r' : Except Int Arr} {w w' : World} {ch ch' : Bool} {a b a' b' : Option Addr} {s d s' d' : List Int} {o o' : Option Int} (h : Ans r w ch a s b d o) (h' : Ans r' w' ch' a' s' b' d' o')
    (hr : r = r') (hf : ∀ x, r = .ok x → M.flaw x.ch x.s x.d = 0) : Agree ch s d o ch' s' d' o' := by
  subst hr
  obtain ⟨-, -, ⟨rfl, h1⟩ | ⟨n, rfl, h1⟩⟩ := h
  · obtain ⟨-, -, ⟨rfl, h2⟩ | ⟨n', rfl, h2⟩⟩ := h'
    · rw [h1] at h2
      cases h2
      exact .inl ⟨rfl, rfl, hf _ h1, rfl, rfl, rfl⟩
    · rw [h1] at h2; cases h2
  · obtain ⟨-, -, ⟨rfl, h2⟩ | ⟨n', rfl, h2⟩⟩ := h'
    · rw [h1] at h2; cases h2
    · exact .inr ⟨n, n', rfl, rfl⟩

theorem ans_agree2 {r r' : Except Int Arr} {ch ch' : Bool} {s d s' d' : List Int} {o o' : Option Int} (h : (o = none ∧ r = .ok ⟨ch, s, d⟩) ∨ ∃ n, o = some n ∧ r = .error n) (h' : (o' = none ∧ r' = .ok ⟨ch', s', d'⟩) ∨ ∃ n, o' = some n ∧ r' = .error n)
    (hr : r = r') (hf : ∀ x, r = .ok x → M.flaw x.ch x.s x.d = 0) : Agree ch s d o ch' s' d' o' :=
  by
  subst hr
  rcases h with ⟨rfl, h1⟩ | ⟨n, rfl, h1⟩
  · rcases h' with ⟨rfl, h2⟩ | ⟨n', rfl, h2⟩
    · rw [h1] at h2
      cases h2
      exact .inl ⟨rfl, rfl, hf _ h1, rfl, rfl, rfl⟩
    · rw [h1] at h2; cases h2
  · rcases h' with ⟨rfl, h2⟩ | ⟨n', rfl, h2⟩
    · rw [h1] at h2; cases h2
    · exact .inr ⟨n, n', rfl, rfl⟩

set_option maxHeartbeats 1000000 in
theorem matches_any (ch ch' : Bool) (a b a' b' : Option Addr) (s d s' d' : List Int) (m c n z m' c' n' z' : Nat) (o o' : Option Int) (w : World) (hs : Row w a s) (hd : Row w b d) (em : m = s.length) (en : n = d.length)
    (hs' : Row w a' s') (hd' : Row w b' d') (em' : m' = s'.length) (en' : n' = d'.length) (hA : Agree ch s d o ch' s' d' o') :
    Calls Try.prog 17 #[arrV ch a m c b n z, eV o, arrV ch' a' m' c' b' n' z', eV o'] w fun e w' => e = .returned (.bool true) ∧ Below w.heap.size w w' := by
  subst em
  subst en
  subst em'
  subst en'
  rcases hA with ⟨rfl, rfl, hf, rfl, rfl, rfl⟩ | ⟨x, x', rfl, rfl⟩
  · have E := ((((((Env.start w).addRow hd').addRow hs').addRow hd).addRow hs).box ch' a s'.length c b d'.length z).box ch' a' s'.length c' b' d'.length z'
    have l1 := (flaw_len hf).1
    have l2 := (flaw_len hf).2
    have hm := fun w h1 h2 h3 h4 => match_any ch' ch' a b a' b' s' d' s' d' _ c _ z _ c' _ z' w h1 h2 (by unfold maxLen; omega) (by unfold maxLen; omega) rfl rfl h3 h4 (by unfold maxLen; omega) (by unfold maxLen; omega) rfl rfl
    have hsm : M.same ⟨ch', s', d'⟩ ⟨ch', s', d'⟩ = .ok true := by
      unfold M.same
      rw [if_pos hf, if_pos hf, decide_eq_true rfl]
    rw [hsm] at hm
    dsimp only [resB] at hm
    replace hm := Lib.hid hm
    replace hf := Lib.hid hf
    clear l1 l2 hsm
    obtain ⟨⟨u0, u1, u2⟩, -, -, -⟩ := E.getBox 1 rfl
    obtain ⟨⟨t0, t1, t2⟩, -, -, -⟩ := E.getBox 0 rfl
    dsimp only [eV]
    go_enter Try.func17, Try.ntmps17
    go_wp2_with fail
    refine (hm.out _ (E.getRow 2 rfl) (E.getRow 3 rfl) (E.getRow 4 rfl) (E.getRow 5 rfl)).mono ?_
    rintro e w1 ⟨rfl, hb⟩
    replace E := E.step hb
    clear u0 u1 u2 t0 t1 t2
    go_wp2
    go_ret
    exact ⟨rfl, E.bel⟩
  · have E := ((Env.start w).box ch a s.length c b d.length z).box ch' a' s'.length c' b' d'.length z'
    dsimp only [eV]
    go_enter Try.func17, Try.ntmps17
    go_wp2
    go_ret
    exact ⟨rfl, E.bel⟩

end Go.Proofs.Ytiebknfmmanbiaa
