/- The document's Flaws of two arrays. Condition: rows that lie as lists of ints. -/
import Derived.Test.YtcenhemlgapkeaaDoorBdB
import Derived.Test.YtcenhemlgapkeaaDoorRefArr
import Derived.Test.YtcenhemlgapkeaaDoorBdW
namespace Go.Proofs.YtcenhemlgapkeaaDoor
open Go.RowKit

set_option maxHeartbeats 1000000 in
theorem refFlaws_any (ch ch' : Bool) (a b a' b' : Option Addr) (s d s' d' : List Int) (m c n z m' c' n' z' : Nat) (w : World) (hs : Row w a s) (hd : Row w b d) (ls : s.length ≤ maxLen) (ld : d.length ≤ maxLen) (em : m = s.length) (en : n = d.length)
    (hs' : Row w a' s') (hd' : Row w b' d') (ls' : s'.length ≤ maxLen) (ld' : d'.length ≤ maxLen) (em' : m' = s'.length) (en' : n' = d'.length) :
    Calls Tryd.prog 58 #[arrV ch a m c b n z, arrV ch' a' m' c' b' n' z'] w fun e w' => e = .returned (.int .i64 (M.flaws ⟨ch, s, d⟩ ⟨ch', s', d'⟩)) ∧ Below w.heap.size w w' := by
  subst em
  subst en
  subst em'
  subst en'
  have E := ((((Env.start w).addRow hd').addRow hs').box ch a s.length c b d.length z).box ch' a' s'.length c' b' d'.length z'
  go_enter Tryd.func58, Tryd.ntmps58
  go_wp2_with fail
  refine (refFlaw_any ch a b s d _ c _ z _ (hs.below E.bel) (hd.below E.bel) ls ld rfl rfl).mono ?_
  rintro e w2 ⟨rfl, hb⟩
  replace E := E.step hb
  clear hb
  rw [World.size_alloc] at E
  by_cases hf : M.flaw ch s d = 0
  · have hr := Lib.hid (show M.flaws ⟨ch, s, d⟩ ⟨ch', s', d'⟩ = M.flaw ch' s' d' from if_pos hf)
    rw [hf]
    replace hf := Lib.hid hf
    obtain ⟨⟨u0, u1, u2⟩, -, -, -⟩ := E.getBox 0 rfl
    go_wp2_with fail
    refine (refFlaw_any ch' a' b' s' d' _ c' _ z' _ (E.getRow 2 rfl) (E.getRow 3 rfl) ls' ld' rfl rfl).mono ?_
    rintro e w3 ⟨rfl, hb⟩
    go_wp2
    go_ret
    exact ⟨by rw [hr.out]; rfl, (E.step hb).bel⟩
  · have hr := Lib.hid (show M.flaws ⟨ch, s, d⟩ ⟨ch', s', d'⟩ = M.flaw ch s d from if_neg hf)
    have hz : (M.flaw ch s d == 0) = false := by rw [beq_eq_false_iff_ne]; exact hf
    replace hf := Lib.hid hf
    go_wp2
    go_ret
    exact ⟨by rw [hr.out]; rfl, E.bel⟩

end Go.Proofs.YtcenhemlgapkeaaDoor
