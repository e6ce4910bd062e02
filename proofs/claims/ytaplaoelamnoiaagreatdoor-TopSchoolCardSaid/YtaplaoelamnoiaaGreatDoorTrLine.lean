/- The parser's method line, and the methods flat of whole expressions. Condition: the parser and its words lie. -/
import Derived.Test.YtaplaoelamnoiaaGreatDoorBd16
import Derived.BigQuiet
namespace Go.Proofs.YtaplaoelamnoiaaGreatDoor
open Go.RowKit

set_option maxRecDepth 20000 in
set_option maxHeartbeats 4000000 in
theorem line_any (g tb tc : Nat) (ts : List Tok) (w : World) (h : Par g tb tc ts 0 w w) (h1 : 1 < ts.length) (hn : M.kindAt ts 0 = 3 → M.kindAt ts 1 ≠ 10) (n : Nat) (e : Ex) (j : Nat) (he : M.pExpr ts n 0 = some (e, j)) :
    Calls Tryz.prog 26 #[.pointer (some ⟨g, 0, none⟩)] w fun en w' => ∃ v, en = .returned v ∧ ExV (g + 1) w' e v ∧ Par g tb tc ts j w w' := by
  have ke := fun W (hW : Par g tb tc ts 0 W W) => rc_pExpr ts n g tb tc 0 W hW e j he
  obtain ⟨⟨⟨a, b, c⟩, d⟩, hta, -⟩ := id h
  have e0 : M.kindAt ts 0 = (ts[0]'(by omega)).kind := by unfold M.kindAt; rw [List.getElem?_eq_getElem (by omega)]
  have e1 : M.kindAt ts 1 = (ts[1]'h1).kind := by unfold M.kindAt; rw [List.getElem?_eq_getElem h1]
  obtain ⟨t0, -⟩ := hta 0 (ts[0]'(by omega)) (List.getElem?_eq_getElem (by omega))
  obtain ⟨t1, -⟩ := hta 1 (ts[1]'h1) (List.getElem?_eq_getElem h1)
  rw [← e0] at t0
  rw [← e1] at t1
  rw [Nat.zero_mul] at t0
  rw [Nat.one_mul] at t1
  generalize M.kindAt ts 0 = k0 at *
  generalize M.kindAt ts 1 = k1 at *
  have z1 : (1 : Int) < ((ts.length : Nat) : Int) := by omega
  have z0 : (0 : Int) < ((ts.length : Nat) : Int) := by omega
  have z2 : decide ((1 : Int) < ((ts.length : Nat) : Int)) = true := decide_eq_true z1
  replace ke := Lib.hid ke
  replace h := Lib.hid h
  replace hta := Lib.hid hta
  replace h1 := Lib.hid h1
  clear e0 e1 he
  by_cases hk : k0 = 3
  · have hk1 : (k1 == 10) = false := by rw [beq_eq_false_iff_ne]; exact hn hk
    subst hk
    replace hn := Lib.hid hn
    go_enter Tryz.func26, Tryz.ntmps26
    go_wp2_with fail
    refine (ke.out _ h.out).mono ?_
    rintro en w5 ⟨v, rfl, hv, hP5⟩
    obtain ⟨T, x, rfl⟩ := hv.face
    replace hv := Lib.hid hv
    replace hP5 := Lib.hid hP5
    go_wp2
    go_ret
    exact ⟨_, rfl, hv.out, hP5.out⟩
  · have hk1 : (k0 == 3) = false := by rw [beq_eq_false_iff_ne]; exact hk
    replace hn := Lib.hid hn
    replace hk := Lib.hid hk
    go_enter Tryz.func26, Tryz.ntmps26
    go_wp2_with fail
    refine (ke.out _ h.out).mono ?_
    rintro en w5 ⟨v, rfl, hv, hP5⟩
    obtain ⟨T, x, rfl⟩ := hv.face
    replace hv := Lib.hid hv
    replace hP5 := Lib.hid hP5
    go_wp2
    go_ret
    exact ⟨_, rfl, hv.out, hP5.out⟩

/-- Expressions that are small enough for what is shown here. -/
def Ex.small : Ex → Prop
  | .nums l => l.length < 100000
  | .name _ => True
  | .one _ _ _ r => r.small
  | .two l _ _ _ r => l.small ∧ r.small
  | .pick _ _ => False
theorem flat_any : ∀ e : Ex, e.small → FlatOk e
  | .nums l, h => flat_nums l h
  | .name s, _ => flat_name s
  | .one o f g r, h => flat_one o f g r (flat_any r h)
  | .two l o f g r, h => flat_two l o f g r (flat_any l h.1) (flat_any r h.2)
  | .pick _ _, h => False.elim h
end Go.Proofs.YtaplaoelamnoiaaGreatDoor
