/- Texts that lie in one file: what is plain, rows, boxes, squares, and what is known of a world. No condition. -/
import Derived.Test.YtaplaoelamnoiaaGreatDoorBd04
/- The calls cell.One and cell.Neutral: what they return is M.one and M.neutral; nothing in memory turns. Condition: none. -/
namespace Go.Proofs.YtaplaoelamnoiaaGreatDoor
open Go.RowKit
namespace M

def one (f a : Int) : Except Int Int :=
  if f = 1 then .ok a
  else if f = 2 then .ok (wrap64 (-a))
  else if f = 3 then .ok (if a < 0 then -1 else if 0 < a then 1 else 0)
  else if f = 5 then .ok (if a < 0 then wrap64 (-a) else a)
  else if f = 17 then (if a = 0 ∨ a = 1 then .ok (1 - a) else .error 6)
  else .error 1

end M

set_option maxHeartbeats 1000000 in
theorem cellOne_any (f a : Int) (w : World) : Calls Tryz.prog 219 #[.int .i64 f, .int .i64 a] w fun e w' => e = .returned (resI (M.one f a)) ∧ w = w' := by
  by_cases h1 : f = 1
  · subst h1
    have hf := Lib.hid (show M.one 1 a = .ok a from rfl)
    go_enter Tryz.func219, Tryz.ntmps219
    go_wp2
    go_ret2
    exact ⟨by rw [hf.out]; rfl, rfl⟩
  by_cases h2 : f = 2
  · subst h2
    have hf := Lib.hid (show M.one 2 a = .ok (wrap64 (-a)) from rfl)
    go_enter Tryz.func219, Tryz.ntmps219
    go_wp2
    go_ret2
    exact ⟨by rw [hf.out]; rfl, rfl⟩
  by_cases h3 : f = 3
  · subst h3
    by_cases h0 : a < 0
    · have hf := Lib.hid (show M.one 3 a = .ok (-1) by simp [M.one, h0])
      go_enter Tryz.func219, Tryz.ntmps219
      go_wp2
      go_ret2
      exact ⟨by rw [hf.out]; rfl, rfl⟩
    · by_cases hp : 0 < a
      · have hf := Lib.hid (show M.one 3 a = .ok 1 by simp [M.one, h0, hp])
        go_enter Tryz.func219, Tryz.ntmps219
        go_wp2
        go_ret2
        exact ⟨by rw [hf.out]; rfl, rfl⟩
      · have hf := Lib.hid (show M.one 3 a = .ok 0 by simp [M.one, h0, hp])
        go_enter Tryz.func219, Tryz.ntmps219
        go_wp2
        go_ret2
        exact ⟨by rw [hf.out]; rfl, rfl⟩
  by_cases h5 : f = 5
  · subst h5
    by_cases h0 : a < 0
    · have hf := Lib.hid (show M.one 5 a = .ok (wrap64 (-a)) by simp [M.one, h0])
      go_enter Tryz.func219, Tryz.ntmps219
      go_wp2
      go_ret2
      exact ⟨by rw [hf.out]; rfl, rfl⟩
    · have hf := Lib.hid (show M.one 5 a = .ok a by simp [M.one, h0])
      go_enter Tryz.func219, Tryz.ntmps219
      go_wp2
      go_ret2
      exact ⟨by rw [hf.out]; rfl, rfl⟩
  by_cases h17 : f = 17
  · subst h17
    by_cases h0 : a = 0
    · subst h0
      have hf := Lib.hid (show M.one 17 0 = .ok 1 from rfl)
      go_enter Tryz.func219, Tryz.ntmps219
      go_wp2
      go_ret2
      exact ⟨by rw [hf.out]; rfl, rfl⟩
    · by_cases hp : a = 1
      · subst hp
        have hf := Lib.hid (show M.one 17 1 = .ok 0 from rfl)
        go_enter Tryz.func219, Tryz.ntmps219
        go_wp2
        go_ret2
        exact ⟨by rw [hf.out]; rfl, rfl⟩
      · have hf := Lib.hid (show M.one 17 a = .error 6 by simp [M.one, h0, hp])
        have e0 : (a == 0) = false := by simpa using h0
        have e1 : (a == 1) = false := by simpa using hp
        have e2 : (a != 0) = true := by simpa using h0
        have e3 : (a != 1) = true := by simpa using hp
        clear h0 hp
        go_enter Tryz.func219, Tryz.ntmps219
        go_wp2
        go_ret2
        exact ⟨by rw [hf.out]; rfl, rfl⟩
  have hf := Lib.hid (show M.one f a = .error 1 by unfold M.one; rw [if_neg h1, if_neg h2, if_neg h3, if_neg h5, if_neg h17])
  have e1 : (f == 1) = false := by simpa using h1
  have e2 : (f == 2) = false := by simpa using h2
  have e3 : (f == 3) = false := by simpa using h3
  have e5 : (f == 5) = false := by simpa using h5
  have e17 : (f == 17) = false := by simpa using h17
  clear h1 h2 h3 h5 h17
  go_enter Tryz.func219, Tryz.ntmps219
  go_wp2
  go_ret2
  exact ⟨by rw [hf.out]; rfl, rfl⟩

end Go.Proofs.YtaplaoelamnoiaaGreatDoor
/- What a call that tells an array in new memory leaves, with word of both capacities. No condition. -/
namespace Go.Proofs.YtaplaoelamnoiaaGreatDoor
open Go.RowKit
/-- As ArrPostF, and the cells fit into what they are told to have room in. -/
def ArrPostG (r : Except Int Arr) (w : World) (e : Ending) (w' : World) : Prop :=
  (∀ n, r = .error n → e = .returned (.tuple #[arrV false none 0 0 none 0 0, .iface 46 (.int .i64 n)])) ∧
  (∀ x, r = .ok x → ∃ a c b k, e = .returned (.tuple #[arrV x.ch a x.s.length c b x.d.length k, .nilIface]) ∧ Row w' a x.s ∧ Row w' b x.d ∧ Fresh w a ∧ Fresh w b ∧ x.s.length ≤ c ∧ x.d.length ≤ k) ∧
  Below w.heap.size w w'
theorem ArrPostG.error {r : Except Int Arr} {w w' : World} {e : Ending} {n : Int} (h : r = .error n) (he : e = .returned (.tuple #[arrV false none 0 0 none 0 0, .iface 46 (.int .i64 n)])) (hb : Below w.heap.size w w') : ArrPostG r w e w' := by
  subst h; exact ⟨fun m hm => by cases hm; exact he, fun x hx => (by cases hx), hb⟩
theorem ArrPostG.ok {r : Except Int Arr} {w w' : World} {e : Ending} {x : Arr} {a b : Option Addr} {c k : Nat} (h : r = .ok x) (he : e = .returned (.tuple #[arrV x.ch a x.s.length c b x.d.length k, .nilIface])) (h1 : Row w' a x.s) (h2 : Row w' b x.d)
    (f1 : Fresh w a) (f2 : Fresh w b) (hcap : x.s.length ≤ c) (hb : Below w.heap.size w w') (hk : x.d.length ≤ k) : ArrPostG r w e w' := by
  subst h; exact ⟨fun m hm => (by cases hm), fun y hy => by cases hy; exact ⟨a, c, b, k, he, h1, h2, f1, f2, hcap, hk⟩, hb⟩
theorem ArrPostG.F {r : Except Int Arr} {w w' : World} {e : Ending} (h : ArrPostG r w e w') : ArrPostF r w e w' :=
  ⟨h.1, fun x hx => by obtain ⟨a, c, b, k, h1, h2, h3, h4, h5, h6, -⟩ := h.2.1 x hx; exact ⟨a, c, b, k, h1, h2, h3, h4, h5, h6⟩, h.2.2⟩
theorem ArrPostG.is_error {r : Except Int Arr} {w w' : World} {e : Ending} {n : Int} (h : ArrPostG r w e w') (hr : r = .error n) : e = .returned (.tuple #[arrV false none 0 0 none 0 0, .iface 46 (.int .i64 n)]) ∧ Below w.heap.size w w' := ⟨h.1 n hr, h.2.2⟩
theorem ArrPostG.is_ok {r : Except Int Arr} {w w' : World} {e : Ending} {x : Arr} (h : ArrPostG r w e w') (hr : r = .ok x) :
    ∃ a c b k, e = .returned (.tuple #[arrV x.ch a x.s.length c b x.d.length k, .nilIface]) ∧ Row w' a x.s ∧ Row w' b x.d ∧ Fresh w a ∧ Fresh w b ∧ x.s.length ≤ c ∧ x.d.length ≤ k ∧ Below w.heap.size w w' := by
  obtain ⟨a, c, b, k, h1, h2, h3, h4, h5, h6, h7⟩ := h.2.1 x hr; exact ⟨a, c, b, k, h1, h2, h3, h4, h5, h6, h7, h.2.2⟩
end Go.Proofs.YtaplaoelamnoiaaGreatDoor
