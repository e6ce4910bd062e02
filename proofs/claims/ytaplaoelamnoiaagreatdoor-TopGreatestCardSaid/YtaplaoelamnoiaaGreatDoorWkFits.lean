/- The call prod.fits: the shape of an inner product. Condition: rows that lie as lists of ints, within their capacities. -/
import Derived.Test.YtaplaoelamnoiaaGreatDoorBg29
import Derived.Test.YtaplaoelamnoiaaGreatDoorBg34
import Derived.Deep.RegionHeld3
import Derived.Deep.QuietTactic
import Derived.BigQuiet
namespace Go.Proofs.YtaplaoelamnoiaaGreatDoor
open Go.RowKit

namespace M
/-- The shape of an inner product, and how long the lines are. -/
def fits (x y : Arr) : Except Int (List Int × Int) :=
  if x.s = [] ∨ y.s = [] then .error 3
  else if x.s.getLastD 0 ≠ y.s.headD 0 then .error 4
  else match count (x.s.dropLast ++ y.s.tail) with
  | .error e => .error e
  | .ok _ => .ok (x.s.dropLast ++ y.s.tail, x.s.getLastD 0)
end M

/-- What prod.fits leaves. -/
def FitsPost (r : Except Int (List Int × Int)) (w : World) (e : Ending) (w' : World) : Prop :=
  (∀ n, r = .error n → ∃ v1 v2, e = .returned (.tuple #[v1, v2, .iface 46 (.int .i64 n)])) ∧
  (∀ p, r = .ok p → ∃ v, e = .returned (.tuple #[v, .int .i64 p.2, .nilIface]) ∧ Own w' w.heap.size v p.1) ∧ Below w.heap.size w w'
theorem FitsPost.error {r : Except Int (List Int × Int)} {w w' : World} {e : Ending} {n : Int} {v1 v2 : Value} (h : r = .error n) (he : e = .returned (.tuple #[v1, v2, .iface 46 (.int .i64 n)])) (hb : Below w.heap.size w w') : FitsPost r w e w' := by
  subst h; exact ⟨fun m hm => by cases hm; exact ⟨_, _, he⟩, fun x hx => (by cases hx), hb⟩
theorem FitsPost.ok {r : Except Int (List Int × Int)} {w w' : World} {e : Ending} {s : List Int} {l : Int} {v : Value} (h : r = .ok (s, l)) (he : e = .returned (.tuple #[v, .int .i64 l, .nilIface])) (ho : Own w' w.heap.size v s) (hb : Below w.heap.size w w') : FitsPost r w e w' := by
  subst h; exact ⟨fun m hm => (by cases hm), fun x hx => (by cases hx; exact ⟨_, he, ho⟩), hb⟩

theorem held2 {w w' : World} {a b : Addr} {x y : Value} (hb : Below w.heap.size w w') (h : w.cell? a = some x ∧ w.cell? b = some y) : w'.cell? a = some x ∧ w'.cell? b = some y :=
  ⟨(hb.cell (World.block_lt_of_cell? w _ h.1)).trans h.1, (hb.cell (World.block_lt_of_cell? w _ h.2)).trans h.2⟩

set_option maxRecDepth 100000 in
set_option maxHeartbeats 8000000 in
theorem fits_any (ch ch' : Bool) (a b a' b' : Option Addr) (s d s' d' : List Int) (m c n z m' c' n' z' : Nat) (w : World) (hs : Row w a s) (hs' : Row w a' s') (ls : s.length ≤ 6) (ls' : s'.length ≤ 6) (hc : s.length ≤ c) (hc' : s'.length ≤ c') (em : m = s.length) (em' : m' = s'.length) :
    Calls Tryz.prog 138 #[arrV ch a m c b n z, arrV ch' a' m' c' b' n' z'] w fun e w' => FitsPost (M.fits ⟨ch, s, d⟩ ⟨ch', s', d'⟩) w e w' := by
  subst em
  subst em'
  by_cases h1 : s = []
  · subst h1
    have hr := Lib.hid (show M.fits ⟨ch, [], d⟩ ⟨ch', s', d'⟩ = .error 3 from if_pos (.inl rfl))
    have E := ((Env.start w).box ch a 0 c b n z).box ch' a' s'.length c' b' n' z'
    rw [World.size_alloc] at E
    obtain ⟨⟨u0, u1, u2⟩, -, -, -⟩ := E.getBox 0 rfl
    obtain ⟨⟨t0, t1, t2⟩, -, -, -⟩ := E.getBox 1 rfl
    have hbel := E.bel
    clear E
    dsimp only [List.length_nil]
    go_enter Tryz.func138, Tryz.ntmps138
    go_wp2
    go_quiet (fail)
    go_wp2
    go_ret3
    exact .error hr.out rfl (below_drewN hbel _)
  by_cases h2 : s' = []
  · subst h2
    have hr := Lib.hid (show M.fits ⟨ch, s, d⟩ ⟨ch', [], d'⟩ = .error 3 from if_pos (.inr rfl))
    have e0 : (((s.length : Nat) : Int) == 0) = false := by rw [beq_eq_false_iff_ne]; have := List.length_pos_iff.2 h1; omega
    have E := ((Env.start w).box ch a s.length c b n z).box ch' a' 0 c' b' n' z'
    rw [World.size_alloc] at E
    obtain ⟨⟨u0, u1, u2⟩, -, -, -⟩ := E.getBox 0 rfl
    obtain ⟨⟨t0, t1, t2⟩, -, -, -⟩ := E.getBox 1 rfl
    have hbel := E.bel
    clear E h1
    dsimp only [List.length_nil]
    go_enter Tryz.func138, Tryz.ntmps138
    go_wp2
    go_quiet (fail)
    go_wp2
    go_ret3
    exact .error hr.out rfl (below_drewN hbel _)
  obtain ⟨u, p, rfl⟩ : ∃ u p, s = u ++ [p] := ⟨s.dropLast, s.getLast h1, (List.dropLast_concat_getLast h1).symm⟩
  obtain ⟨q, v, rfl⟩ : ∃ q v, s' = q :: v := by
    match s', h2 with
    | q :: v, _ => exact ⟨q, v, rfl⟩
  have hr0 : M.fits ⟨ch, u ++ [p], d⟩ ⟨ch', q :: v, d'⟩ = if p ≠ q then .error 4 else match M.count (u ++ v) with | .error e => .error e | .ok _ => .ok (u ++ v, p) := by
    unfold M.fits
    rw [if_neg (by simp)]
    simp
  have l1 : (u ++ [p]).length = u.length + 1 := by simp
  have l2 : (q :: v).length = v.length + 1 := rfl
  rw [l1] at hc ls ⊢
  rw [l2] at hc' ls' ⊢
  have E := ((((Env.start w).addRow hs').addRow hs).box ch a (u.length + 1) c b n z).box ch' a' (v.length + 1) c' b' n' z'
  rw [World.size_alloc] at E
  obtain ⟨⟨u0, u1, u2⟩, -, -, -⟩ := E.getBox 0 rfl
  obtain ⟨⟨t0, t1, t2⟩, -, -, -⟩ := E.getBox 1 rfl
  have hbel := E.bel
  have hS := E.getRow 2 rfl
  have hS' := E.getRow 3 rfl
  obtain ⟨bs, os, rfl, cp⟩ := hS u.length (by rw [l1]; omega)
  obtain ⟨bt, ot, rfl, cq⟩ := hS' 0 (by rw [l2]; omega)
  rw [show (u ++ [p]).getD u.length 0 = p by simp] at cp
  simp only [List.getD_cons_zero, Nat.add_zero] at cq
  have ru : ∀ W, Row W (some ⟨bs, os, none⟩) (u ++ [p]) → Row W (some ⟨bs, os, none⟩) u := fun W h i hi => by
    obtain ⟨b1, o1, e, hcc⟩ := h i (by rw [l1]; omega)
    cases e
    refine ⟨_, _, rfl, hcc.trans ?_⟩
    rw [List.getD_eq_getElem?_getD, List.getElem?_append_left hi, ← List.getD_eq_getElem?_getD]
  have rv : ∀ W, Row W (some ⟨bt, ot, none⟩) (q :: v) → Row W (some ⟨bt, ot + 1, none⟩) v := fun W h i hi => by
    obtain ⟨b1, o1, e, hcc⟩ := h (i + 1) (by rw [l2]; omega)
    cases e
    refine ⟨_, _, rfl, ?_⟩
    rw [List.getD_cons_succ] at hcc
    rw [show ot + 1 + i = ot + (i + 1) by omega]
    exact hcc
  have e0 : (((u.length : Nat) : Int) + 1 == 0) = false := by rw [beq_eq_false_iff_ne]; omega
  have e1 : (((v.length : Nat) : Int) + 1 == 0) = false := by rw [beq_eq_false_iff_ne]; omega
  replace ru := Lib.hid ru
  replace rv := Lib.hid rv
  clear h1 h2
  by_cases hpq : p = q
  case neg =>
    have hr := Lib.hid (hr0.trans (if_pos hpq))
    have e2 : (p != q) = true := by rw [bne_iff_ne]; exact hpq
    clear hr0 hpq E hS hS' hs hs' l1 l2
    go_enter Tryz.func138, Tryz.ntmps138
    go_wp2
    go_quiet (fail)
    go_wp2
    go_ret3
    exact .error hr.out rfl (below_drewN hbel _)
  subst hpq
  rw [if_neg (fun h => h rfl)] at hr0
  have e2 : (p != p) = false := by rw [bne_eq_false_iff_eq]
  have hcount := fun (W : World) v1 k (h : Row W v1 (u ++ v)) => count_any v1 (u ++ v) (u.length + v.length) k W h (by simp only [List.length_append, maxLen]; omega) (by simp)
  have hlen : u.length + v.length ≤ 4096 := by omega
  replace hcount := Lib.hid hcount
  replace hr0 := Lib.hid hr0
  clear l1 l2
  go_enter Tryz.func138, Tryz.ntmps138
  go_wp2
  go_quiet (fail)
  go_wp2
  have E2 := E.drew nq
  obtain ⟨wr, hwr⟩ : ∃ wr : World, wr = ((w.alloc (.cells #[.bool ch, .slice (some ⟨bs, os, none⟩) (u.length + 1) c, .slice b n z] 24)).alloc (.cells #[.bool ch', .slice (some ⟨bt, ot, none⟩) (v.length + 1) c', .slice b' n' z'] 24)).drewN nq := ⟨_, rfl⟩
  rw [← hwr] at E2
  rw [← hwr]
  replace hwr := Lib.hid hwr
  clear E hbel t0 t1 t2 u0 u1 u2 cp cq hS hS'
  obtain ⟨⟨u0, u1, u2⟩, -, -, -⟩ := E2.getBox 0 rfl
  obtain ⟨⟨t0, t1, t2⟩, -, -, -⟩ := E2.getBox 1 rfl
  have i1 : (u.length : Int) ≤ (c : Int) := by omega
  have i0 : (0 : Int) ≤ (u.length : Int) := by omega
  have iw1 : IntKind.i64.wrap ((u.length : Int) + 1 - 1) = (u.length : Int) := by rw [IntKind.wrap_i64]; omega
  have iw2 : IntKind.i64.wrap (u.length : Int) = (u.length : Int) := by rw [IntKind.wrap_i64]; omega
  have i2 : (1 : Int) ≤ (v.length : Int) + 1 := by omega
  have i3 : (v.length : Int) + 1 ≤ (c' : Int) := by omega
  have r1 : Row wr (some ⟨bs, os, none⟩) u := ru.out _ (E2.getRow 2 rfl)
  have r2 : Row wr (some ⟨bt, ot + 1, none⟩) v := rv.out _ (E2.getRow 3 rfl)
  have hbel := E2.bel
  clear E2
  obtain ⟨a2, ha2, r2'⟩ : ∃ a2 : Addr, (if c' = 1 then (some ⟨bt, ot, none⟩ : Option Addr) else some ⟨bt, ot + 1, none⟩) = some a2 ∧ Row wr (some a2) v := by
    by_cases h : c' = 1
    · refine ⟨_, if_pos h, ?_⟩
      obtain rfl : v = [] := List.eq_nil_of_length_eq_zero (by omega)
      exact Row.nil _ _
    · exact ⟨_, if_neg h, r2⟩
  clear r2
  have q1 : Row ((wr.alloc (.cells #[.slice (some ⟨bs, os, none⟩) u.length c, .slice (some a2) v.length (c' - 1)] 22)).drew) (some ⟨bs, os, none⟩) u := r1.below ((Below.refl _ wr).alloc (Nat.le_refl _) _).drew
  have q2 : Row ((wr.alloc (.cells #[.slice (some ⟨bs, os, none⟩) u.length c, .slice (some a2) v.length (c' - 1)] 22)).drew) (some a2) v := r2'.below ((Below.refl _ wr).alloc (Nat.le_refl _) _).drew
  have q3 : ((wr.alloc (.cells #[.slice (some ⟨bs, os, none⟩) u.length c, .slice (some a2) v.length (c' - 1)] 22)).drew).cell? ⟨wr.heap.size, 0, none⟩ = some (.slice (some ⟨bs, os, none⟩) u.length c) := by simp
  have q4 : ((wr.alloc (.cells #[.slice (some ⟨bs, os, none⟩) u.length c, .slice (some a2) v.length (c' - 1)] 22)).drew).cell? ⟨wr.heap.size, 1, none⟩ = some (.slice (some a2) v.length (c' - 1)) := by simp
  have q5 : Below w.heap.size w ((wr.alloc (.cells #[.slice (some ⟨bs, os, none⟩) u.length c, .slice (some a2) v.length (c' - 1)] 22)).drew) := ((show Below w.heap.size w wr from hbel).alloc hbel.size _).drew
  clear r1 r2' hbel
  replace q3 := Lib.hid q3
  replace q4 := Lib.hid q4
  go_wp2_with fail
  go_region_held3 (fun w' => w'.cell? ⟨w.heap.size, 1, none⟩ = some (.slice (some ⟨bs, os, none⟩) (u.length + 1) c) ∧ w'.cell? ⟨w.heap.size + 1, 1, none⟩ = some (.slice (some ⟨bt, ot, none⟩) (v.length + 1) c'))
    (first | go_keep | (exact held2 hb5 (by assumption)))
    (first
      | (go_at_call 135; refine (concat2_any wr.heap.size ⟨bs, os, none⟩ a2 c (c' - 1) u v u.length v.length _ q3.out q4.out q1 q2 hlen rfl rfl).mono ?_; rintro e w5 ⟨v5, rfl, o5, hb5⟩))
  obtain ⟨a5, k5, e5, hk5, -, ra5⟩ := o5.view
  rw [List.length_append] at e5
  subst e5
  have hbf := below_trans q5 hb5
  have ho5 : Own w5 w.heap.size (.slice a5 (u.length + v.length) k5) (u ++ v) := o5.low q5.size
  clear q1 q2 q3 q4 q5 o5 hb5
  replace ho5 := Lib.hid ho5
  cases hq : M.count (u ++ v) with
  | error e =>
    have hr := hr0.out
    rw [hq] at hr
    have hc := hcount.out w5 a5 k5 ra5
    rw [hq] at hc
    replace hr := Lib.hid hr
    replace hc := Lib.hid hc
    replace hq := Lib.hid hq
    go_wp2_with fail
    refine hc.out.mono ?_
    rintro e w6 ⟨rfl, rfl⟩
    dsimp only [resI]
    go_wp2
    go_ret3
    exact .error hr.out rfl hbf
  | ok k =>
    have hr := hr0.out
    rw [hq] at hr
    have hc := hcount.out w5 a5 k5 ra5
    rw [hq] at hc
    replace hr := Lib.hid hr
    replace hc := Lib.hid hc
    replace hq := Lib.hid hq
    go_wp2_with fail
    refine hc.out.mono ?_
    rintro e w6 ⟨rfl, rfl⟩
    dsimp only [resI]
    go_wp2
    go_ret3
    exact .ok hr.out rfl ho5.out hbf

end Go.Proofs.YtaplaoelamnoiaaGreatDoor
