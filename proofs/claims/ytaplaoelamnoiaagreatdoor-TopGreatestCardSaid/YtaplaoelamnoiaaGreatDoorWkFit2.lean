/- The call each.fit: the shape of two arrays taken together cell by cell, and how the cells of each are found. Condition: rows that lie as lists of ints. -/
import Derived.Test.YtaplaoelamnoiaaGreatDoorWkTell
import Derived.Test.YtaplaoelamnoiaaGreatDoorBg01
import Derived.Test.YtaplaoelamnoiaaGreatDoorBg02
import Derived.Deep.RegionHeld3
import Derived.Deep.Cut
namespace Go.Proofs.YtaplaoelamnoiaaGreatDoor
open Go.RowKit

namespace M
/-- The shape, how many cells, and whether the one and the other are single. -/
def fitE (x y : Arr) : Except Int (List Int × Nat × Bool × Bool) :=
  if x.s = [] then .ok (y.s, y.d.length, true, false)
  else if y.s = [] then .ok (x.s, x.d.length, false, true)
  else if x.s.length ≠ y.s.length then .error 3
  else if x.s ≠ y.s then .error 4
  else .ok (x.s, x.d.length, false, false)
end M

/-- What each.fit leaves. -/
def FitEPost (r : Except Int (List Int × Nat × Bool × Bool)) (b : Option Addr) (n z : Nat) (b' : Option Addr) (n' z' : Nat) (w : World) (e : Ending) (w' : World) : Prop :=
  (∀ x, r = .error x → e = .returned (.tuple #[.slice none 0 0, .int .i64 0, .nilFunc, .nilFunc, .iface 46 (.int .i64 x)])) ∧
  (∀ s N k1 k2, r = .ok (s, N, k1, k2) → ∃ a c A1 B1, e = .returned (.tuple #[.slice a s.length c, .int .i64 (N : Nat), .func (.func (pickF k1)) #[] #[.pointer (some ⟨A1, 0, none⟩)], .func (.func (pickF k2)) #[] #[.pointer (some ⟨B1, 0, none⟩)], .nilIface]) ∧
    Row w' a s ∧ w'.cell? ⟨A1, 2, none⟩ = some (.slice b n z) ∧ w'.cell? ⟨B1, 2, none⟩ = some (.slice b' n' z')) ∧ Below w.heap.size w w'
theorem FitEPost.error {r : Except Int (List Int × Nat × Bool × Bool)} {b : Option Addr} {n z : Nat} {b' : Option Addr} {n' z' : Nat} {w w' : World} {e : Ending} {x : Int} (h : r = .error x)
    (he : e = .returned (.tuple #[.slice none 0 0, .int .i64 0, .nilFunc, .nilFunc, .iface 46 (.int .i64 x)])) (hb : Below w.heap.size w w') : FitEPost r b n z b' n' z' w e w' := by
  subst h; exact ⟨fun m hm => by cases hm; exact he, fun _ _ _ _ hx => (by cases hx), hb⟩
theorem FitEPost.ok {r : Except Int (List Int × Nat × Bool × Bool)} {b : Option Addr} {n z : Nat} {b' : Option Addr} {n' z' : Nat} {w w' : World} {e : Ending} {s : List Int} {N : Nat} {k1 k2 : Bool} {a : Option Addr} {c A1 B1 : Nat} (h : r = .ok (s, N, k1, k2))
    (he : e = .returned (.tuple #[.slice a s.length c, .int .i64 (N : Nat), .func (.func (pickF k1)) #[] #[.pointer (some ⟨A1, 0, none⟩)], .func (.func (pickF k2)) #[] #[.pointer (some ⟨B1, 0, none⟩)], .nilIface]))
    (h1 : Row w' a s) (h2 : w'.cell? ⟨A1, 2, none⟩ = some (.slice b n z)) (h3 : w'.cell? ⟨B1, 2, none⟩ = some (.slice b' n' z')) (hb : Below w.heap.size w w') : FitEPost r b n z b' n' z' w e w' := by
  subst h; exact ⟨fun m hm => (by cases hm), fun _ _ _ _ hx => by cases hx; exact ⟨a, c, A1, B1, he, h1, h2, h3⟩, hb⟩

set_option maxHeartbeats 1000000 in
theorem mkPlain_any (ch : Bool) (a b : Option Addr) (m c n z : Nat) (w : World) : Calls Tryz.prog 230 #[arrV ch a m c b n z] w fun e w' =>
    e = .returned (.func (.func (pickF false)) #[] #[.pointer (some ⟨w.heap.size, 0, none⟩)]) ∧ w'.cell? ⟨w.heap.size, 2, none⟩ = some (.slice b n z) ∧ w.heap.size < w'.heap.size ∧ Below w.heap.size w w' := by
  go_enter Tryz.func230, Tryz.ntmps230
  go_wp2
  go_ret
  exact ⟨rfl, by simp [go_sem], by simp, push (start w) _⟩
set_option maxHeartbeats 1000000 in
theorem mkSingle_any (ch : Bool) (a b : Option Addr) (m c n z : Nat) (w : World) : Calls Tryz.prog 232 #[arrV ch a m c b n z] w fun e w' =>
    e = .returned (.func (.func (pickF true)) #[] #[.pointer (some ⟨w.heap.size, 0, none⟩)]) ∧ w'.cell? ⟨w.heap.size, 2, none⟩ = some (.slice b n z) ∧ w.heap.size < w'.heap.size ∧ Below w.heap.size w w' := by
  go_enter Tryz.func232, Tryz.ntmps232
  go_wp2
  go_ret
  exact ⟨rfl, by simp [go_sem], by simp, push (start w) _⟩

theorem results_tmp5 {fn : Func} {t u v x y : Tmp} (h : fn.results = #[.tmp t, .tmp u, .tmp v, .tmp x, .tmp y]) (tmps : Array Value) (P : Program) (w : World) :
    (results fn tmps).run P w = .ok (.tuple #[tmps.getD t undef, tmps.getD u undef, tmps.getD v undef, tmps.getD x undef, tmps.getD y undef]) w := by
  simp [results, h]
theorem held6 {w w' : World} {A B : Nat} {a0 a1 a2 b0 b1 b2 : Value} (hb : Below w.heap.size w w')
    (h : (w.cell? ⟨A, 0, none⟩ = some a0 ∧ w.cell? ⟨A, 1, none⟩ = some a1 ∧ w.cell? ⟨A, 2, none⟩ = some a2) ∧ (w.cell? ⟨B, 0, none⟩ = some b0 ∧ w.cell? ⟨B, 1, none⟩ = some b1 ∧ w.cell? ⟨B, 2, none⟩ = some b2)) :
    (w'.cell? ⟨A, 0, none⟩ = some a0 ∧ w'.cell? ⟨A, 1, none⟩ = some a1 ∧ w'.cell? ⟨A, 2, none⟩ = some a2) ∧ (w'.cell? ⟨B, 0, none⟩ = some b0 ∧ w'.cell? ⟨B, 1, none⟩ = some b1 ∧ w'.cell? ⟨B, 2, none⟩ = some b2) := ⟨held3 hb h.1, held3 hb h.2⟩

set_option maxRecDepth 20000 in
set_option maxHeartbeats 8000000 in
theorem fitE_any (ch ch' : Bool) (a b a' b' : Option Addr) (s d s' d' : List Int) (m c n z m' c' n' z' : Nat) (w : World) (hs : Row w a s) (hs' : Row w a' s') (ls : s.length ≤ 6) (ls' : s'.length ≤ 6) (ld : d.length ≤ 4096) (ld' : d'.length ≤ 4096) (em : m = s.length) (en : n = d.length) (em' : m' = s'.length) (en' : n' = d'.length) :
    Calls Tryz.prog 209 #[arrV ch a m c b n z, arrV ch' a' m' c' b' n' z'] w fun e w' => FitEPost (M.fitE ⟨ch, s, d⟩ ⟨ch', s', d'⟩) b n z b' n' z' w e w' := by
  subst em
  subst en
  subst em'
  subst en'
  have E := ((((Env.start w).addRow hs').addRow hs).box ch a s.length c b d.length z).box ch' a' s'.length c' b' d'.length z'
  rw [World.size_alloc] at E
  have S0 : ((w.alloc (.cells #[.bool ch, .slice a s.length c, .slice b d.length z] 24)).alloc (.cells #[.bool ch', .slice a' s'.length c', .slice b' d'.length z'] 24)).drew.cell? ⟨w.heap.size, 0, none⟩ = some (.bool ch) ∧ ((w.alloc (.cells #[.bool ch, .slice a s.length c, .slice b d.length z] 24)).alloc (.cells #[.bool ch', .slice a' s'.length c', .slice b' d'.length z'] 24)).drew.cell? ⟨w.heap.size, 1, none⟩ = some (.slice a s.length c) ∧ ((w.alloc (.cells #[.bool ch, .slice a s.length c, .slice b d.length z] 24)).alloc (.cells #[.bool ch', .slice a' s'.length c', .slice b' d'.length z'] 24)).drew.cell? ⟨w.heap.size, 2, none⟩ = some (.slice b d.length z) := (E.getBox 1 rfl).1
  have S1 : ((w.alloc (.cells #[.bool ch, .slice a s.length c, .slice b d.length z] 24)).alloc (.cells #[.bool ch', .slice a' s'.length c', .slice b' d'.length z'] 24)).drew.cell? ⟨w.heap.size + 1, 0, none⟩ = some (.bool ch') ∧ ((w.alloc (.cells #[.bool ch, .slice a s.length c, .slice b d.length z] 24)).alloc (.cells #[.bool ch', .slice a' s'.length c', .slice b' d'.length z'] 24)).drew.cell? ⟨w.heap.size + 1, 1, none⟩ = some (.slice a' s'.length c') ∧ ((w.alloc (.cells #[.bool ch, .slice a s.length c, .slice b d.length z] 24)).alloc (.cells #[.bool ch', .slice a' s'.length c', .slice b' d'.length z'] 24)).drew.cell? ⟨w.heap.size + 1, 2, none⟩ = some (.slice b' d'.length z') := (E.getBox 0 rfl).1
  obtain ⟨⟨u0, u1, u2⟩, -, -, -⟩ := E.getBox 1 rfl
  obtain ⟨⟨t0, t1, t2⟩, -, -, -⟩ := E.getBox 0 rfl
  have SS := And.intro S0 S1
  clear S0 S1
  by_cases h1 : s = []
  · have hr := Lib.hid (show M.fitE ⟨ch, s, d⟩ ⟨ch', s', d'⟩ = .ok (s', d'.length, true, false) from if_pos h1)
    have e1 : (((s.length : Nat) : Int) == 0) = true := by subst h1; rfl
    replace h1 := Lib.hid h1
    go_enter Tryz.func209, Tryz.ntmps209
    go_wp2_with fail
    go_region_held3 (fun w' => (w'.cell? ⟨w.heap.size, 0, none⟩ = some (.bool ch) ∧ w'.cell? ⟨w.heap.size, 1, none⟩ = some (.slice a s.length c) ∧ w'.cell? ⟨w.heap.size, 2, none⟩ = some (.slice b d.length z)) ∧ (w'.cell? ⟨w.heap.size + 1, 0, none⟩ = some (.bool ch') ∧ w'.cell? ⟨w.heap.size + 1, 1, none⟩ = some (.slice a' s'.length c') ∧ w'.cell? ⟨w.heap.size + 1, 2, none⟩ = some (.slice b' d'.length z')))
      (first | assumption | (exact held6 hb5 (by assumption)) | (exact held6 hb6 (by assumption)) | go_keep)
      (first
        | (go_at_call 232; refine (mkSingle_any _ _ _ _ _ _ _ _).mono ?_; rintro e w5 ⟨rfl, q5, l5, hb5⟩)
        | (go_at_call 230; refine (mkPlain_any _ _ _ _ _ _ _ _).mono ?_; rintro e w6 ⟨rfl, q6, l6, hb6⟩))
    go_wp2
    (try simp only [Exit.inBlock, Exit.then]); refine bodyPost_ret (results_tmp5 rfl _ _ _) rfl ?_
    exact .ok hr.out rfl (E.getRow 3 rfl |>.drewN 1 |>.below hb5 |>.below hb6) ((hb6.cell (by simpa [go_sem] using l5)).trans (by simpa [go_sem] using q5)) q6 (below_trans (below_trans (below_drewN E.bel 1) hb5) hb6)
  have e1 : (((s.length : Nat) : Int) == 0) = false := by rw [beq_eq_false_iff_ne]; have := List.length_pos_iff.2 h1; omega
  by_cases h2 : s' = []
  · have hr := Lib.hid (show M.fitE ⟨ch, s, d⟩ ⟨ch', s', d'⟩ = .ok (s, d.length, false, true) from (if_neg h1).trans (if_pos h2))
    have e2 : (((s'.length : Nat) : Int) == 0) = true := by subst h2; rfl
    replace h1 := Lib.hid h1
    replace h2 := Lib.hid h2
    go_enter Tryz.func209, Tryz.ntmps209
    go_wp2_with fail
    go_region_held3 (fun w' => (w'.cell? ⟨w.heap.size, 0, none⟩ = some (.bool ch) ∧ w'.cell? ⟨w.heap.size, 1, none⟩ = some (.slice a s.length c) ∧ w'.cell? ⟨w.heap.size, 2, none⟩ = some (.slice b d.length z)) ∧ (w'.cell? ⟨w.heap.size + 1, 0, none⟩ = some (.bool ch') ∧ w'.cell? ⟨w.heap.size + 1, 1, none⟩ = some (.slice a' s'.length c') ∧ w'.cell? ⟨w.heap.size + 1, 2, none⟩ = some (.slice b' d'.length z')))
      (first | assumption | (exact held6 hb5 (by assumption)) | (exact held6 hb6 (by assumption)) | go_keep)
      (first
        | (go_at_call 230; refine (mkPlain_any _ _ _ _ _ _ _ _).mono ?_; rintro e w5 ⟨rfl, q5, l5, hb5⟩)
        | (go_at_call 232; refine (mkSingle_any _ _ _ _ _ _ _ _).mono ?_; rintro e w6 ⟨rfl, q6, l6, hb6⟩))
    go_wp2
    (try simp only [Exit.inBlock, Exit.then]); refine bodyPost_ret (results_tmp5 rfl _ _ _) rfl ?_
    exact .ok hr.out rfl (E.getRow 2 rfl |>.drewN 1 |>.below hb5 |>.below hb6) ((hb6.cell (by simpa [go_sem] using l5)).trans (by simpa [go_sem] using q5)) q6 (below_trans (below_trans (below_drewN E.bel 1) hb5) hb6)
  have e2 : (((s'.length : Nat) : Int) == 0) = false := by rw [beq_eq_false_iff_ne]; have := List.length_pos_iff.2 h2; omega
  by_cases h3 : s.length = s'.length
  case neg =>
    have hr := Lib.hid (show M.fitE ⟨ch, s, d⟩ ⟨ch', s', d'⟩ = .error 3 from (if_neg h1).trans ((if_neg h2).trans (if_pos h3)))
    have e3 : (((s.length : Nat) : Int) != ((s'.length : Nat) : Int)) = true := by rw [bne_iff_ne]; omega
    have hbel := E.bel
    replace h1 := Lib.hid h1
    replace h2 := Lib.hid h2
    replace h3 := Lib.hid h3
    clear E SS
    go_enter Tryz.func209, Tryz.ntmps209
    go_wp2
    (try simp only [Exit.inBlock, Exit.then]); refine bodyPost_ret (results_tmp5 rfl _ _ _) rfl ?_
    exact .error hr.out rfl hbel
  have e3 : (((s.length : Nat) : Int) != ((s'.length : Nat) : Int)) = false := by rw [bne_eq_false_iff_eq]; omega
  have heq := fun w h1 h2 => equal_any a a' s s' _ _ c c' w h1 h2 (by unfold maxLen; omega) (by unfold maxLen; omega) rfl rfl
  by_cases h4 : s = s'
  case neg =>
    have hr := Lib.hid (show M.fitE ⟨ch, s, d⟩ ⟨ch', s', d'⟩ = .error 4 from (if_neg h1).trans ((if_neg h2).trans ((if_neg (fun k => k h3)).trans (if_pos h4))))
    rw [decide_eq_false h4] at heq
    replace heq := Lib.hid heq
    replace h1 := Lib.hid h1
    replace h2 := Lib.hid h2
    replace h3 := Lib.hid h3
    replace h4 := Lib.hid h4
    clear SS
    go_enter Tryz.func209, Tryz.ntmps209
    go_wp2_with fail
    refine (heq.out _ (E.getRow 2 rfl) (E.getRow 3 rfl)).mono ?_
    rintro e W9 ⟨rfl, n9, hW9⟩
    have hbel := below_drewN E.bel n9
    rw [← hW9] at hbel
    replace hW9 := Lib.hid hW9
    go_wp2
    (try simp only [Exit.inBlock, Exit.then]); refine bodyPost_ret (results_tmp5 rfl _ _ _) rfl ?_
    exact .error hr.out rfl hbel
  have hr := Lib.hid (show M.fitE ⟨ch, s, d⟩ ⟨ch', s', d'⟩ = .ok (s, d.length, false, false) from (if_neg h1).trans ((if_neg h2).trans ((if_neg (fun k => k h3)).trans (if_neg (fun k => k h4)))))
  rw [decide_eq_true h4] at heq
  replace heq := Lib.hid heq
  replace h1 := Lib.hid h1
  replace h2 := Lib.hid h2
  replace h3 := Lib.hid h3
  replace h4 := Lib.hid h4
  clear SS
  go_enter Tryz.func209, Tryz.ntmps209
  go_wp2_with fail
  refine (heq.out _ (E.getRow 2 rfl) (E.getRow 3 rfl)).mono ?_
  rintro e W9 ⟨rfl, n9, hW9⟩
  have E9 := E.drew n9
  rw [← hW9] at E9
  replace hW9 := Lib.hid hW9
  clear u0 u1 u2 t0 t1 t2
  have S0 : W9.drew.cell? ⟨w.heap.size, 0, none⟩ = some (.bool ch) ∧ W9.drew.cell? ⟨w.heap.size, 1, none⟩ = some (.slice a s.length c) ∧ W9.drew.cell? ⟨w.heap.size, 2, none⟩ = some (.slice b d.length z) := (E9.getBox 1 rfl).1
  have S1 : W9.drew.cell? ⟨w.heap.size + 1, 0, none⟩ = some (.bool ch') ∧ W9.drew.cell? ⟨w.heap.size + 1, 1, none⟩ = some (.slice a' s'.length c') ∧ W9.drew.cell? ⟨w.heap.size + 1, 2, none⟩ = some (.slice b' d'.length z') := (E9.getBox 0 rfl).1
  have SS := And.intro S0 S1
  clear S0 S1
  go_wp2_with fail
  go_region_held3 (fun w' => (w'.cell? ⟨w.heap.size, 0, none⟩ = some (.bool ch) ∧ w'.cell? ⟨w.heap.size, 1, none⟩ = some (.slice a s.length c) ∧ w'.cell? ⟨w.heap.size, 2, none⟩ = some (.slice b d.length z)) ∧ (w'.cell? ⟨w.heap.size + 1, 0, none⟩ = some (.bool ch') ∧ w'.cell? ⟨w.heap.size + 1, 1, none⟩ = some (.slice a' s'.length c') ∧ w'.cell? ⟨w.heap.size + 1, 2, none⟩ = some (.slice b' d'.length z')))
    (first | assumption | (exact held6 hb5 (by assumption)) | (exact held6 hb6 (by assumption)) | go_keep)
    (first
      | (go_at_call_of 230 (z : Nat); refine (mkPlain_any _ _ _ _ _ _ _ _).mono ?_; rintro e w5 ⟨rfl, q5, l5, hb5⟩)
      | (go_at_call_of 230 (z' : Nat); refine (mkPlain_any _ _ _ _ _ _ _ _).mono ?_; rintro e w6 ⟨rfl, q6, l6, hb6⟩))
  go_wp2
  (try simp only [Exit.inBlock, Exit.then]); refine bodyPost_ret (results_tmp5 rfl _ _ _) rfl ?_
  exact .ok hr.out rfl (E9.getRow 2 rfl |>.drewN 1 |>.below hb5 |>.below hb6) ((hb6.cell (by exact l5)).trans q5) q6 (below_trans (below_trans (below_drewN E9.bel 1) hb5) hb6)

end Go.Proofs.YtaplaoelamnoiaaGreatDoor
