/- Texts that lie in one file: what is plain, rows, boxes, squares, and what is known of a world. No condition. -/
import Derived.Test.YtaplaoelamnoiaaGreatDoorBg27
import Derived.Test.YtaplaoelamnoiaaGreatDoorBg28
import Derived.Test.YtaplaoelamnoiaaGreatDoorBg19
import Derived.Test.YtaplaoelamnoiaaGreatDoorTrFlatPick
import Derived.Test.YtaplaoelamnoiaaGreatDoorTcPick
import Derived.Test.YtaplaoelamnoiaaGreatDoorBg32
import Derived.Test.YtaplaoelamnoiaaGreatDoorBg16
import Derived.Test.YtaplaoelamnoiaaGreatDoorBg33
import Derived.Test.YtaplaoelamnoiaaGreatDoorPrGreat
import Derived.Test.YtaplaoelamnoiaaGreatDoorBg18
import Derived.Test.YtaplaoelamnoiaaGreatDoorBg11
import Derived.Test.YtaplaoelamnoiaaGreatDoorBg20
import Derived.Test.YtaplaoelamnoiaaGreatDoorBg00
import Derived.Test.YtaplaoelamnoiaaGreatDoorBg02
import Derived.Test.YtaplaoelamnoiaaGreatDoorBg04
import Derived.Test.YtaplaoelamnoiaaGreatDoorBg22
/- The greatest and the least of a list, folded; and where they lie in its order. No program in sight, no condition. -/
namespace Go.Proofs.YtaplaoelamnoiaaGreatDoor
open Go.RowKit

theorem two_max (a b : Int) : M.two 6 a b = .ok (if a < b then b else a) := rfl
theorem two_min (a b : Int) : M.two 7 a b = .ok (if b < a then b else a) := rfl
theorem foldL_single (f x : Int) : M.foldL f [x] = .ok x := rfl
theorem foldL_more (f x y : Int) (r : List Int) : M.foldL f (x :: y :: r) = match M.foldL f (y :: r) with | .ok n => M.two f x n | .error e => .error e := rfl
theorem fold_max : ∀ d : List Int, d ≠ [] → ∃ v, M.foldL 6 d = .ok v ∧ v ∈ d ∧ ∀ u ∈ d, u ≤ v
  | [], h => absurd rfl h
  | [x], _ => ⟨x, rfl, by simp, by simp⟩
  | x :: y :: r, _ => by
    obtain ⟨v, h1, h2, h3⟩ := fold_max (y :: r) (by simp)
    rw [foldL_more, h1]
    refine ⟨if x < v then v else x, two_max x v, ?_, fun u hu => ?_⟩
    · split
      · exact List.mem_cons_of_mem _ h2
      · exact List.mem_cons_self
    · rcases List.mem_cons.1 hu with rfl | hu
      · split <;> omega
      · have := h3 u hu
        split <;> omega
theorem fold_min : ∀ d : List Int, d ≠ [] → ∃ v, M.foldL 7 d = .ok v ∧ v ∈ d ∧ ∀ u ∈ d, v ≤ u
  | [], h => absurd rfl h
  | [x], _ => ⟨x, rfl, by simp, by simp⟩
  | x :: y :: r, _ => by
    obtain ⟨v, h1, h2, h3⟩ := fold_min (y :: r) (by simp)
    rw [foldL_more, h1]
    refine ⟨if v < x then v else x, two_min x v, ?_, fun u hu => ?_⟩
    · split
      · exact List.mem_cons_of_mem _ h2
      · exact List.mem_cons_self
    · rcases List.mem_cons.1 hu with rfl | hu
      · split <;> omega
      · have := h3 u hu
        split <;> omega
theorem mem_getD {d : List Int} {i : Nat} (h : i < d.length) : d.getD i 0 ∈ d := by
  rw [List.getD_eq_getElem?_getD, List.getElem?_eq_getElem h]
  exact List.getElem_mem h
theorem getD_mem {d : List Int} {v : Int} (h : v ∈ d) : ∃ i, i < d.length ∧ d.getD i 0 = v := by
  obtain ⟨i, hi, e⟩ := List.getElem_of_mem h
  refine ⟨i, hi, ?_⟩
  rw [List.getD_eq_getElem?_getD, List.getElem?_eq_getElem hi]
  exact e
/-- The greatest is where the order ends. -/
theorem max_last {d : List Int} (h : d ≠ []) : ∃ i : Nat, i < d.length ∧ (gradeL d).getD (d.length - 1) 0 = (i : Int) ∧ M.foldL 6 d = .ok (d.getD i 0) := by
  have h0 : 0 < d.length := List.length_pos_iff.2 h
  obtain ⟨i, hi, e, h1, -⟩ := grade_bounds (d := d) (p := d.length - 1) (by omega)
  obtain ⟨v, hv, hm, hb⟩ := fold_max d h
  obtain ⟨j, hj, ej⟩ := getD_mem hm
  have h2 := h1 (by omega) j hj
  have h3 := hb _ (mem_getD hi)
  have : v = d.getD i 0 := by omega
  exact ⟨i, hi, e, by rw [hv, this]⟩
/-- The least is where it begins. -/
theorem min_first {d : List Int} (h : d ≠ []) : ∃ i : Nat, i < d.length ∧ (gradeL d).getD 0 0 = (i : Int) ∧ M.foldL 7 d = .ok (d.getD i 0) := by
  have h0 : 0 < d.length := List.length_pos_iff.2 h
  obtain ⟨i, hi, e, -, h1⟩ := grade_bounds (d := d) (p := 0) h0
  obtain ⟨v, hv, hm, hb⟩ := fold_min d h
  obtain ⟨j, hj, ej⟩ := getD_mem hm
  have h2 := h1 rfl j hj
  have h3 := hb _ (mem_getD hi)
  have : v = d.getD i 0 := by omega
  exact ⟨i, hi, e, by rw [hv, this]⟩
end Go.Proofs.YtaplaoelamnoiaaGreatDoor

/- The lines of the law TopGreatest are as the calls want them. No condition. -/
namespace Go.Proofs.YtaplaoelamnoiaaGreatDoor
open Go.RowKit

theorem line_g1 : LineOk M.g1S M.g1T M.g1E where
  size := by decide
  lex := g1_lex
  good := by
    unfold M.g1T
    repeat' (first | exact List.forall_mem_nil _ | refine List.forall_mem_cons.2 ⟨?_, ?_⟩)
    all_goals first
      | exact .inr (.inr (.inl ⟨rfl, by decide, by decide, rfl, rfl⟩))
      | exact .inl ⟨rfl, rfl, rfl, by decide, by decide, of_decide_eq_true (by kernel_rfl)⟩
      | exact .inr (.inl ⟨rfl, rfl, rfl, by exact name_v⟩)
      | exact .inr (.inr (.inr ⟨by decide, by decide, rfl, rfl, rfl⟩))
  len := by decide
  len1 := by decide
  noset := by decide
  tree := g1_tree
  flat := flat_few _ (by simp [M.g1E, Ex.few])
  f400 := by decide
  wex := wex_good _ (by simp [M.g1E, Ex.good, name_v])
  steps := by decide
theorem line_g2 : LineOk M.g2S M.g2T M.g2E where
  size := by decide
  lex := g2_lex
  good := by
    unfold M.g2T
    repeat' (first | exact List.forall_mem_nil _ | refine List.forall_mem_cons.2 ⟨?_, ?_⟩)
    all_goals first
      | exact .inr (.inr (.inl ⟨rfl, by decide, by decide, rfl, rfl⟩))
      | exact .inl ⟨rfl, rfl, rfl, by decide, by decide, of_decide_eq_true (by kernel_rfl)⟩
      | exact .inr (.inl ⟨rfl, rfl, rfl, by exact name_v⟩)
      | exact .inr (.inr (.inr ⟨by decide, by decide, rfl, rfl, rfl⟩))
  len := by decide
  len1 := by decide
  noset := by decide
  tree := g2_tree
  flat := flat_few _ (by simp [M.g2E, Ex.few])
  f400 := by decide
  wex := wex_good _ (by simp [M.g2E, Ex.good, name_v])
  steps := by decide
theorem line_g3 : LineOk M.g3S M.g3T M.g3E where
  size := by decide
  lex := g3_lex
  good := by
    unfold M.g3T
    repeat' (first | exact List.forall_mem_nil _ | refine List.forall_mem_cons.2 ⟨?_, ?_⟩)
    all_goals first
      | exact .inr (.inr (.inl ⟨rfl, by decide, by decide, rfl, rfl⟩))
      | exact .inl ⟨rfl, rfl, rfl, by decide, by decide, of_decide_eq_true (by kernel_rfl)⟩
      | exact .inr (.inl ⟨rfl, rfl, rfl, by exact name_v⟩)
      | exact .inr (.inr (.inr ⟨by decide, by decide, rfl, rfl, rfl⟩))
  len := by decide
  len1 := by decide
  noset := by decide
  tree := g3_tree
  flat := flat_few _ (by simp [M.g3E, Ex.few])
  f400 := by decide
  wex := wex_good _ (by simp [M.g3E, Ex.good, name_v])
  steps := by decide
theorem line_g4 : LineOk M.g4S M.g4T M.g4E where
  size := by decide
  lex := g4_lex
  good := by
    unfold M.g4T
    repeat' (first | exact List.forall_mem_nil _ | refine List.forall_mem_cons.2 ⟨?_, ?_⟩)
    all_goals first
      | exact .inr (.inr (.inl ⟨rfl, by decide, by decide, rfl, rfl⟩))
      | exact .inl ⟨rfl, rfl, rfl, by decide, by decide, of_decide_eq_true (by kernel_rfl)⟩
      | exact .inr (.inl ⟨rfl, rfl, rfl, by exact name_v⟩)
      | exact .inr (.inr (.inr ⟨by decide, by decide, rfl, rfl, rfl⟩))
  len := by decide
  len1 := by decide
  noset := by decide
  tree := g4_tree
  flat := flat_few _ (by simp [M.g4E, Ex.few])
  f400 := by decide
  wex := wex_good _ (by simp [M.g4E, Ex.good, name_v])
  steps := by decide
theorem line_g5 : LineOk M.g5S M.g5T M.g5E where
  size := by decide
  lex := g5_lex
  good := by
    unfold M.g5T
    repeat' (first | exact List.forall_mem_nil _ | refine List.forall_mem_cons.2 ⟨?_, ?_⟩)
    all_goals first
      | exact .inr (.inr (.inl ⟨rfl, by decide, by decide, rfl, rfl⟩))
      | exact .inl ⟨rfl, rfl, rfl, by decide, by decide, of_decide_eq_true (by kernel_rfl)⟩
      | exact .inr (.inl ⟨rfl, rfl, rfl, by exact name_v⟩)
      | exact .inr (.inr (.inr ⟨by decide, by decide, rfl, rfl, rfl⟩))
  len := by decide
  len1 := by decide
  noset := by decide
  tree := g5_tree
  flat := flat_few _ (by simp [M.g5E, Ex.few])
  f400 := by decide
  wex := wex_good _ (by simp [M.g5E, Ex.good, name_v])
  steps := by decide
end Go.Proofs.YtaplaoelamnoiaaGreatDoor

/- The worth of the five lines of the law TopGreatest, and its name. Condition: a sound list. -/
namespace Go.Proofs.YtaplaoelamnoiaaGreatDoor
open Go.RowKit

set_option maxRecDepth 20000 in
set_option maxHeartbeats 4000000 in
theorem known2_minus (w : World) : Calls Tryz.prog 106 #[.agg #[.int .i64 0, .int .i64 2, .int .i64 0]] w fun en w' => en = .returned (.bool true) ∧ Below w.heap.size w w' := by
  go_enter Tryz.func106, Tryz.ntmps106
  go_wp2
  go_ret
  exact ⟨rfl, push (start w) _⟩
theorem flaw_sc (v : Int) : M.flaw false [] [v] = 0 := by simp [M.flaw, M.count, M.badLen, M.mulUp]
theorem prim_minus (a b : Int) (ha : I64 a) (hb : I64 b) (h : I64 (a - b)) : Two1 0 2 0 ⟨false, [], [a]⟩ ⟨false, [], [b]⟩ ⟨false, [], [a - b]⟩ := by
  have h1 : All64 [a] := fun v hv => by simp at hv; subst hv; exact ha
  have h2 : All64 [b] := fun v hv => by simp at hv; subst hv; exact hb
  have hz : M.each2 2 ⟨false, [], [a]⟩ ⟨false, [], [b]⟩ = .ok ⟨false, [], [a - b]⟩ := by
    have k := each2_num (f := 2) (F := fun a b => wrap64 (a - b)) rfl (fun _ _ => rfl) (flaw_sc a) (flaw_sc b)
    rw [k]
    show Except.ok (⟨false, [], [wrap64 (a - b)]⟩ : Arr) = _
    rw [show wrap64 (a - b) = a - b by unfold I64 at h; unfold wrap64; omega]
  exact two_both 2 _ _ _ (flaw_sc a) (flaw_sc b) rfl rfl rfl rfl rfl rfl rfl rfl known2_minus fun W p c q k a' c' b' k' r1 r2 r3 r4 => both_each 2 _ _ _ (flaw_sc a) (flaw_sc b) h1 h2 hz rfl rfl rfl rfl rfl rfl rfl W p c q k a' c' b' k' r1 r2 r3 r4
/-- The law's name. -/
abbrev gvWs (d : List Int) : List Bd := [⟨⟨#[118]⟩, ⟨false, [(d.length : Int)], d⟩⟩]
theorem gvWs_ok {d : List Int} (hf : M.flaw false [(d.length : Int)] d = 0) : WsOk (gvWs d) := wsOk_one1 _ name_v (by show (1 : Nat) ≤ 100; decide) hf
theorem gv_env (d : List Int) : envOf (gvWs d) ⟨#[118]⟩ = some ⟨false, [(d.length : Int)], d⟩ := by simp [envOf, gvWs]
theorem g1_val : ValOk (envOf []) M.g1E ⟨false, [], [9]⟩ :=
  value_one _ 1 6 0 _ _ (acted_one _ 1 6 0 _ (numsA [3, 9, 4]) _ (value_nums _ [3, 9, 4] (by simp) (by simp)) (by decide) (prim_over6 [3, 9, 4] 9 (list_flaw' (by simp)) (fun v hv => by simp at hv; unfold I64; omega) (by simp) (by kernel_rfl)))
section
variable {d : List Int} (hf : M.flaw false [(d.length : Int)] d = 0) (h64 : All64 d) (h0 : 0 < d.length)
include hf h64 h0
theorem g2_val {v : Int} (hv : M.foldL 6 d = .ok v) : ValOk (envOf (gvWs d)) M.g2E ⟨false, [], [v]⟩ :=
  value_one _ 1 6 0 _ _ (acted_one _ 1 6 0 _ _ _ (value_name _ _ _ (gv_env d)) (by decide) (prim_over6 d v hf h64 h0 hv))
theorem g4_val {v : Int} (hv : M.foldL 7 d = .ok v) : ValOk (envOf (gvWs d)) M.g4E ⟨false, [], [v]⟩ :=
  value_one _ 1 7 0 _ _ (acted_one _ 1 7 0 _ _ _ (value_name _ _ _ (gv_env d)) (by decide) (prim_over7 d v hf h64 h0 hv))
omit h64 in
theorem up_val : ValOk (envOf (gvWs d)) (.one 0 26 0 (.name ⟨#[118]⟩)) ⟨false, [(d.length : Int)], gradeL d⟩ :=
  value_one _ 0 26 0 _ _ (acted_oneC _ _ 0 26 0 _ _ _ (value_nameC _ _ _ (gv_env d)) (by decide) (prim_up d hf h0))
omit h64 in
theorem at_val {e : Ex} {p i : Nat} (hp : p < d.length) (hi : i < d.length) (he : ValOk (envOf (gvWs d)) e ⟨false, [], [(p : Int)]⟩) (hpl : e.plain) (hg : (gradeL d).getD p 0 = (i : Int)) :
    ValOk (envOf (gvWs d)) (.pick (.name ⟨#[118]⟩) (.pick (.one 0 26 0 (.name ⟨#[118]⟩)) e)) ⟨false, [], [d.getD i 0]⟩ := by
  have hl := gradeL_length d
  have h4 : d.length ≤ 4096 := (flaw_len hf).1
  have k1 := pick_list (gradeL d) d.length p hl.symm hp (list_flaw' (by omega))
  rw [hl, hg] at k1
  have v1 := val_pick _ _ _ _ _ _ (up_val hf h0) he (by simp [Ex.plain]) k1
  exact val_pick _ _ _ _ _ _ (value_name _ _ _ (gv_env d)) v1 (by simp [Ex.plain]) (pick_list d d.length i rfl hi hf)
omit h64 in
theorem g5_val {i : Nat} (hi : i < d.length) (hg : (gradeL d).getD 0 0 = (i : Int)) : ValOk (envOf (gvWs d)) M.g5E ⟨false, [], [d.getD i 0]⟩ :=
  at_val hf h0 h0 hi (e := .nums [0]) (value_nums _ [0] (by simp) (by simp)) trivial hg
omit h64 in
theorem last_val : ValOk (envOf (gvWs d)) (.two (.one 1 1 0 (.one 0 18 0 (.name ⟨#[118]⟩))) 0 2 0 (.nums [1])) ⟨false, [], [((d.length - 1 : Nat) : Int)]⟩ := by
  have h4 : d.length ≤ 4096 := (flaw_len hf).1
  have k1 := value_one _ 0 18 0 _ _ (acted_one _ 0 18 0 _ _ _ (value_name _ _ _ (gv_env d)) (by decide) (prim_rho d hf))
  have k2 := value_one _ 1 1 0 _ _ (acted_one _ 1 1 0 _ _ _ k1 (by decide) (prim_over1 [(d.length : Int)] (d.length : Int) (list_flaw' (by simp)) (fun v hv => by simp at hv; subst hv; unfold I64; omega) (by simp) rfl))
  have k3 := value_two _ _ 0 2 0 _ _ (acted_two _ 0 2 0 _ _ _ _ _ k2 (value_nums _ [1] (by simp) (by simp)) (by simp [Ex.plain]) (by decide) (prim_minus (d.length : Int) 1 (by unfold I64; omega) (by unfold I64; omega) (by unfold I64; omega)))
  rw [show ((d.length - 1 : Nat) : Int) = (d.length : Int) - 1 by omega]
  exact k3
omit h64 in
theorem g3_val {i : Nat} (hi : i < d.length) (hg : (gradeL d).getD (d.length - 1) 0 = (i : Int)) : ValOk (envOf (gvWs d)) M.g3E ⟨false, [], [d.getD i 0]⟩ :=
  at_val hf h0 (by omega) hi (last_val hf h0) (by simp [Ex.plain]) hg
end
end Go.Proofs.YtaplaoelamnoiaaGreatDoor

/- The calls num and Within that the laws of the whole use. No condition. -/
namespace Go.Proofs.YtaplaoelamnoiaaGreatDoor
open Go.RowKit

set_option maxRecDepth 20000 in
set_option maxHeartbeats 4000000 in
theorem num_any (n : Int) (w : World) :
    Calls Tryz.prog 15 #[.int .i64 n] w fun en w' => ∃ g : Nat, en = .returned (arrV false none 0 0 (some ⟨g, 0, none⟩) 1 1) ∧ w.heap.size ≤ g ∧ Row w' (some ⟨g, 0, none⟩) [n] ∧ Below w.heap.size w w' := by
  go_enter Tryz.func15, Tryz.ntmps15
  go_wp2
  have hb := push (push (start w) (.cells #[.bool false, .slice none 0 0, .slice (some ⟨w.heap.size + 1, 0, none⟩) 1 1] 24)) (.cells #[.int .i64 n] 3)
  refine bodyPost_ret (v := arrV false none 0 0 (some ⟨w.heap.size + 1, 0, none⟩) 1 1) (by simp [results, Tryz.results15, go_sem, arrV]) rfl ?_
  exact ⟨w.heap.size + 1, rfl, by omega, row_one (by simp [go_sem]), hb⟩

set_option maxRecDepth 20000 in
set_option maxHeartbeats 4000000 in
theorem withinS_any (n lo hi : Int) (w : World) :
    Calls Tryz.prog 14 #[.int .i64 n, .int .i64 lo, .int .i64 hi] w fun en w' => en = .returned (.bool (decide (lo ≤ n) && decide (n ≤ hi))) ∧ w' = w := by
  cases h1 : decide (lo ≤ n)
  · go_enter Tryz.func14, Tryz.ntmps14
    go_wp2
    go_ret
    exact ⟨rfl, rfl⟩
  · go_enter Tryz.func14, Tryz.ntmps14
    go_wp2
    go_ret
    exact ⟨rfl, rfl⟩
end Go.Proofs.YtaplaoelamnoiaaGreatDoor

/- The walk of the law TopGreatest: it returns true at any array. Condition: the library's tables are laid. -/
namespace Go.Proofs.YtaplaoelamnoiaaGreatDoor
open Go.RowKit

set_option maxRecDepth 20000 in
set_option maxHeartbeats 4000000 in
theorem list_any (ch : Bool) (a b : Option Addr) (s d : List Int) (c k : Nat) (w : World) (hs : Row w a s) (hd : Row w b d) (ls : s.length ≤ maxLen) (ld : d.length ≤ maxLen) :
    Calls Tryz.prog 16 #[arrV ch a s.length c b d.length k] w fun e w' => e = .returned (.bool (decide (M.flaw ch s d = 0) && decide (s.length = 1))) ∧ Below w.heap.size w w' := by
  have E := (((Env.start w).addRow hd).addRow hs).box ch a s.length c b d.length k
  obtain ⟨W, hW⟩ : ∃ W : World, W = w.alloc (.cells #[.bool ch, .slice a s.length c, .slice b d.length k] 24) := ⟨_, rfl⟩
  rw [← hW] at E
  have kc := fun W h1 h2 => check_any ch a b s d s.length c d.length k W h1 h2 ls ld rfl rfl
  have hW' := Lib.hid hW.symm
  replace hW := Lib.hid hW
  have h1 : (((s.length : Nat) : Int) == 1) = decide (s.length = 1) := by
    rw [Bool.eq_iff_iff, beq_iff_eq, decide_eq_true_eq]
    omega
  clear hs hd ls ld
  by_cases hx : M.flaw ch s d = 0
  case pos =>
    rw [decide_eq_true hx, Bool.true_and]
    rw [hx, errV_zero] at kc
    generalize decide (s.length = 1) = r1 at *
    generalize s.length = m at *
    generalize d.length = n at *
    replace hx := Lib.hid hx
    replace kc := Lib.hid kc
    replace E := Lib.hid E
    go_enter Tryz.func16, Tryz.ntmps16
    go_wp2_with fail
    rw [hW'.out]
    refine (kc.out W (E.out.getRow 1 rfl) (E.out.getRow 2 rfl)).mono ?_
    rintro e v1 ⟨rfl, hb⟩
    replace E := E.out.step hb
    clear hb
    obtain ⟨⟨u0, u1, u2⟩, -⟩ := E.getBox 0 rfl
    have hb := Lib.hid E.bel
    clear E
    go_wp2
    go_ret
    exact ⟨rfl, hb.out⟩
  case neg =>
    rw [decide_eq_false hx, Bool.false_and]
    rw [errV_ne hx] at kc
    generalize decide (s.length = 1) = r1 at *
    generalize M.flaw ch s d = nn at *
    generalize s.length = m at *
    generalize d.length = n at *
    replace hx := Lib.hid hx
    replace kc := Lib.hid kc
    replace E := Lib.hid E
    go_enter Tryz.func16, Tryz.ntmps16
    go_wp2_with fail
    rw [hW'.out]
    refine (kc.out W (E.out.getRow 1 rfl) (E.out.getRow 2 rfl)).mono ?_
    rintro e v1 ⟨rfl, hb⟩
    replace E := E.out.step hb
    clear hb
    obtain ⟨⟨u0, u1, u2⟩, -⟩ := E.getBox 0 rfl
    have hb := Lib.hid E.bel
    clear E
    go_wp2
    go_ret
    exact ⟨rfl, hb.out⟩
theorem list_shape {ch : Bool} {s d : List Int} (hf : M.flaw ch s d = 0) (h1 : s.length = 1) : s = [(d.length : Int)] := by
  obtain ⟨v, rfl⟩ := List.length_eq_one_iff.1 h1
  have hc := (flaw_ok hf).1
  unfold M.count at hc
  rw [if_neg (by simp)] at hc
  split at hc
  · cases hc
  · split at hc
    · rename_i h0
      simp at h0
      injection hc with hc
      rw [← hc, h0]
    · unfold M.mulUp at hc
      split at hc
      · cases hc
      · unfold M.mulUp at hc
        injection hc with hc
        rw [← hc, Int.one_mul]
theorem fact_g1 (W : World) (hT : Tz W) (h8 : 8 ≤ W.heap.size) (b : Option Addr) (k : Nat) (r2 : Row W b [9]) :
    Calls Tryz.prog 7 #[.slice none 0 0, .string ⟨#[226, 140, 136, 47, 51, 32, 57, 32, 52]⟩, arrV false none 0 0 b 1 k] W fun e w' => e = .returned (.bool true) ∧ Below W.heap.size W w' :=
  (tells_any none [] 0 M.g1S M.g1T M.g1E ⟨false, [], [9]⟩ ⟨false, [], [9]⟩ none 0 b k W (wsAt_nil W) wsOk_nil hT h8 line_g1 g1_val (by decide) (by decide) (fun _ h => absurd h (by simp)) r2 (by decide) (by decide)).mono fun e w' h => ⟨h.1.trans (by rw [decide_eq_true rfl]), h.2⟩

set_option maxRecDepth 20000 in
set_option maxHeartbeats 8000000 in
theorem topGreatest_out (ch : Bool) (a b : Option Addr) (s d : List Int) (c k : Nat) (w : World) (hs : Row w a s) (hd : Row w b d) (ls : s.length ≤ maxLen) (ld : d.length ≤ maxLen) (hT : Tz w) (h8 : 8 ≤ w.heap.size)
    (hex : (decide (M.flaw ch s d = 0) && decide (s.length = 1)) = false ∨ ch = true ∨ d.length = 0) :
    Calls Tryz.prog 6 #[arrV ch a s.length c b d.length k] w fun e w' => e = .returned (.bool true) ∧ Below w.heap.size w w' := by
  have E := (((Env.start w).addRow hd).addRow hs).box ch a s.length c b d.length k
  obtain ⟨W, hW⟩ : ∃ W : World, W = w.alloc (.cells #[.bool ch, .slice a s.length c, .slice b d.length k] 24) := ⟨_, rfl⟩
  rw [← hW] at E
  have kn := fun W => num_any 9 W
  have hW' := Lib.hid hW.symm
  replace hW := Lib.hid hW
  have kl := fun W h1 h2 => list_any ch a b s d c k W h1 h2 ls ld
  generalize (decide (M.flaw ch s d = 0) && decide (s.length = 1)) = r at *
  generalize s.length = m at *
  generalize d.length = n at *
  replace kl := Lib.hid kl
  replace kn := Lib.hid kn
  replace E := Lib.hid E
  replace hT := Lib.hid hT
  clear hs hd ls ld
  go_enter Tryz.func6, Tryz.ntmps6
  go_wp2_with fail
  rw [hW'.out]
  refine (kn.out W).mono ?_
  rintro e v1 ⟨g1, rfl, hg1, rg, hb⟩
  replace E := Lib.hid ((E.out.step hb).addRow rg)
  clear hb rg
  go_wp2_with fail
  refine (fact_g1 v1 (hT.out.below E.out.bel h8) (Nat.le_trans h8 E.out.bel.size) (some ⟨g1, 0, none⟩) 1 (E.out.getRow 0 rfl)).mono ?_
  rintro e v2 ⟨rfl, hb⟩
  replace E := E.out.step hb
  clear hb
  obtain ⟨⟨u0, u1, u2⟩, -⟩ := E.getBox 1 rfl
  replace E := Lib.hid E
  go_wp2_with fail
  refine (kl.out v2 (E.out.getRow 2 rfl) (E.out.getRow 3 rfl)).mono ?_
  rintro e v3 ⟨rfl, hb⟩
  replace E := E.out.step hb
  clear hb u0 u1 u2
  obtain ⟨⟨u0, u1, u2⟩, -⟩ := E.getBox 1 rfl
  have hb := Lib.hid E.bel
  clear E
  rcases hex with rfl | rfl | rfl
  · go_wp2
    go_ret
    exact ⟨rfl, hb.out⟩
  · cases r
    all_goals (go_wp2; go_ret; exact ⟨rfl, hb.out⟩)
  · cases r
    all_goals cases ch
    all_goals (go_wp2; go_ret; exact ⟨rfl, hb.out⟩)

set_option maxRecDepth 20000 in
set_option maxHeartbeats 8000000 in
theorem topGreatest_good (a b : Option Addr) (d : List Int) (c k : Nat) (w : World) (hs : Row w a [(d.length : Int)]) (hd : Row w b d) (hk : d.length ≤ k) (hf : M.flaw false [(d.length : Int)] d = 0) (h64 : All64 d) (h0 : 0 < d.length) (hT : Tz w) (h8 : 8 ≤ w.heap.size) :
    Calls Tryz.prog 6 #[arrV false a 1 c b d.length k] w fun e w' => e = .returned (.bool true) ∧ Below w.heap.size w w' := by
  have E := (((Env.start w).addRow hd).addRow hs).box false a 1 c b d.length k
  obtain ⟨W, hW⟩ : ∃ W : World, W = w.alloc (.cells #[.bool false, .slice a 1 c, .slice b d.length k] 24) := ⟨_, rfl⟩
  rw [← hW] at E
  have kn := fun W => num_any 9 W
  have hW' := Lib.hid hW.symm
  replace hW := Lib.hid hW
  have kl : ∀ W, Row W a [(d.length : Int)] → Row W b d → Calls Tryz.prog 16 #[arrV false a 1 c b d.length k] W fun e w' => e = .returned (.bool true) ∧ Below W.heap.size W w' := fun W h1 h2 => by
    have h := list_any false a b [(d.length : Int)] d c k W h1 h2 (by simp [maxLen]) (by have := (flaw_len hf).1; simp only [maxLen]; omega)
    rw [decide_eq_true hf] at h
    exact h
  obtain ⟨i, hi, hgi, hvi⟩ := max_last (d := d) (fun e => by subst e; simp at h0)
  obtain ⟨j, hj, hgj, hvj⟩ := min_first (d := d) (fun e => by subst e; simp at h0)
  have q2 := g2_val hf h64 h0 hvi
  have q3 := g3_val hf h0 hi hgi
  have q4 := g4_val hf h64 h0 hvj
  have q5 := g5_val hf h0 hj hgj
  generalize d.getD i 0 = mx at *
  generalize d.getD j 0 = mn at *
  have ok := gvWs_ok hf
  have k2 : ∀ W A, WsAt (some A) (gvWs d) W → Tz W → 8 ≤ W.heap.size → Calls Tryz.prog 13 #[.slice (some A) 1 1, .string ⟨#[226, 140, 136, 47, 118]⟩] W fun en w' => ∃ (a : Option Addr) (c : Nat) (b : Option Addr) (k : Nat), en = .returned (.tuple #[arrV false a 0 c b 1 k, .bool true]) ∧ Row w' a [] ∧ Row w' b [mx] ∧ Below W.heap.size W w' :=
    fun W A h1 h2 h3 => worth_any (some A) (gvWs d) 1 M.g2S M.g2T M.g2E ⟨false, [], [mx]⟩ W h1 ok h2 h3 line_g2 q2 (by simp) (by simp)
  have k3 : ∀ W A a c b k, WsAt (some A) (gvWs d) W → Tz W → 8 ≤ W.heap.size → Row W a [] → Row W b [mx] → Calls Tryz.prog 7 #[.slice (some A) 1 1, .string ⟨#[118, 91, 40, 226, 141, 139, 118, 41, 91, 40, 43, 47, 226, 141, 180, 118, 41, 45, 49, 93, 93]⟩, arrV false a 0 c b 1 k] W fun en w' => en = .returned (.bool true) ∧ Below W.heap.size W w' :=
    fun W A a c b k h1 h2 h3 h4 h5 => (tells_any (some A) (gvWs d) 1 M.g3S M.g3T M.g3E ⟨false, [], [mx]⟩ ⟨false, [], [mx]⟩ a c b k W h1 ok h2 h3 line_g3 q3 (by simp) (by simp) h4 h5 (by simp) (by simp)).mono fun e w' h => ⟨h.1.trans (by rw [decide_eq_true rfl]), h.2⟩
  have k4 : ∀ W A, WsAt (some A) (gvWs d) W → Tz W → 8 ≤ W.heap.size → Calls Tryz.prog 13 #[.slice (some A) 1 1, .string ⟨#[226, 140, 138, 47, 118]⟩] W fun en w' => ∃ (a : Option Addr) (c : Nat) (b : Option Addr) (k : Nat), en = .returned (.tuple #[arrV false a 0 c b 1 k, .bool true]) ∧ Row w' a [] ∧ Row w' b [mn] ∧ Below W.heap.size W w' :=
    fun W A h1 h2 h3 => worth_any (some A) (gvWs d) 1 M.g4S M.g4T M.g4E ⟨false, [], [mn]⟩ W h1 ok h2 h3 line_g4 q4 (by simp) (by simp)
  have k5 : ∀ W A a c b k, WsAt (some A) (gvWs d) W → Tz W → 8 ≤ W.heap.size → Row W a [] → Row W b [mn] → Calls Tryz.prog 7 #[.slice (some A) 1 1, .string ⟨#[118, 91, 40, 226, 141, 139, 118, 41, 91, 48, 93, 93]⟩, arrV false a 0 c b 1 k] W fun en w' => en = .returned (.bool true) ∧ Below W.heap.size W w' :=
    fun W A a c b k h1 h2 h3 h4 h5 => (tells_any (some A) (gvWs d) 1 M.g5S M.g5T M.g5E ⟨false, [], [mn]⟩ ⟨false, [], [mn]⟩ a c b k W h1 ok h2 h3 line_g5 q5 (by simp) (by simp) h4 h5 (by simp) (by simp)).mono fun e w' h => ⟨h.1.trans (by rw [decide_eq_true rfl]), h.2⟩
  have kw : ∀ W, Row W a [(d.length : Int)] → Row W b d → WsAt (some ⟨W.heap.size, 0, none⟩) (gvWs d) (W.alloc (.cells #[.string ⟨#[118]⟩, .bool false, .slice a 1 c, .slice b d.length k] 33)) := fun W h1 h2 => wsAt_one1 (w := W) (nm := ⟨#[118]⟩) (a := a) (c := c) (b := b) (k := k) (x := ⟨false, [(d.length : Int)], d⟩) h1 h2 hk
  have e0 : (((d.length : Nat) : Int) == 0) = false := by rw [beq_eq_false_iff_ne]; omega
  clear q2 q3 q4 q5 hgi hgj hvi hvj hi hj h64 hs hd hf ok hk h0
  generalize gvWs d = ws at *
  generalize d.length = n at *
  replace kl := Lib.hid kl
  replace kn := Lib.hid kn
  replace k2 := Lib.hid k2
  replace k3 := Lib.hid k3
  replace k4 := Lib.hid k4
  replace k5 := Lib.hid k5
  replace kw := Lib.hid kw
  replace E := Lib.hid E
  replace hT := Lib.hid hT
  go_enter Tryz.func6, Tryz.ntmps6
  go_wp2_with fail
  rw [hW'.out]
  refine (kn.out W).mono ?_
  rintro e v1 ⟨g1, rfl, hg1, rg, hb⟩
  replace E := Lib.hid ((E.out.step hb).addRow rg)
  clear hb rg
  go_wp2_with fail
  refine (fact_g1 v1 (hT.out.below E.out.bel h8) (Nat.le_trans h8 E.out.bel.size) (some ⟨g1, 0, none⟩) 1 (E.out.getRow 0 rfl)).mono ?_
  rintro e v2 ⟨rfl, hb⟩
  replace E := E.out.step hb
  clear hb
  obtain ⟨⟨u0, u1, u2⟩, -⟩ := E.getBox 1 rfl
  replace E := Lib.hid E
  go_wp2_with fail
  refine (kl.out v2 (E.out.getRow 2 rfl) (E.out.getRow 3 rfl)).mono ?_
  rintro e v3 ⟨rfl, hb⟩
  replace E := E.out.step hb
  clear hb u0 u1 u2
  obtain ⟨⟨u0, u1, u2⟩, -⟩ := E.getBox 1 rfl
  replace E := Lib.hid E
  go_wp2_with fail
  refine (bind_any _ _ _ _ _ _ _ _ _).mono ?_
  rintro e v4 ⟨rfl, hb⟩
  replace E := E.out.step hb
  clear hb u0 u1 u2
  have hWs := kw.out v4 (E.getRow 2 rfl) (E.getRow 3 rfl)
  have hba := push (start v4) (.cells #[.string ⟨#[118]⟩, .bool false, .slice a 1 c, .slice b n k] 33)
  obtain ⟨A, hA⟩ : ∃ A : Addr, A = ⟨v4.heap.size, 0, none⟩ := ⟨_, rfl⟩
  obtain ⟨v9, hv9⟩ : ∃ W : World, W = v4.alloc (.cells #[.string ⟨#[118]⟩, .bool false, .slice a 1 c, .slice b n k] 33) := ⟨_, rfl⟩
  rw [← hv9] at hba
  rw [← hv9, ← hA] at hWs
  replace E := Lib.hid (E.step hba)
  have hv9' := Lib.hid hv9.symm
  have hA' := Lib.hid hA.symm
  replace hv9 := Lib.hid hv9
  replace hA := Lib.hid hA
  replace hWs := Lib.hid hWs
  clear hba
  go_wp2_with fail
  rw [hv9'.out, hA'.out]
  refine (k2.out v9 A hWs.out (hT.out.below E.out.bel h8) (Nat.le_trans h8 E.out.bel.size)).mono ?_
  rintro e v10 ⟨ax, cx, bx, kx, rfl, ra, rb, hb⟩
  replace hWs := hWs.out.below hb
  replace E := (((E.out.step hb).addRow rb).addRow ra).box false ax 0 cx bx 1 kx
  replace hWs := hWs.below (push (start v10) (.cells #[.bool false, .slice ax 0 cx, .slice bx 1 kx] 24))
  clear hb ra rb
  obtain ⟨⟨u0, u1, u2⟩, -⟩ := E.getBox 0 rfl
  replace E := Lib.hid E
  replace hWs := Lib.hid hWs
  go_wp2_with fail
  refine (k3.out _ A ax cx bx kx hWs.out (hT.out.below E.out.bel h8) (Nat.le_trans h8 E.out.bel.size) (E.out.getRow 1 rfl) (E.out.getRow 2 rfl)).mono ?_
  rintro e v11 ⟨rfl, hb⟩
  clear u0 u1 u2
  replace hWs := Lib.hid (hWs.out.below hb)
  replace E := Lib.hid (E.out.step hb)
  clear hb
  go_wp2_with fail
  refine (k4.out v11 A hWs.out (hT.out.below E.out.bel h8) (Nat.le_trans h8 E.out.bel.size)).mono ?_
  rintro e v12 ⟨ay, cy, b2, ky, rfl, ra, rb, hb⟩
  replace hWs := hWs.out.below hb
  replace E := (((E.out.step hb).addRow rb).addRow ra).box false ay 0 cy b2 1 ky
  replace hWs := hWs.below (push (start v12) (.cells #[.bool false, .slice ay 0 cy, .slice b2 1 ky] 24))
  clear hb ra rb
  obtain ⟨⟨u0, u1, u2⟩, -⟩ := E.getBox 0 rfl
  replace E := Lib.hid E
  replace hWs := Lib.hid hWs
  go_wp2_with fail
  refine (k5.out _ A ay cy b2 ky hWs.out (hT.out.below E.out.bel h8) (Nat.le_trans h8 E.out.bel.size) (E.out.getRow 1 rfl) (E.out.getRow 2 rfl)).mono ?_
  rintro e v13 ⟨rfl, hb⟩
  clear u0 u1 u2
  replace E := Lib.hid (E.out.step hb).bel
  clear hb hWs
  go_wp2
  go_ret
  exact ⟨rfl, E.out⟩
theorem topGreatest_walk (h0 : Bool) (p0 q0 : Option Addr) (x0 y0 : List Int) (c0 d0 : Nat) (w : World) (r0 : Row w p0 x0) (t0 : Row w q0 y0) (l0 : x0.length ≤ maxLen) (m0 : y0.length ≤ maxLen) (_ : All64 x0) (o0 : All64 y0) (_ : x0.length ≤ c0) (z0 : y0.length ≤ d0) (hg : Zl w) :
    Calls Tryz.prog 6 #[arrV h0 p0 x0.length c0 q0 y0.length d0] w fun e w' => e = .returned (.bool true) ∧ Below w.heap.size w w' := by
  by_cases hf : M.flaw h0 x0 y0 = 0
  case neg => exact topGreatest_out h0 p0 q0 x0 y0 c0 d0 w r0 t0 l0 m0 hg.1 hg.2 (.inl (by rw [decide_eq_false hf]; rfl))
  by_cases h1 : x0.length = 1
  case neg => exact topGreatest_out h0 p0 q0 x0 y0 c0 d0 w r0 t0 l0 m0 hg.1 hg.2 (.inl (by rw [decide_eq_false h1, Bool.and_false]))
  cases h0 with
  | true => exact topGreatest_out true p0 q0 x0 y0 c0 d0 w r0 t0 l0 m0 hg.1 hg.2 (.inr (.inl rfl))
  | false =>
    by_cases h2 : y0.length = 0
    case pos => exact topGreatest_out false p0 q0 x0 y0 c0 d0 w r0 t0 l0 m0 hg.1 hg.2 (.inr (.inr h2))
    obtain rfl := list_shape hf h1
    exact topGreatest_good p0 q0 y0 c0 d0 w r0 t0 z0 hf o0 (by omega) hg.1 hg.2
end Go.Proofs.YtaplaoelamnoiaaGreatDoor
