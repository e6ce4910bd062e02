/- The lines of the laws TopMorgan, TopSchool and TopSieve are as the calls want them. No condition. -/
import Derived.Test.YtaplaoelamnoiaaGreatDoorBd15
import Derived.Test.YtaplaoelamnoiaaGreatDoorBd17
namespace Go.Proofs.YtaplaoelamnoiaaGreatDoor
open Go.RowKit

theorem val_small (env : ByteArray → Option Arr) : ∀ (e : Ex) (x : Arr), Ev env e x → e.small → e.plain → ValOk env e x := by
  intro e x h
  induction h with
  | nums l h0 h1 => intro _ _; exact value_nums env l h0 h1
  | name s x h => intro _ _; exact value_name env s x h
  | one o f g r x y h ho h1 ih => intro hs hp; exact value_one env o f g r y (acted_one env o f g r x y (ih hs hp.2) ho h1)
  | two o f g l r x y z hl hr ho h2 ihl ihr => intro hs hp; exact value_two env l o f g r z (acted_two env o f g l r x y z (ihl hs.1 hp.2.1) (ihr hs.2 hp.2.2) hp.2.1 ho h2)
  | pick e b x y z he hb h ihe ihb => intro hs _; exact False.elim hs
theorem wex_small : ∀ e : Ex, e.small → e.good → WexOk e
  | .nums l, _, h => wex_nums l h
  | .name s, _, h => wex_name s h
  | .one o f q r, hs, h => wex_one o f q r h (wex_small r hs h.2)
  | .two l o f q r, hs, h => wex_two l o f q r h (wex_small l hs.1 h.2.1) (wex_small r hs.2 h.2.2)
  | .pick _ _, hs, _ => False.elim hs
theorem name_ok (x : ByteArray) (h0 : x.size = 1) (h1 : M.lett (M.byteAt x 0) = true) (h2 : M.inn (M.byteAt x 0) = true) : M.nameOk x := by
  refine ⟨by omega, by omega, h1, fun i hi => ?_⟩
  have : i = 0 := by omega
  subst this
  exact h2
theorem name_m : M.nameOk ⟨#[109]⟩ := name_ok _ rfl (by kernel_rfl) (by kernel_rfl)
theorem name_n : M.nameOk ⟨#[110]⟩ := name_ok _ rfl (by kernel_rfl) (by kernel_rfl)
theorem name_p : M.nameOk ⟨#[112]⟩ := name_ok _ rfl (by kernel_rfl) (by kernel_rfl)
theorem name_b : M.nameOk ⟨#[98]⟩ := name_ok _ rfl (by kernel_rfl) (by kernel_rfl)
theorem name_v : M.nameOk ⟨#[118]⟩ := name_ok _ rfl (by kernel_rfl) (by kernel_rfl)
theorem line_t1 : LineOk M.t1S M.t1T M.t1E where
  size := by decide
  lex := t1_lex
  good := by
    unfold M.t1T
    repeat' (first | exact List.forall_mem_nil _ | refine List.forall_mem_cons.2 ⟨?_, ?_⟩)
    all_goals first
      | exact .inr (.inr (.inl ⟨rfl, by decide, by decide, rfl, rfl⟩))
      | exact .inl ⟨rfl, rfl, rfl, by decide, by decide, of_decide_eq_true (by kernel_rfl)⟩
      | exact .inr (.inl ⟨rfl, rfl, rfl, by first | exact name_m | exact name_n | exact name_p | exact name_b | exact name_v⟩)
      | exact .inr (.inr (.inr ⟨by decide, by decide, rfl, rfl, rfl⟩))
  len := by decide
  len1 := by decide
  noset := by decide
  tree := t1_tree
  flat := flat_any _ (by simp [M.t1E, Ex.small])
  f400 := by decide
  wex := wex_small _ (by simp [M.t1E, Ex.small]) (by simp [M.t1E, Ex.good, name_m, name_n, name_p, name_b, name_v])
  steps := by decide
theorem line_t2 : LineOk M.t2S M.t2T M.t2E where
  size := by decide
  lex := t2_lex
  good := by
    unfold M.t2T
    repeat' (first | exact List.forall_mem_nil _ | refine List.forall_mem_cons.2 ⟨?_, ?_⟩)
    all_goals first
      | exact .inr (.inr (.inl ⟨rfl, by decide, by decide, rfl, rfl⟩))
      | exact .inl ⟨rfl, rfl, rfl, by decide, by decide, of_decide_eq_true (by kernel_rfl)⟩
      | exact .inr (.inl ⟨rfl, rfl, rfl, by first | exact name_m | exact name_n | exact name_p | exact name_b | exact name_v⟩)
      | exact .inr (.inr (.inr ⟨by decide, by decide, rfl, rfl, rfl⟩))
  len := by decide
  len1 := by decide
  noset := by decide
  tree := t2_tree
  flat := flat_any _ (by simp [M.t2E, Ex.small])
  f400 := by decide
  wex := wex_small _ (by simp [M.t2E, Ex.small]) (by simp [M.t2E, Ex.good, name_m, name_n, name_p, name_b, name_v])
  steps := by decide
theorem line_t3 : LineOk M.t3S M.t3T M.t3E where
  size := by decide
  lex := t3_lex
  good := by
    unfold M.t3T
    repeat' (first | exact List.forall_mem_nil _ | refine List.forall_mem_cons.2 ⟨?_, ?_⟩)
    all_goals first
      | exact .inr (.inr (.inl ⟨rfl, by decide, by decide, rfl, rfl⟩))
      | exact .inl ⟨rfl, rfl, rfl, by decide, by decide, of_decide_eq_true (by kernel_rfl)⟩
      | exact .inr (.inl ⟨rfl, rfl, rfl, by first | exact name_m | exact name_n | exact name_p | exact name_b | exact name_v⟩)
      | exact .inr (.inr (.inr ⟨by decide, by decide, rfl, rfl, rfl⟩))
  len := by decide
  len1 := by decide
  noset := by decide
  tree := t3_tree
  flat := flat_any _ (by simp [M.t3E, Ex.small])
  f400 := by decide
  wex := wex_small _ (by simp [M.t3E, Ex.small]) (by simp [M.t3E, Ex.good, name_m, name_n, name_p, name_b, name_v])
  steps := by decide
theorem line_t4 : LineOk M.t4S M.t4T M.t4E where
  size := by decide
  lex := t4_lex
  good := by
    unfold M.t4T
    repeat' (first | exact List.forall_mem_nil _ | refine List.forall_mem_cons.2 ⟨?_, ?_⟩)
    all_goals first
      | exact .inr (.inr (.inl ⟨rfl, by decide, by decide, rfl, rfl⟩))
      | exact .inl ⟨rfl, rfl, rfl, by decide, by decide, of_decide_eq_true (by kernel_rfl)⟩
      | exact .inr (.inl ⟨rfl, rfl, rfl, by first | exact name_m | exact name_n | exact name_p | exact name_b | exact name_v⟩)
      | exact .inr (.inr (.inr ⟨by decide, by decide, rfl, rfl, rfl⟩))
  len := by decide
  len1 := by decide
  noset := by decide
  tree := t4_tree
  flat := flat_any _ (by simp [M.t4E, Ex.small])
  f400 := by decide
  wex := wex_small _ (by simp [M.t4E, Ex.small]) (by simp [M.t4E, Ex.good, name_m, name_n, name_p, name_b, name_v])
  steps := by decide
theorem line_t5 : LineOk M.t5S M.t5T M.t5E where
  size := by decide
  lex := t5_lex
  good := by
    unfold M.t5T
    repeat' (first | exact List.forall_mem_nil _ | refine List.forall_mem_cons.2 ⟨?_, ?_⟩)
    all_goals first
      | exact .inr (.inr (.inl ⟨rfl, by decide, by decide, rfl, rfl⟩))
      | exact .inl ⟨rfl, rfl, rfl, by decide, by decide, of_decide_eq_true (by kernel_rfl)⟩
      | exact .inr (.inl ⟨rfl, rfl, rfl, by first | exact name_m | exact name_n | exact name_p | exact name_b | exact name_v⟩)
      | exact .inr (.inr (.inr ⟨by decide, by decide, rfl, rfl, rfl⟩))
  len := by decide
  len1 := by decide
  noset := by decide
  tree := t5_tree
  flat := flat_any _ (by simp [M.t5E, Ex.small])
  f400 := by decide
  wex := wex_small _ (by simp [M.t5E, Ex.small]) (by simp [M.t5E, Ex.good, name_m, name_n, name_p, name_b, name_v])
  steps := by decide
theorem line_v1 : LineOk M.v1S M.v1T M.v1E where
  size := by decide
  lex := v1_lex
  good := by
    unfold M.v1T
    repeat' (first | exact List.forall_mem_nil _ | refine List.forall_mem_cons.2 ⟨?_, ?_⟩)
    all_goals first
      | exact .inr (.inr (.inl ⟨rfl, by decide, by decide, rfl, rfl⟩))
      | exact .inl ⟨rfl, rfl, rfl, by decide, by decide, of_decide_eq_true (by kernel_rfl)⟩
      | exact .inr (.inl ⟨rfl, rfl, rfl, by first | exact name_m | exact name_n | exact name_p | exact name_b | exact name_v⟩)
      | exact .inr (.inr (.inr ⟨by decide, by decide, rfl, rfl, rfl⟩))
  len := by decide
  len1 := by decide
  noset := by decide
  tree := v1_tree
  flat := flat_any _ (by simp [M.v1E, Ex.small])
  f400 := by decide
  wex := wex_small _ (by simp [M.v1E, Ex.small]) (by simp [M.v1E, Ex.good, name_m, name_n, name_p, name_b, name_v])
  steps := by decide
theorem line_v2 : LineOk M.v2S M.v2T M.v2E where
  size := by decide
  lex := v2_lex
  good := by
    unfold M.v2T
    repeat' (first | exact List.forall_mem_nil _ | refine List.forall_mem_cons.2 ⟨?_, ?_⟩)
    all_goals first
      | exact .inr (.inr (.inl ⟨rfl, by decide, by decide, rfl, rfl⟩))
      | exact .inl ⟨rfl, rfl, rfl, by decide, by decide, of_decide_eq_true (by kernel_rfl)⟩
      | exact .inr (.inl ⟨rfl, rfl, rfl, by first | exact name_m | exact name_n | exact name_p | exact name_b | exact name_v⟩)
      | exact .inr (.inr (.inr ⟨by decide, by decide, rfl, rfl, rfl⟩))
  len := by decide
  len1 := by decide
  noset := by decide
  tree := v2_tree
  flat := flat_any _ (by simp [M.v2E, Ex.small])
  f400 := by decide
  wex := wex_small _ (by simp [M.v2E, Ex.small]) (by simp [M.v2E, Ex.good, name_m, name_n, name_p, name_b, name_v])
  steps := by decide
theorem line_s1 : LineOk M.s1S M.s1T M.s1E where
  size := by decide
  lex := s1_lex
  good := by
    unfold M.s1T
    repeat' (first | exact List.forall_mem_nil _ | refine List.forall_mem_cons.2 ⟨?_, ?_⟩)
    all_goals first
      | exact .inr (.inr (.inl ⟨rfl, by decide, by decide, rfl, rfl⟩))
      | exact .inl ⟨rfl, rfl, rfl, by decide, by decide, of_decide_eq_true (by kernel_rfl)⟩
      | exact .inr (.inl ⟨rfl, rfl, rfl, by first | exact name_m | exact name_n | exact name_p | exact name_b | exact name_v⟩)
      | exact .inr (.inr (.inr ⟨by decide, by decide, rfl, rfl, rfl⟩))
  len := by decide
  len1 := by decide
  noset := by decide
  tree := s1_tree
  flat := flat_any _ (by simp [M.s1E, Ex.small])
  f400 := by decide
  wex := wex_small _ (by simp [M.s1E, Ex.small]) (by simp [M.s1E, Ex.good, name_m, name_n, name_p, name_b, name_v])
  steps := by decide
theorem line_s2 : LineOk M.s2S M.s2T M.s2E where
  size := by decide
  lex := s2_lex
  good := by
    unfold M.s2T
    repeat' (first | exact List.forall_mem_nil _ | refine List.forall_mem_cons.2 ⟨?_, ?_⟩)
    all_goals first
      | exact .inr (.inr (.inl ⟨rfl, by decide, by decide, rfl, rfl⟩))
      | exact .inl ⟨rfl, rfl, rfl, by decide, by decide, of_decide_eq_true (by kernel_rfl)⟩
      | exact .inr (.inl ⟨rfl, rfl, rfl, by first | exact name_m | exact name_n | exact name_p | exact name_b | exact name_v⟩)
      | exact .inr (.inr (.inr ⟨by decide, by decide, rfl, rfl, rfl⟩))
  len := by decide
  len1 := by decide
  noset := by decide
  tree := s2_tree
  flat := flat_any _ (by simp [M.s2E, Ex.small])
  f400 := by decide
  wex := wex_small _ (by simp [M.s2E, Ex.small]) (by simp [M.s2E, Ex.good, name_m, name_n, name_p, name_b, name_v])
  steps := by decide
end Go.Proofs.YtaplaoelamnoiaaGreatDoor
