/- Texts that lie in one file: what is plain, rows, boxes, squares, and what is known of a world. No condition. -/
import Derived.Test.YtaplaoelamnoiaaGreatDoorBg17
import Derived.Test.YtaplaoelamnoiaaGreatDoorBg10
import Derived.Test.YtaplaoelamnoiaaGreatDoorBg11
import Derived.Test.YtaplaoelamnoiaaGreatDoorBg18
/- The lines of the laws TopMorgan, TopSchool and TopSieve are as the calls want them. No condition. -/
namespace Go.Proofs.YtaplaoelamnoiaaGreatDoor
open Go.RowKit

theorem val_small (env : ByteArray → Option Arr) : ∀ (e : Ex) (x : Arr), Ev env e x → e.small → e.plain → ValOk env e x := by
  intro e x h
  induction h with
  | nums l h0 h1 => intro _ _; exact value_nums env l h0 h1
  | name s x h => intro _ _; exact value_name env s x h
  | one o f g r x y h ho h1 ih => intro hs hp; exact value_one env o f g r y (acted_one env o f g r x y (ih hs hp.2) ho h1)
  | two o f g l r x y z hl hr ho h2 ihl ihr => intro hs hp; exact value_two env l o f g r z (acted_two env o f g l r x y z (ihl hs.1 hp.2.1) (ihr hs.2 hp.2.2) hp.2.1 ho h2)
  | pick e b x y z he hb h ihe ihb => intro hs _; exact False.elim hs
theorem wex_small : ∀ e : Ex, e.small → e.good → WexOk e
  | .nums l, _, h => wex_nums l h
  | .name s, _, h => wex_name s h
  | .one o f q r, hs, h => wex_one o f q r h (wex_small r hs h.2)
  | .two l o f q r, hs, h => wex_two l o f q r h (wex_small l hs.1 h.2.1) (wex_small r hs.2 h.2.2)
  | .pick _ _, hs, _ => False.elim hs
theorem name_ok (x : ByteArray) (h0 : x.size = 1) (h1 : M.lett (M.byteAt x 0) = true) (h2 : M.inn (M.byteAt x 0) = true) : M.nameOk x := by
  refine ⟨by omega, by omega, h1, fun i hi => ?_⟩
  have : i = 0 := by omega
  subst this
  exact h2
theorem name_m : M.nameOk ⟨#[109]⟩ := name_ok _ rfl (by kernel_rfl) (by kernel_rfl)
theorem name_n : M.nameOk ⟨#[110]⟩ := name_ok _ rfl (by kernel_rfl) (by kernel_rfl)
theorem name_p : M.nameOk ⟨#[112]⟩ := name_ok _ rfl (by kernel_rfl) (by kernel_rfl)
theorem name_b : M.nameOk ⟨#[98]⟩ := name_ok _ rfl (by kernel_rfl) (by kernel_rfl)
theorem name_v : M.nameOk ⟨#[118]⟩ := name_ok _ rfl (by kernel_rfl) (by kernel_rfl)
theorem line_t1 : LineOk M.t1S M.t1T M.t1E where
  size := by decide
  lex := t1_lex
  good := by
    unfold M.t1T
    repeat' (first | exact List.forall_mem_nil _ | refine List.forall_mem_cons.2 ⟨?_, ?_⟩)
    all_goals first
      | exact .inr (.inr (.inl ⟨rfl, by decide, by decide, rfl, rfl⟩))
      | exact .inl ⟨rfl, rfl, rfl, by decide, by decide, of_decide_eq_true (by kernel_rfl)⟩
      | exact .inr (.inl ⟨rfl, rfl, rfl, by first | exact name_m | exact name_n | exact name_p | exact name_b | exact name_v⟩)
      | exact .inr (.inr (.inr ⟨by decide, by decide, rfl, rfl, rfl⟩))
  len := by decide
  len1 := by decide
  noset := by decide
  tree := t1_tree
  flat := flat_any _ (by simp [M.t1E, Ex.small])
  f400 := by decide
  wex := wex_small _ (by simp [M.t1E, Ex.small]) (by simp [M.t1E, Ex.good, name_m, name_n, name_p, name_b, name_v])
  steps := by decide
theorem line_t2 : LineOk M.t2S M.t2T M.t2E where
  size := by decide
  lex := t2_lex
  good := by
    unfold M.t2T
    repeat' (first | exact List.forall_mem_nil _ | refine List.forall_mem_cons.2 ⟨?_, ?_⟩)
    all_goals first
      | exact .inr (.inr (.inl ⟨rfl, by decide, by decide, rfl, rfl⟩))
      | exact .inl ⟨rfl, rfl, rfl, by decide, by decide, of_decide_eq_true (by kernel_rfl)⟩
      | exact .inr (.inl ⟨rfl, rfl, rfl, by first | exact name_m | exact name_n | exact name_p | exact name_b | exact name_v⟩)
      | exact .inr (.inr (.inr ⟨by decide, by decide, rfl, rfl, rfl⟩))
  len := by decide
  len1 := by decide
  noset := by decide
  tree := t2_tree
  flat := flat_any _ (by simp [M.t2E, Ex.small])
  f400 := by decide
  wex := wex_small _ (by simp [M.t2E, Ex.small]) (by simp [M.t2E, Ex.good, name_m, name_n, name_p, name_b, name_v])
  steps := by decide
theorem line_t3 : LineOk M.t3S M.t3T M.t3E where
  size := by decide
  lex := t3_lex
  good := by
    unfold M.t3T
    repeat' (first | exact List.forall_mem_nil _ | refine List.forall_mem_cons.2 ⟨?_, ?_⟩)
    all_goals first
      | exact .inr (.inr (.inl ⟨rfl, by decide, by decide, rfl, rfl⟩))
      | exact .inl ⟨rfl, rfl, rfl, by decide, by decide, of_decide_eq_true (by kernel_rfl)⟩
      | exact .inr (.inl ⟨rfl, rfl, rfl, by first | exact name_m | exact name_n | exact name_p | exact name_b | exact name_v⟩)
      | exact .inr (.inr (.inr ⟨by decide, by decide, rfl, rfl, rfl⟩))
  len := by decide
  len1 := by decide
  noset := by decide
  tree := t3_tree
  flat := flat_any _ (by simp [M.t3E, Ex.small])
  f400 := by decide
  wex := wex_small _ (by simp [M.t3E, Ex.small]) (by simp [M.t3E, Ex.good, name_m, name_n, name_p, name_b, name_v])
  steps := by decide
theorem line_t4 : LineOk M.t4S M.t4T M.t4E where
  size := by decide
  lex := t4_lex
  good := by
    unfold M.t4T
    repeat' (first | exact List.forall_mem_nil _ | refine List.forall_mem_cons.2 ⟨?_, ?_⟩)
    all_goals first
      | exact .inr (.inr (.inl ⟨rfl, by decide, by decide, rfl, rfl⟩))
      | exact .inl ⟨rfl, rfl, rfl, by decide, by decide, of_decide_eq_true (by kernel_rfl)⟩
      | exact .inr (.inl ⟨rfl, rfl, rfl, by first | exact name_m | exact name_n | exact name_p | exact name_b | exact name_v⟩)
      | exact .inr (.inr (.inr ⟨by decide, by decide, rfl, rfl, rfl⟩))
  len := by decide
  len1 := by decide
  noset := by decide
  tree := t4_tree
  flat := flat_any _ (by simp [M.t4E, Ex.small])
  f400 := by decide
  wex := wex_small _ (by simp [M.t4E, Ex.small]) (by simp [M.t4E, Ex.good, name_m, name_n, name_p, name_b, name_v])
  steps := by decide
theorem line_t5 : LineOk M.t5S M.t5T M.t5E where
  size := by decide
  lex := t5_lex
  good := by
    unfold M.t5T
    repeat' (first | exact List.forall_mem_nil _ | refine List.forall_mem_cons.2 ⟨?_, ?_⟩)
    all_goals first
      | exact .inr (.inr (.inl ⟨rfl, by decide, by decide, rfl, rfl⟩))
      | exact .inl ⟨rfl, rfl, rfl, by decide, by decide, of_decide_eq_true (by kernel_rfl)⟩
      | exact .inr (.inl ⟨rfl, rfl, rfl, by first | exact name_m | exact name_n | exact name_p | exact name_b | exact name_v⟩)
      | exact .inr (.inr (.inr ⟨by decide, by decide, rfl, rfl, rfl⟩))
  len := by decide
  len1 := by decide
  noset := by decide
  tree := t5_tree
  flat := flat_any _ (by simp [M.t5E, Ex.small])
  f400 := by decide
  wex := wex_small _ (by simp [M.t5E, Ex.small]) (by simp [M.t5E, Ex.good, name_m, name_n, name_p, name_b, name_v])
  steps := by decide
theorem line_v1 : LineOk M.v1S M.v1T M.v1E where
  size := by decide
  lex := v1_lex
  good := by
    unfold M.v1T
    repeat' (first | exact List.forall_mem_nil _ | refine List.forall_mem_cons.2 ⟨?_, ?_⟩)
    all_goals first
      | exact .inr (.inr (.inl ⟨rfl, by decide, by decide, rfl, rfl⟩))
      | exact .inl ⟨rfl, rfl, rfl, by decide, by decide, of_decide_eq_true (by kernel_rfl)⟩
      | exact .inr (.inl ⟨rfl, rfl, rfl, by first | exact name_m | exact name_n | exact name_p | exact name_b | exact name_v⟩)
      | exact .inr (.inr (.inr ⟨by decide, by decide, rfl, rfl, rfl⟩))
  len := by decide
  len1 := by decide
  noset := by decide
  tree := v1_tree
  flat := flat_any _ (by simp [M.v1E, Ex.small])
  f400 := by decide
  wex := wex_small _ (by simp [M.v1E, Ex.small]) (by simp [M.v1E, Ex.good, name_m, name_n, name_p, name_b, name_v])
  steps := by decide
theorem line_v2 : LineOk M.v2S M.v2T M.v2E where
  size := by decide
  lex := v2_lex
  good := by
    unfold M.v2T
    repeat' (first | exact List.forall_mem_nil _ | refine List.forall_mem_cons.2 ⟨?_, ?_⟩)
    all_goals first
      | exact .inr (.inr (.inl ⟨rfl, by decide, by decide, rfl, rfl⟩))
      | exact .inl ⟨rfl, rfl, rfl, by decide, by decide, of_decide_eq_true (by kernel_rfl)⟩
      | exact .inr (.inl ⟨rfl, rfl, rfl, by first | exact name_m | exact name_n | exact name_p | exact name_b | exact name_v⟩)
      | exact .inr (.inr (.inr ⟨by decide, by decide, rfl, rfl, rfl⟩))
  len := by decide
  len1 := by decide
  noset := by decide
  tree := v2_tree
  flat := flat_any _ (by simp [M.v2E, Ex.small])
  f400 := by decide
  wex := wex_small _ (by simp [M.v2E, Ex.small]) (by simp [M.v2E, Ex.good, name_m, name_n, name_p, name_b, name_v])
  steps := by decide
theorem line_s1 : LineOk M.s1S M.s1T M.s1E where
  size := by decide
  lex := s1_lex
  good := by
    unfold M.s1T
    repeat' (first | exact List.forall_mem_nil _ | refine List.forall_mem_cons.2 ⟨?_, ?_⟩)
    all_goals first
      | exact .inr (.inr (.inl ⟨rfl, by decide, by decide, rfl, rfl⟩))
      | exact .inl ⟨rfl, rfl, rfl, by decide, by decide, of_decide_eq_true (by kernel_rfl)⟩
      | exact .inr (.inl ⟨rfl, rfl, rfl, by first | exact name_m | exact name_n | exact name_p | exact name_b | exact name_v⟩)
      | exact .inr (.inr (.inr ⟨by decide, by decide, rfl, rfl, rfl⟩))
  len := by decide
  len1 := by decide
  noset := by decide
  tree := s1_tree
  flat := flat_any _ (by simp [M.s1E, Ex.small])
  f400 := by decide
  wex := wex_small _ (by simp [M.s1E, Ex.small]) (by simp [M.s1E, Ex.good, name_m, name_n, name_p, name_b, name_v])
  steps := by decide
theorem line_s2 : LineOk M.s2S M.s2T M.s2E where
  size := by decide
  lex := s2_lex
  good := by
    unfold M.s2T
    repeat' (first | exact List.forall_mem_nil _ | refine List.forall_mem_cons.2 ⟨?_, ?_⟩)
    all_goals first
      | exact .inr (.inr (.inl ⟨rfl, by decide, by decide, rfl, rfl⟩))
      | exact .inl ⟨rfl, rfl, rfl, by decide, by decide, of_decide_eq_true (by kernel_rfl)⟩
      | exact .inr (.inl ⟨rfl, rfl, rfl, by first | exact name_m | exact name_n | exact name_p | exact name_b | exact name_v⟩)
      | exact .inr (.inr (.inr ⟨by decide, by decide, rfl, rfl, rfl⟩))
  len := by decide
  len1 := by decide
  noset := by decide
  tree := s2_tree
  flat := flat_any _ (by simp [M.s2E, Ex.small])
  f400 := by decide
  wex := wex_small _ (by simp [M.s2E, Ex.small]) (by simp [M.s2E, Ex.good, name_m, name_n, name_p, name_b, name_v])
  steps := by decide
end Go.Proofs.YtaplaoelamnoiaaGreatDoor

/- De Morgan's law cell by cell, of masks. No condition. -/
namespace Go.Proofs.YtaplaoelamnoiaaGreatDoor
open Go.RowKit

/-- Zeros and ones alone. -/
def IsMask (d : List Int) : Prop := ∀ c ∈ d, c = 0 ∨ c = 1
namespace M
def andF (a b : Int) : Int := bits .and .i64 a b
def orF (a b : Int) : Int := bits .or .i64 a b
def notF (a _ : Int) : Int := 1 - a
end M
theorem mask_get {d : List Int} (h : IsMask d) (i : Nat) : d.getD i 0 = 0 ∨ d.getD i 0 = 1 := by
  cases hg : d[i]? with
  | none => left; simp [List.getD, hg]
  | some v => have := h v (List.mem_of_getElem? hg); simpa [List.getD, hg] using this
theorem mask_zip {F : Int → Int → Int} (hF : ∀ a b, (a = 0 ∨ a = 1) → (b = 0 ∨ b = 1) → (F a b = 0 ∨ F a b = 1)) {d d' : List Int} (h : IsMask d) (h' : IsMask d') : IsMask (zipL F d d') := by
  intro c hc
  unfold zipL at hc
  obtain ⟨i, -, rfl⟩ := List.mem_map.1 hc
  exact hF _ _ (mask_get h i) (mask_get h' i)
theorem mask_64 {d : List Int} (h : IsMask d) : All64 d := fun c hc => by
  unfold I64
  rcases h c hc with rfl | rfl <;> omega
theorem and_bit (a b : Int) (ha : a = 0 ∨ a = 1) (hb : b = 0 ∨ b = 1) : M.andF a b = 0 ∨ M.andF a b = 1 := by
  rcases ha with rfl | rfl <;> rcases hb with rfl | rfl <;> decide
theorem or_bit (a b : Int) (ha : a = 0 ∨ a = 1) (hb : b = 0 ∨ b = 1) : M.orF a b = 0 ∨ M.orF a b = 1 := by
  rcases ha with rfl | rfl <;> rcases hb with rfl | rfl <;> decide
theorem not_bit (a b : Int) (ha : a = 0 ∨ a = 1) (_ : b = 0 ∨ b = 1) : M.notF a b = 0 ∨ M.notF a b = 1 := by
  rcases ha with rfl | rfl <;> simp [M.notF]
theorem each_and {s d d' : List Int} (hx : M.flaw false s d = 0) (hy : M.flaw false s d' = 0) : M.each2 14 ⟨false, s, d⟩ ⟨false, s, d'⟩ = .ok ⟨false, s, zipL M.andF d d'⟩ := each2_num rfl (fun _ _ => rfl) hx hy
theorem each_or {s d d' : List Int} (hx : M.flaw false s d = 0) (hy : M.flaw false s d' = 0) : M.each2 15 ⟨false, s, d⟩ ⟨false, s, d'⟩ = .ok ⟨false, s, zipL M.orF d d'⟩ := each2_num rfl (fun _ _ => rfl) hx hy
theorem each_not {s d : List Int} (hx : M.flaw false s d = 0) (hm : IsMask d) : M.each1 17 ⟨false, s, d⟩ = .ok ⟨false, s, zipL M.notF d d⟩ := by
  unfold M.each1
  have h0 : M.one 17 0 = .ok 1 := rfl
  rw [h0]
  dsimp only
  rw [if_neg (by rw [hx]; simp), if_neg (by simp)]
  unfold M.fillE
  rw [seqE_ok (G := fun i => M.notF (d.getD i 0) (d.getD i 0)) (fun i _ => by
    have h : M.one 17 (d.getD i 0) = if d.getD i 0 = 0 ∨ d.getD i 0 = 1 then .ok (1 - d.getD i 0) else .error 6 := rfl
    rw [h, if_pos (mask_get hm i)]; rfl)]
  rfl
theorem morgan_and {d d' : List Int} (hl : d.length = d'.length) (h : IsMask d) (h' : IsMask d') : zipL M.notF (zipL M.andF d d') (zipL M.andF d d') = zipL M.orF (zipL M.notF d d) (zipL M.notF d' d') := by
  unfold zipL
  simp only [List.length_map, List.length_range]
  refine List.map_congr_left fun i hi => ?_
  have hi' : i < d.length := List.mem_range.1 hi
  have e1 : ((List.range d.length).map fun i => M.andF (d.getD i 0) (d'.getD i 0)).getD i 0 = M.andF (d.getD i 0) (d'.getD i 0) := zipL_get M.andF hi'
  have e2 : ((List.range d.length).map fun i => M.notF (d.getD i 0) (d.getD i 0)).getD i 0 = M.notF (d.getD i 0) (d.getD i 0) := zipL_get M.notF hi'
  have e3 : ((List.range d'.length).map fun i => M.notF (d'.getD i 0) (d'.getD i 0)).getD i 0 = M.notF (d'.getD i 0) (d'.getD i 0) := zipL_get M.notF (by omega)
  rw [e1, e2, e3]
  rcases mask_get h i with ha | ha <;> rcases mask_get h' i with hb | hb <;> rw [ha, hb] <;> decide
theorem morgan_or {d d' : List Int} (hl : d.length = d'.length) (h : IsMask d) (h' : IsMask d') : zipL M.notF (zipL M.orF d d') (zipL M.orF d d') = zipL M.andF (zipL M.notF d d) (zipL M.notF d' d') := by
  unfold zipL
  simp only [List.length_map, List.length_range]
  refine List.map_congr_left fun i hi => ?_
  have hi' : i < d.length := List.mem_range.1 hi
  have e1 : ((List.range d.length).map fun i => M.orF (d.getD i 0) (d'.getD i 0)).getD i 0 = M.orF (d.getD i 0) (d'.getD i 0) := zipL_get M.orF hi'
  have e2 : ((List.range d.length).map fun i => M.notF (d.getD i 0) (d.getD i 0)).getD i 0 = M.notF (d.getD i 0) (d.getD i 0) := zipL_get M.notF hi'
  have e3 : ((List.range d'.length).map fun i => M.notF (d'.getD i 0) (d'.getD i 0)).getD i 0 = M.notF (d'.getD i 0) (d'.getD i 0) := zipL_get M.notF (by omega)
  rw [e1, e2, e3]
  rcases mask_get h i with ha | ha <;> rcases mask_get h' i with hb | hb <;> rw [ha, hb] <;> decide

/-- The values of the five lines. -/
theorem ev_not_and {env : ByteArray → Option Arr} {l r : Ex} {s d d' : List Int} (hl : Ev env l ⟨false, s, d⟩) (hr : Ev env r ⟨false, s, d'⟩) (hx : M.flaw false s d = 0) (hy : M.flaw false s d' = 0) (h : IsMask d) (h' : IsMask d') :
    Ev env (.one 0 17 0 (.two l 0 14 0 r)) ⟨false, s, zipL M.notF (zipL M.andF d d') (zipL M.andF d d')⟩ :=
  .one 0 17 0 _ _ _ (.two 0 14 0 l r _ _ _ hl hr (by decide) (prim_and _ _ _ hx hy (mask_64 h) (mask_64 h') (each_and hx hy))) (by decide)
    (prim_not _ _ (zipL_sound hx) (mask_64 (mask_zip and_bit h h')) (each_not (zipL_sound hx) (mask_zip and_bit h h')))
theorem ev_not_or {env : ByteArray → Option Arr} {l r : Ex} {s d d' : List Int} (hl : Ev env l ⟨false, s, d⟩) (hr : Ev env r ⟨false, s, d'⟩) (hx : M.flaw false s d = 0) (hy : M.flaw false s d' = 0) (h : IsMask d) (h' : IsMask d') :
    Ev env (.one 0 17 0 (.two l 0 15 0 r)) ⟨false, s, zipL M.notF (zipL M.orF d d') (zipL M.orF d d')⟩ :=
  .one 0 17 0 _ _ _ (.two 0 15 0 l r _ _ _ hl hr (by decide) (prim_or _ _ _ hx hy (mask_64 h) (mask_64 h') (each_or hx hy))) (by decide)
    (prim_not _ _ (zipL_sound hx) (mask_64 (mask_zip or_bit h h')) (each_not (zipL_sound hx) (mask_zip or_bit h h')))
theorem ev_or_not {env : ByteArray → Option Arr} {l r : Ex} {s d d' : List Int} (hl : Ev env l ⟨false, s, d⟩) (hr : Ev env r ⟨false, s, d'⟩) (hx : M.flaw false s d = 0) (hy : M.flaw false s d' = 0) (h : IsMask d) (h' : IsMask d') :
    Ev env (.two (.one 0 17 0 l) 0 15 0 (.one 0 17 0 r)) ⟨false, s, zipL M.orF (zipL M.notF d d) (zipL M.notF d' d')⟩ :=
  .two 0 15 0 _ _ _ _ _ (.one 0 17 0 _ _ _ hl (by decide) (prim_not _ _ hx (mask_64 h) (each_not hx h))) (.one 0 17 0 _ _ _ hr (by decide) (prim_not _ _ hy (mask_64 h') (each_not hy h'))) (by decide)
    (prim_or _ _ _ (zipL_sound hx) (zipL_sound hy) (mask_64 (mask_zip not_bit h h)) (mask_64 (mask_zip not_bit h' h')) (each_or (zipL_sound hx) (zipL_sound hy)))
theorem ev_and_not {env : ByteArray → Option Arr} {l r : Ex} {s d d' : List Int} (hl : Ev env l ⟨false, s, d⟩) (hr : Ev env r ⟨false, s, d'⟩) (hx : M.flaw false s d = 0) (hy : M.flaw false s d' = 0) (h : IsMask d) (h' : IsMask d') :
    Ev env (.two (.one 0 17 0 l) 0 14 0 (.one 0 17 0 r)) ⟨false, s, zipL M.andF (zipL M.notF d d) (zipL M.notF d' d')⟩ :=
  .two 0 14 0 _ _ _ _ _ (.one 0 17 0 _ _ _ hl (by decide) (prim_not _ _ hx (mask_64 h) (each_not hx h))) (.one 0 17 0 _ _ _ hr (by decide) (prim_not _ _ hy (mask_64 h') (each_not hy h'))) (by decide)
    (prim_and _ _ _ (zipL_sound hx) (zipL_sound hy) (mask_64 (mask_zip not_bit h h)) (mask_64 (mask_zip not_bit h' h')) (each_and (zipL_sound hx) (zipL_sound hy)))
end Go.Proofs.YtaplaoelamnoiaaGreatDoor

/- The worth of the five lines of the law TopMorgan; the helper bind. Condition: two sound masks of one shape. -/
namespace Go.Proofs.YtaplaoelamnoiaaGreatDoor
open Go.RowKit

set_option maxRecDepth 20000 in
set_option maxHeartbeats 4000000 in
theorem bind_any (nm : ByteArray) (ch : Bool) (a : Option Addr) (m c : Nat) (b : Option Addr) (n k : Nat) (w : World) :
    Calls Tryz.prog 12 #[.string nm, arrV ch a m c b n k] w fun en w' => en = .returned (.agg #[.string nm, .bool ch, .slice a m c, .slice b n k]) ∧ Below w.heap.size w w' := by
  have bR := boxC_alloc (w.alloc (.cells #[.bool ch, .slice a m c, .slice b n k] 24)) #[.string nm, .bool ch, .slice a m c, .slice b n k] 33
  rw [World.size_alloc] at bR
  have y0 := (bR 0 _ rfl).1
  have y1 := (bR 1 _ rfl).1
  have y2 := (bR 2 _ rfl).1
  have y3 := (bR 3 _ rfl).1
  replace bR := Lib.hid bR
  go_enter Tryz.func12, Tryz.ntmps12
  go_wp2
  refine bodyPost_ret (v := .agg #[.string nm, .bool ch, .slice a m c, .slice b n k]) (by simp [results, Tryz.results12, go_sem, y0, y1, y2, y3]) rfl ?_
  exact ⟨rfl, push (push (start w) _) _⟩

theorem wsAt_nil (w : World) : WsAt none [] w := fun i b h => by simp at h
theorem wsOk_nil : WsOk [] := ⟨by simp, by simp, fun i j b b' h => by simp at h⟩
theorem t1_val : ValOk (envOf []) M.t1E ⟨false, [2], [0, 1]⟩ := by
  have hm1 : IsMask [1, 0] := by unfold IsMask; simp
  have hm2 : IsMask [1, 1] := by unfold IsMask; simp
  have f1 : M.flaw false [2] [1, 0] = 0 := by decide
  have f2 : M.flaw false [2] [1, 1] = 0 := by decide
  have h := ev_not_and (env := envOf []) (l := .nums [1, 0]) (r := .nums [1, 1]) (s := [2]) (d := [1, 0]) (d' := [1, 1]) (.nums [1, 0] (by simp) (by simp)) (.nums [1, 1] (by simp) (by simp)) f1 f2 hm1 hm2
  have e : zipL M.notF (zipL M.andF [1, 0] [1, 1]) (zipL M.andF [1, 0] [1, 1]) = [0, 1] := by decide
  rw [e] at h
  exact val_small _ _ _ h (by simp [M.t1E, Ex.small]) (by simp [M.t1E, Ex.plain])
/-- The two names of the law. -/
abbrev moWs (s d d' : List Int) : List Bd := [⟨⟨#[109]⟩, ⟨false, s, d⟩⟩, ⟨⟨#[110]⟩, ⟨false, s, d'⟩⟩]
theorem moWs_ok {s d d' : List Int} (hx : M.flaw false s d = 0) (hy : M.flaw false s d' = 0) : WsOk (moWs s d d') := by
  refine ⟨by simp, ?_, ?_⟩
  · intro b hb
    simp only [List.mem_cons, List.not_mem_nil, or_false] at hb
    rcases hb with rfl | rfl
    · exact ⟨name_m, (by show (1 : Nat) ≤ 100; decide), hx⟩
    · exact ⟨name_n, (by show (1 : Nat) ≤ 100; decide), hy⟩
  · intro i j b b' hi hj hij
    have hj2 : j < 2 := (List.getElem?_eq_some_iff.1 hj).1
    have e1 : i = 0 := by omega
    have e2 : j = 1 := by omega
    subst e1
    subst e2
    cases hi
    cases hj
    intro e
    injection e with e
    exact absurd e (by show ¬ ([109] : List UInt8) = [110]; decide)
theorem mo_m (s d d' : List Int) : Ev (envOf (moWs s d d')) (.name ⟨#[109]⟩) ⟨false, s, d⟩ := .name _ _ (by simp [envOf, moWs])
theorem mo_n (s d d' : List Int) : Ev (envOf (moWs s d d')) (.name ⟨#[110]⟩) ⟨false, s, d'⟩ := .name _ _ (by simp [envOf, moWs])
theorem mo_vals {s d d' : List Int} (hx : M.flaw false s d = 0) (hy : M.flaw false s d' = 0) (h : IsMask d) (h' : IsMask d') :
    ∃ u v : List Int, u.length = d.length ∧ v.length = d.length ∧ ValOk (envOf (moWs s d d')) M.t2E ⟨false, s, u⟩ ∧ ValOk (envOf (moWs s d d')) M.t3E ⟨false, s, u⟩ ∧ ValOk (envOf (moWs s d d')) M.t4E ⟨false, s, v⟩ ∧ ValOk (envOf (moWs s d d')) M.t5E ⟨false, s, v⟩ := by
  have hl : d.length = d'.length := same_cells (x := ⟨false, s, d⟩) (y := ⟨false, s, d'⟩) hx hy rfl
  refine ⟨zipL M.notF (zipL M.andF d d') (zipL M.andF d d'), zipL M.notF (zipL M.orF d d') (zipL M.orF d d'), by rw [zipL_length, zipL_length], by rw [zipL_length, zipL_length], ?_, ?_, ?_, ?_⟩
  · exact val_small _ _ _ (ev_not_and (mo_m s d d') (mo_n s d d') hx hy h h') (by simp [M.t2E, Ex.small]) (by simp [M.t2E, Ex.plain])
  · rw [morgan_and hl h h']
    exact val_small _ _ _ (ev_or_not (mo_m s d d') (mo_n s d d') hx hy h h') (by simp [M.t3E, Ex.small]) (by simp [M.t3E, Ex.plain])
  · exact val_small _ _ _ (ev_not_or (mo_m s d d') (mo_n s d d') hx hy h h') (by simp [M.t4E, Ex.small]) (by simp [M.t4E, Ex.plain])
  · rw [morgan_or hl h h']
    exact val_small _ _ _ (ev_and_not (mo_m s d d') (mo_n s d d') hx hy h h') (by simp [M.t5E, Ex.small]) (by simp [M.t5E, Ex.plain])
end Go.Proofs.YtaplaoelamnoiaaGreatDoor
