/- The walk of the law ProdTurned: it returns true at all arrays and functions. No condition. -/
import Derived.Test.YtohnimfjekemjaaWkInner
import Derived.Test.YtohnimfjekemjaaWkSemi
import Derived.Test.YtohnimfjekemjaaWkAlike
import Derived.Test.YtohnimfjekemjaaWkLawVec
import Derived.Test.YtohnimfjekemjaaWkFlip
import Derived.Deep.Cut
namespace Go.Proofs.Ytohnimfjekemjaa
open Go.RowKit

theorem row_at7 {w : World} {b o : Nat} {xs : List Int} (h : Row w (some ⟨b, o, none⟩) xs) {i : Nat} (hi : i < xs.length) : w.cell? ⟨b, o + i, none⟩ = some (.int .i64 (xs.getD i 0)) := by
  obtain ⟨b', o', e, hc⟩ := h i hi
  cases e
  exact hc
theorem held32 {w w' : World} {A B C A' B' C' : Addr} {a b c a' b' c' : Value} (hb : Below w.heap.size w w')
    (h : (w.cell? A = some a ∧ w.cell? B = some b ∧ w.cell? C = some c) ∧ (w.cell? A' = some a' ∧ w.cell? B' = some b' ∧ w.cell? C' = some c')) :
    (w'.cell? A = some a ∧ w'.cell? B = some b ∧ w'.cell? C = some c) ∧ (w'.cell? A' = some a' ∧ w'.cell? B' = some b' ∧ w'.cell? C' = some c') :=
  have k : ∀ {x : Addr} {v : Value}, w.cell? x = some v → w'.cell? x = some v := fun h => (hb.cell (World.block_lt_of_cell? w _ h)).trans h
  ⟨⟨k h.1.1, k h.1.2.1, k h.1.2.2⟩, ⟨k h.2.1, k h.2.2.1, k h.2.2.2⟩⟩
theorem held322 {w w' : World} {A B C A' B' C' D E : Addr} {a b c a' b' c' d e : Value} (hb : Below w.heap.size w w')
    (h : ((w.cell? A = some a ∧ w.cell? B = some b ∧ w.cell? C = some c) ∧ (w.cell? A' = some a' ∧ w.cell? B' = some b' ∧ w.cell? C' = some c')) ∧ (w.cell? D = some d ∧ w.cell? E = some e)) :
    ((w'.cell? A = some a ∧ w'.cell? B = some b ∧ w'.cell? C = some c) ∧ (w'.cell? A' = some a' ∧ w'.cell? B' = some b' ∧ w'.cell? C' = some c')) ∧ (w'.cell? D = some d ∧ w'.cell? E = some e) :=
  have k : ∀ {x : Addr} {v : Value}, w.cell? x = some v → w'.cell? x = some v := fun h => (hb.cell (World.block_lt_of_cell? w _ h)).trans h
  ⟨held32 hb h.1, k h.2.1, k h.2.2⟩

theorem turned_at {m n : Nat} (d : List Int) {i j : Nat} (hi : i < n) (hj : j < m) : (M.turned m n d).getD (i * m + j) 0 = d.getD (j * n + i) 0 := by
  obtain ⟨h1, h2, h3⟩ := mat_place hi hj
  rw [Nat.mul_comm n m] at h1
  rw [List.getD_eq_getElem?_getD]
  simp only [M.turned, List.getElem?_map, List.getElem?_range h1, Option.map_some, Option.getD_some]
  rw [h2, h3]
theorem turned_all {m n : Nat} {d : List Int} (h : All64 d) : All64 (M.turned m n d) := fun x hx => by
  obtain ⟨p, _, rfl⟩ := List.mem_map.1 hx
  exact i64_getD h _
theorem turned_matL (m n : Nat) (A : Nat → Nat → Z6) : M.turned m n (matL m n A) = matL n m fun i j => A j i := by
  apply List.ext_getElem
  · rw [turned_length, matL_length, Nat.mul_comm]
  · intro q h1 h2
    have hq : q < m * n := by rw [turned_length] at h1; exact h1
    have hq' : q < n * m := by rw [Nat.mul_comm]; exact hq
    obtain ⟨g1, g2⟩ := mat_index hq'
    have e1 : (M.turned m n (matL m n A))[q] = (matL m n A).getD ((q % m) * n + q / m) 0 := by simp only [M.turned, List.getElem_map, List.getElem_range]
    have e2 : (matL n m fun i j => A j i)[q] = (A (q % m) (q / m)).1 := by simp only [matL, List.getElem_map, List.getElem_range]
    have e3 := congrArg Subtype.val (matA_L A (matL_i64 m n A) g2 g1)
    rw [e1, e2, ← e3]; rfl
theorem inner_turned {R : SR} {f g : Int} (h : R.Of f g) {m p n : Nat} (hm : m ≤ 64) (hp : p ≤ 64) (hn : n ≤ 64) {a b : List Int} (ha : All64 a) (hb : All64 b) (la : a.length = m * p) (lb : b.length = p * n) :
    ∃ X, M.inner f g ⟨false, [(m : Int), (p : Int)], a⟩ ⟨false, [(p : Int), (n : Int)], b⟩ = .ok ⟨false, [(m : Int), (n : Int)], X⟩ ∧
      M.inner f g ⟨false, [(n : Int), (p : Int)], M.turned p n b⟩ ⟨false, [(p : Int), (m : Int)], M.turned m p a⟩ = .ok ⟨false, [(n : Int), (m : Int)], M.turned m n X⟩ ∧ X.length = m * n := by
  refine ⟨matL m n (R.mm p (matA p ha) (matA n hb)), inner_sr R h hm hp hn ha hb la lb, ?_, matL_length _ _ _⟩
  rw [inner_sr R h hn hp hm (turned_all hb) (turned_all ha) (by rw [turned_length, Nat.mul_comm]) (by rw [turned_length, Nat.mul_comm]), turned_matL]
  congr 2
  refine matL_congr fun i l hi hl => ?_
  refine R.sm_congr fun j hj => ?_
  have e1 : matA p (turned_all (m := p) (n := n) hb) i j = matA n hb j i := Subtype.ext (turned_at b hi hj)
  have e2 : matA m (turned_all (m := m) (n := p) ha) j l = matA p ha l j := Subtype.ext (turned_at a hj hl)
  rw [e1, e2]
  exact R.mc _ _
theorem turned_fact : M.inner 6 7 ⟨false, [2], [1, 5]⟩ ⟨false, [2], [4, 3]⟩ = .ok ⟨false, [], [3]⟩ := by kernel_rfl

set_option maxRecDepth 20000 in
set_option maxHeartbeats 16000000 in
theorem prodTurned_walk (f g : Int) (b0 : Bool) (p0 q0 : Option Addr) (x0 y0 : List Int) (c0 d0 : Nat) (b1 : Bool) (p1 q1 : Option Addr) (x1 y1 : List Int) (c1 d1 : Nat) (w : World) (wf : I64 f) (wg : I64 g)
    (r0 : Row w p0 x0) (s0 : Row w q0 y0) (l0 : x0.length ≤ maxLen) (m0 : y0.length ≤ maxLen) (n0 : All64 x0) (o0 : All64 y0) (z0 : x0.length ≤ c0) (uu0 : y0.length ≤ d0)
    (r1 : Row w p1 x1) (s1 : Row w q1 y1) (l1 : x1.length ≤ maxLen) (m1 : y1.length ≤ maxLen) (n1 : All64 x1) (o1 : All64 y1) (z1 : x1.length ≤ c1) (uu1 : y1.length ≤ d1) :
    Calls Try.prog 9 #[.int .i64 f, .int .i64 g, arrV b0 p0 x0.length c0 q0 y0.length d0, arrV b1 p1 x1.length c1 q1 y1.length d1] w fun e w' => e = .returned (.bool true) ∧ Below w.heap.size w w' := by
  have E := ((((((Env.start w).addRow s1).addRow r1).addRow s0).addRow r0).box b0 p0 x0.length c0 q0 y0.length d0).box b1 p1 x1.length c1 q1 y1.length d1
  have hga := fun w h => grid_any 16 b0 p0 q0 x0 y0 _ c0 _ d0 w h l0 m0 rfl rfl
  have hgb := fun w h => grid_any 16 b1 p1 q1 x1 y1 _ c1 _ d1 w h l1 m1 rfl rfl
  have E1 := (E.alloc (.cells #[.int .i64 1, .int .i64 5] 3)).addRow (row_lit _ [1, 5] _ _ rfl)
  simp only [World.size_alloc] at E E1
  have hin := turned_fact
  replace hga := Lib.hid hga
  replace hgb := Lib.hid hgb
  replace hin := Lib.hid hin
  clear E
  go_enter Try.func9, Try.ntmps9
  go_wp2_with fail
  refine (lawVec_any _ [1, 5] _ _ _ (E1.getRow 0 rfl) (by simp) rfl).mono ?_
  rintro e v1 ⟨a1, e1, k1, rfl, ra, rb, hb⟩
  dsimp only [List.length_cons, List.length_nil, Nat.reduceAdd] at ra rb ⊢
  have E2 := ((((E1.step hb).drop1).addRow rb).addRow ra).alloc (.cells #[.int .i64 4, .int .i64 3] 3)
  have E2 := E2.addRow (row_lit _ [4, 3] _ _ rfl)
  clear E1 ra rb hb
  go_wp2_with fail
  refine (lawVec_any _ [4, 3] _ _ _ (E2.getRow 0 rfl) (by simp) rfl).mono ?_
  rintro e v2 ⟨a2, e2, k2, rfl, ra, rb, hb⟩
  dsimp only [List.length_cons, List.length_nil, Nat.reduceAdd] at ra rb ⊢
  have E3 := (((E2.step hb).drop1).addRow rb).addRow ra
  clear E2 ra rb hb
  go_wp2_with fail
  refine (inner_num 6 7 ⟨_, rfl⟩ false false rfl rfl a1 e1 a2 e2 [2] [1, 5] [2] [4, 3] 1 1 2 k1 1 1 2 k2 _ (E3.getRow 2 rfl) (E3.getRow 3 rfl) (by simp [maxLen]) (by simp [maxLen]) (by intro x hx; simp at hx; unfold I64; omega) (by simp) rfl rfl (E3.getRow 0 rfl) (E3.getRow 1 rfl) (by simp [maxLen]) (by simp [maxLen]) (by intro x hx; simp at hx; unfold I64; omega) (by simp) rfl rfl).mono ?_
  intro e v3 hp
  obtain ⟨af, cf, ef, kf, rfl, ra, rb, -, -, -, hb⟩ := hp.is_ok hin.out
  clear hp
  dsimp only [List.length_cons, List.length_nil, Nat.reduceAdd] at ra rb ⊢
  obtain ⟨bf, of', rfl, hcf⟩ := rb.alloc (.cells #[.bool false, .slice af 0 cf, .slice ef 1 kf] 24) 0 (by simp)
  have E4 := ((((E3.drop1).drop1).drop1).drop1).step hb |>.box false af 0 cf (some ⟨bf, of', none⟩) 1 kf
  simp only [List.getD_cons_zero, Nat.add_zero] at hcf
  clear ra rb hb E3
  obtain ⟨⟨u0, u1, u2⟩, -, -, -⟩ := E4.getBox 0 rfl
  go_upto_region 4 with fail
  clear u0 u1 u2 hcf
  have hbel : Below w.heap.size w (v3.alloc (.cells #[.bool false, .slice af 0 cf, .slice (some ⟨bf, of', none⟩) 1 kf] 24)).drew := below_drewN E4.bel 1
  have r0' : Row (v3.alloc (.cells #[.bool false, .slice af 0 cf, .slice (some ⟨bf, of', none⟩) 1 kf] 24)).drew p0 x0 := E4.getRow 3 rfl
  have r1' : Row (v3.alloc (.cells #[.bool false, .slice af 0 cf, .slice (some ⟨bf, of', none⟩) 1 kf] 24)).drew p1 x1 := E4.getRow 5 rfl
  have S0 : (v3.alloc (.cells #[.bool false, .slice af 0 cf, .slice (some ⟨bf, of', none⟩) 1 kf] 24)).drew.cell? ⟨w.heap.size, 0, none⟩ = some (.bool b0) ∧ (v3.alloc (.cells #[.bool false, .slice af 0 cf, .slice (some ⟨bf, of', none⟩) 1 kf] 24)).drew.cell? ⟨w.heap.size, 1, none⟩ = some (.slice p0 x0.length c0) ∧ (v3.alloc (.cells #[.bool false, .slice af 0 cf, .slice (some ⟨bf, of', none⟩) 1 kf] 24)).drew.cell? ⟨w.heap.size, 2, none⟩ = some (.slice q0 y0.length d0) := (E4.getBox 2 rfl).1
  have S1 : (v3.alloc (.cells #[.bool false, .slice af 0 cf, .slice (some ⟨bf, of', none⟩) 1 kf] 24)).drew.cell? ⟨w.heap.size + 1, 0, none⟩ = some (.bool b1) ∧ (v3.alloc (.cells #[.bool false, .slice af 0 cf, .slice (some ⟨bf, of', none⟩) 1 kf] 24)).drew.cell? ⟨w.heap.size + 1, 1, none⟩ = some (.slice p1 x1.length c1) ∧ (v3.alloc (.cells #[.bool false, .slice af 0 cf, .slice (some ⟨bf, of', none⟩) 1 kf] 24)).drew.cell? ⟨w.heap.size + 1, 2, none⟩ = some (.slice q1 y1.length d1) := (E4.getBox 1 rfl).1
  have SS := And.intro S0 S1
  replace l0 := Lib.hid l0
  replace l1 := Lib.hid l1
  replace m0 := Lib.hid m0
  replace m1 := Lib.hid m1
  replace o0 := Lib.hid o0
  replace o1 := Lib.hid o1
  replace z0 := Lib.hid z0
  replace z1 := Lib.hid z1
  clear wf wg n0 n1 uu0 uu1
  cases hse : M.semi f g with
  | false =>
    replace hse := Lib.hid hse
    clear E4 S0 S1
    refine wp_region_held_drew (S := (fun w' => (w'.cell? ⟨w.heap.size, 0, none⟩ = some (.bool b0) ∧ w'.cell? ⟨w.heap.size, 1, none⟩ = some (.slice p0 x0.length c0) ∧ w'.cell? ⟨w.heap.size, 2, none⟩ = some (.slice q0 y0.length d0)) ∧ (w'.cell? ⟨w.heap.size + 1, 0, none⟩ = some (.bool b1) ∧ w'.cell? ⟨w.heap.size + 1, 1, none⟩ = some (.slice p1 x1.length c1) ∧ w'.cell? ⟨w.heap.size + 1, 2, none⟩ = some (.slice q1 y1.length d1)))) (by kernel_rfl) ?_ (fun hHeld => ?_)
    · ((try dsimp only); (first | assumption | (exact held32 hb5 (by assumption)) | (exact held32 hb6 (by assumption)) | go_keep))
    refine wpAnyH_take (i := 0) (v := ?_) rfl (by kernel_rfl) (by kernel_rfl) (by kernel_rfl) (fun _ _ _ h => h) (Or.inl ⟨by kernel_rfl, ?_⟩) (by assumption) ?_
    rotate_left
    · (intro w hSw; (try dsimp only at hSw); go_simp); (try with_reducible rfl)
    try simp only [Act.put, List.getElem_toArray, List.getElem_cons_succ, List.getElem_cons_zero, List.setIfInBounds_toArray, List.set_cons_zero, List.set_cons_succ]
    refine wpAnyH_take (i := 1) (v := ?_) rfl (by kernel_rfl) (by kernel_rfl) (by kernel_rfl) (fun _ _ _ h => h) (Or.inl ⟨by kernel_rfl, ?_⟩) (by assumption) ?_
    rotate_left
    · (intro w hSw; (try dsimp only at hSw); go_simp); (try with_reducible rfl)
    try simp only [Act.put, List.getElem_toArray, List.getElem_cons_succ, List.getElem_cons_zero, List.setIfInBounds_toArray, List.set_cons_zero, List.set_cons_succ]
    refine wpAnyH_ready (rs := [2]) (by kernel_rfl) (by simp) ?_
    refine AllReadyH.cons rfl (fun K hK => ?_) AllReadyH.nil
    go_simp
    refine (semiring_any f g _).mono ?_; rintro e w4 ⟨he4, rfl⟩; rw [hse.out] at he4; subst he4
    try go_wp2_with fail
    refine hK.out _ _ (by (try dsimp only); (first | assumption | (exact held32 hb5 (by assumption)) | (exact held32 hb6 (by assumption)) | go_keep)) (fun hHeld => ?_)
    clear hK K
    try simp only [Act.put, List.getElem_toArray, List.getElem_cons_succ, List.getElem_cons_zero, List.setIfInBounds_toArray, List.set_cons_zero, List.set_cons_succ]
    refine wpAnyH_take (i := 3) (v := ?_) rfl (by kernel_rfl) (by kernel_rfl) (by kernel_rfl) (fun _ _ _ h => h) (Or.inl ⟨by kernel_rfl, ?_⟩) (by assumption) ?_
    rotate_left
    · (intro w hSw; (try dsimp only at hSw); go_simp); (try with_reducible rfl)
    try simp only [Act.put, List.getElem_toArray, List.getElem_cons_succ, List.getElem_cons_zero, List.setIfInBounds_toArray, List.set_cons_zero, List.set_cons_succ]
    refine wpAnyH_take (i := 4) (v := ?_) rfl (by kernel_rfl) (by kernel_rfl) (by kernel_rfl) (fun _ _ _ h => h) (Or.inl ⟨by kernel_rfl, ?_⟩) (by assumption) ?_
    rotate_left
    · (intro w hSw; (try dsimp only at hSw); go_simp); (try with_reducible rfl)
    try simp only [Act.put, List.getElem_toArray, List.getElem_cons_succ, List.getElem_cons_zero, List.setIfInBounds_toArray, List.set_cons_zero, List.set_cons_succ]
    refine wpAnyH_take (i := 5) (v := undef) rfl (by kernel_rfl) (by kernel_rfl) (by kernel_rfl) (fun _ _ _ h => h) (Or.inr ⟨by kernel_rfl, rfl⟩) (by assumption) ?_
    try simp only [Act.put, List.getElem_toArray, List.getElem_cons_succ, List.getElem_cons_zero, List.setIfInBounds_toArray, List.set_cons_zero, List.set_cons_succ]
    refine wpAnyH_take (i := 6) (v := undef) rfl (by kernel_rfl) (by kernel_rfl) (by kernel_rfl) (fun _ _ _ h => h) (Or.inr ⟨by kernel_rfl, rfl⟩) (by assumption) ?_
    try simp only [Act.put, List.getElem_toArray, List.getElem_cons_succ, List.getElem_cons_zero, List.setIfInBounds_toArray, List.set_cons_zero, List.set_cons_succ]
    refine wpAnyH_take (i := 7) (v := undef) rfl (by kernel_rfl) (by kernel_rfl) (by kernel_rfl) (fun _ _ _ h => h) (Or.inr ⟨by kernel_rfl, rfl⟩) (by assumption) ?_
    try simp only [Act.put, List.getElem_toArray, List.getElem_cons_succ, List.getElem_cons_zero, List.setIfInBounds_toArray, List.set_cons_zero, List.set_cons_succ]
    refine wpAnyH_take (i := 8) (v := ?_) rfl (by kernel_rfl) (by kernel_rfl) (by kernel_rfl) (fun _ _ _ h => h) (Or.inl ⟨by kernel_rfl, ?_⟩) (by assumption) ?_
    rotate_left
    · (intro w hSw; (try dsimp only at hSw); go_simp); (try with_reducible rfl)
    try simp only [Act.put, List.getElem_toArray, List.getElem_cons_succ, List.getElem_cons_zero, List.setIfInBounds_toArray, List.set_cons_zero, List.set_cons_succ]
    refine wpAnyH_take (i := 9) (v := ?_) rfl (by kernel_rfl) (by kernel_rfl) (by kernel_rfl) (fun _ _ _ h => h) (Or.inl ⟨by kernel_rfl, ?_⟩) (by assumption) ?_
    rotate_left
    · (intro w hSw; (try dsimp only at hSw); go_simp); (try with_reducible rfl)
    try simp only [Act.put, List.getElem_toArray, List.getElem_cons_succ, List.getElem_cons_zero, List.setIfInBounds_toArray, List.set_cons_zero, List.set_cons_succ]
    refine wpAnyH_take (i := 10) (v := undef) rfl (by kernel_rfl) (by kernel_rfl) (by kernel_rfl) (fun _ _ _ h => h) (Or.inr ⟨by kernel_rfl, rfl⟩) (by assumption) ?_
    try simp only [Act.put, List.getElem_toArray, List.getElem_cons_succ, List.getElem_cons_zero, List.setIfInBounds_toArray, List.set_cons_zero, List.set_cons_succ]
    refine wpAnyH_take (i := 11) (v := undef) rfl (by kernel_rfl) (by kernel_rfl) (by kernel_rfl) (fun _ _ _ h => h) (Or.inr ⟨by kernel_rfl, rfl⟩) (by assumption) ?_
    try simp only [Act.put, List.getElem_toArray, List.getElem_cons_succ, List.getElem_cons_zero, List.setIfInBounds_toArray, List.set_cons_zero, List.set_cons_succ]
    refine wpAnyH_take (i := 12) (v := undef) rfl (by kernel_rfl) (by kernel_rfl) (by kernel_rfl) (fun _ _ _ h => h) (Or.inr ⟨by kernel_rfl, rfl⟩) (by assumption) ?_
    try simp only [Act.put, List.getElem_toArray, List.getElem_cons_succ, List.getElem_cons_zero, List.setIfInBounds_toArray, List.set_cons_zero, List.set_cons_succ]
    refine wpAnyH_take (i := 13) (v := ?_) rfl (by kernel_rfl) (by kernel_rfl) (by kernel_rfl) (fun _ _ _ h => h) (Or.inl ⟨by kernel_rfl, ?_⟩) (by assumption) ?_
    rotate_left
    · (intro w hSw; (try dsimp only at hSw); go_simp); (try with_reducible rfl)
    try simp only [Act.put, List.getElem_toArray, List.getElem_cons_succ, List.getElem_cons_zero, List.setIfInBounds_toArray, List.set_cons_zero, List.set_cons_succ]
    refine wpAnyH_take (i := 14) (v := ?_) rfl (by kernel_rfl) (by kernel_rfl) (by kernel_rfl) (fun _ _ _ h => h) (Or.inl ⟨by kernel_rfl, ?_⟩) (by assumption) ?_
    rotate_left
    · (intro w hSw; (try dsimp only at hSw); go_simp); (try with_reducible rfl)
    try simp only [Act.put, List.getElem_toArray, List.getElem_cons_succ, List.getElem_cons_zero, List.setIfInBounds_toArray, List.set_cons_zero, List.set_cons_succ]
    refine wpAnyH_take (i := 15) (v := undef) rfl (by kernel_rfl) (by kernel_rfl) (by kernel_rfl) (fun _ _ _ h => h) (Or.inr ⟨by kernel_rfl, rfl⟩) (by assumption) ?_
    try simp only [Act.put, List.getElem_toArray, List.getElem_cons_succ, List.getElem_cons_zero, List.setIfInBounds_toArray, List.set_cons_zero, List.set_cons_succ]
    refine wpAnyH_take (i := 16) (v := undef) rfl (by kernel_rfl) (by kernel_rfl) (by kernel_rfl) (fun _ _ _ h => h) (Or.inr ⟨by kernel_rfl, rfl⟩) (by assumption) ?_
    try simp only [Act.put, List.getElem_toArray, List.getElem_cons_succ, List.getElem_cons_zero, List.setIfInBounds_toArray, List.set_cons_zero, List.set_cons_succ]
    refine wpAnyH_take (i := 17) (v := undef) rfl (by kernel_rfl) (by kernel_rfl) (by kernel_rfl) (fun _ _ _ h => h) (Or.inr ⟨by kernel_rfl, rfl⟩) (by assumption) ?_
    try simp only [Act.put, List.getElem_toArray, List.getElem_cons_succ, List.getElem_cons_zero, List.setIfInBounds_toArray, List.set_cons_zero, List.set_cons_succ]
    refine wpAnyH_take (i := 18) (v := undef) rfl (by kernel_rfl) (by kernel_rfl) (by kernel_rfl) (fun _ _ _ h => h) (Or.inr ⟨by kernel_rfl, rfl⟩) (by assumption) ?_
    try simp only [Act.put, List.getElem_toArray, List.getElem_cons_succ, List.getElem_cons_zero, List.setIfInBounds_toArray, List.set_cons_zero, List.set_cons_succ]
    refine wpAnyH_take (i := 19) (v := undef) rfl (by kernel_rfl) (by kernel_rfl) (by kernel_rfl) (fun _ _ _ h => h) (Or.inr ⟨by kernel_rfl, rfl⟩) (by assumption) ?_
    try simp only [Act.put, List.getElem_toArray, List.getElem_cons_succ, List.getElem_cons_zero, List.setIfInBounds_toArray, List.set_cons_zero, List.set_cons_succ]
    refine wpAnyH_take (i := 20) (v := undef) rfl (by kernel_rfl) (by kernel_rfl) (by kernel_rfl) (fun _ _ _ h => h) (Or.inr ⟨by kernel_rfl, rfl⟩) (by assumption) ?_
    try simp only [Act.put, List.getElem_toArray, List.getElem_cons_succ, List.getElem_cons_zero, List.setIfInBounds_toArray, List.set_cons_zero, List.set_cons_succ]
    refine wpAnyH_take (i := 21) (v := undef) rfl (by kernel_rfl) (by kernel_rfl) (by kernel_rfl) (fun _ _ _ h => h) (Or.inr ⟨by kernel_rfl, rfl⟩) (by assumption) ?_
    try simp only [Act.put, List.getElem_toArray, List.getElem_cons_succ, List.getElem_cons_zero, List.setIfInBounds_toArray, List.set_cons_zero, List.set_cons_succ]
    refine wpAnyH_take (i := 22) (v := undef) rfl (by kernel_rfl) (by kernel_rfl) (by kernel_rfl) (fun _ _ _ h => h) (Or.inr ⟨by kernel_rfl, rfl⟩) (by assumption) ?_
    try simp only [Act.put, List.getElem_toArray, List.getElem_cons_succ, List.getElem_cons_zero, List.setIfInBounds_toArray, List.set_cons_zero, List.set_cons_succ]
    refine wpAnyH_take (i := 23) (v := undef) rfl (by kernel_rfl) (by kernel_rfl) (by kernel_rfl) (fun _ _ _ h => h) (Or.inr ⟨by kernel_rfl, rfl⟩) (by assumption) ?_
    try simp only [Act.put, List.getElem_toArray, List.getElem_cons_succ, List.getElem_cons_zero, List.setIfInBounds_toArray, List.set_cons_zero, List.set_cons_succ]
    refine wpAnyH_take (i := 24) (v := ?_) rfl (by kernel_rfl) (by kernel_rfl) (by kernel_rfl) (fun _ _ _ h => h) (Or.inl ⟨by kernel_rfl, ?_⟩) (by assumption) ?_
    rotate_left
    · (intro w hSw; (try dsimp only at hSw); go_simp); (try with_reducible rfl)
    try simp only [Act.put, List.getElem_toArray, List.getElem_cons_succ, List.getElem_cons_zero, List.setIfInBounds_toArray, List.set_cons_zero, List.set_cons_succ]
    refine wpAnyH_done (by kernel_rfl) ?_ _
    go_wp2
    go_ret
    exact ⟨rfl, hbel⟩
  | true =>
  cases hqa : M.grid ⟨b0, x0, y0⟩ 16 with
  | false =>
    replace hse := Lib.hid hse
    replace hqa := Lib.hid hqa
    clear E4 S0 S1
    refine wp_region_held_drew (S := (fun w' => (w'.cell? ⟨w.heap.size, 0, none⟩ = some (.bool b0) ∧ w'.cell? ⟨w.heap.size, 1, none⟩ = some (.slice p0 x0.length c0) ∧ w'.cell? ⟨w.heap.size, 2, none⟩ = some (.slice q0 y0.length d0)) ∧ (w'.cell? ⟨w.heap.size + 1, 0, none⟩ = some (.bool b1) ∧ w'.cell? ⟨w.heap.size + 1, 1, none⟩ = some (.slice p1 x1.length c1) ∧ w'.cell? ⟨w.heap.size + 1, 2, none⟩ = some (.slice q1 y1.length d1)))) (by kernel_rfl) ?_ (fun hHeld => ?_)
    · ((try dsimp only); (first | assumption | (exact held32 hb5 (by assumption)) | (exact held32 hb6 (by assumption)) | go_keep))
    refine wpAnyH_take (i := 0) (v := ?_) rfl (by kernel_rfl) (by kernel_rfl) (by kernel_rfl) (fun _ _ _ h => h) (Or.inl ⟨by kernel_rfl, ?_⟩) (by assumption) ?_
    rotate_left
    · (intro w hSw; (try dsimp only at hSw); go_simp); (try with_reducible rfl)
    try simp only [Act.put, List.getElem_toArray, List.getElem_cons_succ, List.getElem_cons_zero, List.setIfInBounds_toArray, List.set_cons_zero, List.set_cons_succ]
    refine wpAnyH_take (i := 1) (v := ?_) rfl (by kernel_rfl) (by kernel_rfl) (by kernel_rfl) (fun _ _ _ h => h) (Or.inl ⟨by kernel_rfl, ?_⟩) (by assumption) ?_
    rotate_left
    · (intro w hSw; (try dsimp only at hSw); go_simp); (try with_reducible rfl)
    try simp only [Act.put, List.getElem_toArray, List.getElem_cons_succ, List.getElem_cons_zero, List.setIfInBounds_toArray, List.set_cons_zero, List.set_cons_succ]
    refine wpAnyH_ready (rs := [2]) (by kernel_rfl) (by simp) ?_
    refine AllReadyH.cons rfl (fun K hK => ?_) AllReadyH.nil
    go_simp
    refine (semiring_any f g _).mono ?_; rintro e w4 ⟨he4, rfl⟩; rw [hse.out] at he4; subst he4
    try go_wp2_with fail
    refine hK.out _ _ (by (try dsimp only); (first | assumption | (exact held32 hb5 (by assumption)) | (exact held32 hb6 (by assumption)) | go_keep)) (fun hHeld => ?_)
    clear hK K
    try simp only [Act.put, List.getElem_toArray, List.getElem_cons_succ, List.getElem_cons_zero, List.setIfInBounds_toArray, List.set_cons_zero, List.set_cons_succ]
    refine wpAnyH_take (i := 3) (v := ?_) rfl (by kernel_rfl) (by kernel_rfl) (by kernel_rfl) (fun _ _ _ h => h) (Or.inl ⟨by kernel_rfl, ?_⟩) (by assumption) ?_
    rotate_left
    · (intro w hSw; (try dsimp only at hSw); go_simp); (try with_reducible rfl)
    try simp only [Act.put, List.getElem_toArray, List.getElem_cons_succ, List.getElem_cons_zero, List.setIfInBounds_toArray, List.set_cons_zero, List.set_cons_succ]
    refine wpAnyH_take (i := 4) (v := ?_) rfl (by kernel_rfl) (by kernel_rfl) (by kernel_rfl) (fun _ _ _ h => h) (Or.inl ⟨by kernel_rfl, ?_⟩) (by assumption) ?_
    rotate_left
    · (intro w hSw; (try dsimp only at hSw); go_simp); (try with_reducible rfl)
    try simp only [Act.put, List.getElem_toArray, List.getElem_cons_succ, List.getElem_cons_zero, List.setIfInBounds_toArray, List.set_cons_zero, List.set_cons_succ]
    refine wpAnyH_take (i := 5) (v := ?_) rfl (by kernel_rfl) (by kernel_rfl) (by kernel_rfl) (fun _ _ _ h => h) (Or.inl ⟨by kernel_rfl, ?_⟩) (by assumption) ?_
    rotate_left
    · (intro w hSw; (try dsimp only at hSw); go_simp); (try with_reducible rfl)
    try simp only [Act.put, List.getElem_toArray, List.getElem_cons_succ, List.getElem_cons_zero, List.setIfInBounds_toArray, List.set_cons_zero, List.set_cons_succ]
    refine wpAnyH_ready (rs := [6]) (by kernel_rfl) (by simp) ?_
    refine AllReadyH.cons rfl (fun K hK => ?_) AllReadyH.nil
    go_simp
    refine (hga.out _ r0').mono ?_; rintro e w5 ⟨he5, hb5⟩; rw [hqa.out] at he5; subst he5
    try go_wp2_with fail
    refine hK.out _ _ (by (try dsimp only); (first | assumption | (exact held32 hb5 (by assumption)) | (exact held32 hb6 (by assumption)) | go_keep)) (fun hHeld => ?_)
    clear hK K
    try simp only [Act.put, List.getElem_toArray, List.getElem_cons_succ, List.getElem_cons_zero, List.setIfInBounds_toArray, List.set_cons_zero, List.set_cons_succ]
    refine wpAnyH_take (i := 7) (v := ?_) rfl (by kernel_rfl) (by kernel_rfl) (by kernel_rfl) (fun _ _ _ h => h) (Or.inl ⟨by kernel_rfl, ?_⟩) (by assumption) ?_
    rotate_left
    · (intro w hSw; (try dsimp only at hSw); go_simp); (try with_reducible rfl)
    try simp only [Act.put, List.getElem_toArray, List.getElem_cons_succ, List.getElem_cons_zero, List.setIfInBounds_toArray, List.set_cons_zero, List.set_cons_succ]
    refine wpAnyH_take (i := 8) (v := ?_) rfl (by kernel_rfl) (by kernel_rfl) (by kernel_rfl) (fun _ _ _ h => h) (Or.inl ⟨by kernel_rfl, ?_⟩) (by assumption) ?_
    rotate_left
    · (intro w hSw; (try dsimp only at hSw); go_simp); (try with_reducible rfl)
    try simp only [Act.put, List.getElem_toArray, List.getElem_cons_succ, List.getElem_cons_zero, List.setIfInBounds_toArray, List.set_cons_zero, List.set_cons_succ]
    refine wpAnyH_take (i := 9) (v := ?_) rfl (by kernel_rfl) (by kernel_rfl) (by kernel_rfl) (fun _ _ _ h => h) (Or.inl ⟨by kernel_rfl, ?_⟩) (by assumption) ?_
    rotate_left
    · (intro w hSw; (try dsimp only at hSw); go_simp); (try with_reducible rfl)
    try simp only [Act.put, List.getElem_toArray, List.getElem_cons_succ, List.getElem_cons_zero, List.setIfInBounds_toArray, List.set_cons_zero, List.set_cons_succ]
    refine wpAnyH_take (i := 10) (v := undef) rfl (by kernel_rfl) (by kernel_rfl) (by kernel_rfl) (fun _ _ _ h => h) (Or.inr ⟨by kernel_rfl, rfl⟩) (by assumption) ?_
    try simp only [Act.put, List.getElem_toArray, List.getElem_cons_succ, List.getElem_cons_zero, List.setIfInBounds_toArray, List.set_cons_zero, List.set_cons_succ]
    refine wpAnyH_take (i := 11) (v := undef) rfl (by kernel_rfl) (by kernel_rfl) (by kernel_rfl) (fun _ _ _ h => h) (Or.inr ⟨by kernel_rfl, rfl⟩) (by assumption) ?_
    try simp only [Act.put, List.getElem_toArray, List.getElem_cons_succ, List.getElem_cons_zero, List.setIfInBounds_toArray, List.set_cons_zero, List.set_cons_succ]
    refine wpAnyH_take (i := 12) (v := undef) rfl (by kernel_rfl) (by kernel_rfl) (by kernel_rfl) (fun _ _ _ h => h) (Or.inr ⟨by kernel_rfl, rfl⟩) (by assumption) ?_
    try simp only [Act.put, List.getElem_toArray, List.getElem_cons_succ, List.getElem_cons_zero, List.setIfInBounds_toArray, List.set_cons_zero, List.set_cons_succ]
    refine wpAnyH_take (i := 13) (v := ?_) rfl (by kernel_rfl) (by kernel_rfl) (by kernel_rfl) (fun _ _ _ h => h) (Or.inl ⟨by kernel_rfl, ?_⟩) (by assumption) ?_
    rotate_left
    · (intro w hSw; (try dsimp only at hSw); go_simp); (try with_reducible rfl)
    try simp only [Act.put, List.getElem_toArray, List.getElem_cons_succ, List.getElem_cons_zero, List.setIfInBounds_toArray, List.set_cons_zero, List.set_cons_succ]
    refine wpAnyH_take (i := 14) (v := ?_) rfl (by kernel_rfl) (by kernel_rfl) (by kernel_rfl) (fun _ _ _ h => h) (Or.inl ⟨by kernel_rfl, ?_⟩) (by assumption) ?_
    rotate_left
    · (intro w hSw; (try dsimp only at hSw); go_simp); (try with_reducible rfl)
    try simp only [Act.put, List.getElem_toArray, List.getElem_cons_succ, List.getElem_cons_zero, List.setIfInBounds_toArray, List.set_cons_zero, List.set_cons_succ]
    refine wpAnyH_take (i := 15) (v := undef) rfl (by kernel_rfl) (by kernel_rfl) (by kernel_rfl) (fun _ _ _ h => h) (Or.inr ⟨by kernel_rfl, rfl⟩) (by assumption) ?_
    try simp only [Act.put, List.getElem_toArray, List.getElem_cons_succ, List.getElem_cons_zero, List.setIfInBounds_toArray, List.set_cons_zero, List.set_cons_succ]
    refine wpAnyH_take (i := 16) (v := undef) rfl (by kernel_rfl) (by kernel_rfl) (by kernel_rfl) (fun _ _ _ h => h) (Or.inr ⟨by kernel_rfl, rfl⟩) (by assumption) ?_
    try simp only [Act.put, List.getElem_toArray, List.getElem_cons_succ, List.getElem_cons_zero, List.setIfInBounds_toArray, List.set_cons_zero, List.set_cons_succ]
    refine wpAnyH_take (i := 17) (v := undef) rfl (by kernel_rfl) (by kernel_rfl) (by kernel_rfl) (fun _ _ _ h => h) (Or.inr ⟨by kernel_rfl, rfl⟩) (by assumption) ?_
    try simp only [Act.put, List.getElem_toArray, List.getElem_cons_succ, List.getElem_cons_zero, List.setIfInBounds_toArray, List.set_cons_zero, List.set_cons_succ]
    refine wpAnyH_take (i := 18) (v := undef) rfl (by kernel_rfl) (by kernel_rfl) (by kernel_rfl) (fun _ _ _ h => h) (Or.inr ⟨by kernel_rfl, rfl⟩) (by assumption) ?_
    try simp only [Act.put, List.getElem_toArray, List.getElem_cons_succ, List.getElem_cons_zero, List.setIfInBounds_toArray, List.set_cons_zero, List.set_cons_succ]
    refine wpAnyH_take (i := 19) (v := undef) rfl (by kernel_rfl) (by kernel_rfl) (by kernel_rfl) (fun _ _ _ h => h) (Or.inr ⟨by kernel_rfl, rfl⟩) (by assumption) ?_
    try simp only [Act.put, List.getElem_toArray, List.getElem_cons_succ, List.getElem_cons_zero, List.setIfInBounds_toArray, List.set_cons_zero, List.set_cons_succ]
    refine wpAnyH_take (i := 20) (v := undef) rfl (by kernel_rfl) (by kernel_rfl) (by kernel_rfl) (fun _ _ _ h => h) (Or.inr ⟨by kernel_rfl, rfl⟩) (by assumption) ?_
    try simp only [Act.put, List.getElem_toArray, List.getElem_cons_succ, List.getElem_cons_zero, List.setIfInBounds_toArray, List.set_cons_zero, List.set_cons_succ]
    refine wpAnyH_take (i := 21) (v := undef) rfl (by kernel_rfl) (by kernel_rfl) (by kernel_rfl) (fun _ _ _ h => h) (Or.inr ⟨by kernel_rfl, rfl⟩) (by assumption) ?_
    try simp only [Act.put, List.getElem_toArray, List.getElem_cons_succ, List.getElem_cons_zero, List.setIfInBounds_toArray, List.set_cons_zero, List.set_cons_succ]
    refine wpAnyH_take (i := 22) (v := undef) rfl (by kernel_rfl) (by kernel_rfl) (by kernel_rfl) (fun _ _ _ h => h) (Or.inr ⟨by kernel_rfl, rfl⟩) (by assumption) ?_
    try simp only [Act.put, List.getElem_toArray, List.getElem_cons_succ, List.getElem_cons_zero, List.setIfInBounds_toArray, List.set_cons_zero, List.set_cons_succ]
    refine wpAnyH_take (i := 23) (v := undef) rfl (by kernel_rfl) (by kernel_rfl) (by kernel_rfl) (fun _ _ _ h => h) (Or.inr ⟨by kernel_rfl, rfl⟩) (by assumption) ?_
    try simp only [Act.put, List.getElem_toArray, List.getElem_cons_succ, List.getElem_cons_zero, List.setIfInBounds_toArray, List.set_cons_zero, List.set_cons_succ]
    refine wpAnyH_take (i := 24) (v := ?_) rfl (by kernel_rfl) (by kernel_rfl) (by kernel_rfl) (fun _ _ _ h => h) (Or.inl ⟨by kernel_rfl, ?_⟩) (by assumption) ?_
    rotate_left
    · (intro w hSw; (try dsimp only at hSw); go_simp); (try with_reducible rfl)
    try simp only [Act.put, List.getElem_toArray, List.getElem_cons_succ, List.getElem_cons_zero, List.setIfInBounds_toArray, List.set_cons_zero, List.set_cons_succ]
    refine wpAnyH_done (by kernel_rfl) ?_ _
    go_wp2
    go_ret
    exact ⟨rfl, below_trans hbel hb5⟩
  | true =>
  cases hqb : M.grid ⟨b1, x1, y1⟩ 16 with
  | false =>
    replace hse := Lib.hid hse
    replace hqa := Lib.hid hqa
    replace hqb := Lib.hid hqb
    clear E4 S0 S1
    refine wp_region_held_drew (S := (fun w' => (w'.cell? ⟨w.heap.size, 0, none⟩ = some (.bool b0) ∧ w'.cell? ⟨w.heap.size, 1, none⟩ = some (.slice p0 x0.length c0) ∧ w'.cell? ⟨w.heap.size, 2, none⟩ = some (.slice q0 y0.length d0)) ∧ (w'.cell? ⟨w.heap.size + 1, 0, none⟩ = some (.bool b1) ∧ w'.cell? ⟨w.heap.size + 1, 1, none⟩ = some (.slice p1 x1.length c1) ∧ w'.cell? ⟨w.heap.size + 1, 2, none⟩ = some (.slice q1 y1.length d1)))) (by kernel_rfl) ?_ (fun hHeld => ?_)
    · ((try dsimp only); (first | assumption | (exact held32 hb5 (by assumption)) | (exact held32 hb6 (by assumption)) | go_keep))
    refine wpAnyH_take (i := 0) (v := ?_) rfl (by kernel_rfl) (by kernel_rfl) (by kernel_rfl) (fun _ _ _ h => h) (Or.inl ⟨by kernel_rfl, ?_⟩) (by assumption) ?_
    rotate_left
    · (intro w hSw; (try dsimp only at hSw); go_simp); (try with_reducible rfl)
    try simp only [Act.put, List.getElem_toArray, List.getElem_cons_succ, List.getElem_cons_zero, List.setIfInBounds_toArray, List.set_cons_zero, List.set_cons_succ]
    refine wpAnyH_take (i := 1) (v := ?_) rfl (by kernel_rfl) (by kernel_rfl) (by kernel_rfl) (fun _ _ _ h => h) (Or.inl ⟨by kernel_rfl, ?_⟩) (by assumption) ?_
    rotate_left
    · (intro w hSw; (try dsimp only at hSw); go_simp); (try with_reducible rfl)
    try simp only [Act.put, List.getElem_toArray, List.getElem_cons_succ, List.getElem_cons_zero, List.setIfInBounds_toArray, List.set_cons_zero, List.set_cons_succ]
    refine wpAnyH_ready (rs := [2]) (by kernel_rfl) (by simp) ?_
    refine AllReadyH.cons rfl (fun K hK => ?_) AllReadyH.nil
    go_simp
    refine (semiring_any f g _).mono ?_; rintro e w4 ⟨he4, rfl⟩; rw [hse.out] at he4; subst he4
    try go_wp2_with fail
    refine hK.out _ _ (by (try dsimp only); (first | assumption | (exact held32 hb5 (by assumption)) | (exact held32 hb6 (by assumption)) | go_keep)) (fun hHeld => ?_)
    clear hK K
    try simp only [Act.put, List.getElem_toArray, List.getElem_cons_succ, List.getElem_cons_zero, List.setIfInBounds_toArray, List.set_cons_zero, List.set_cons_succ]
    refine wpAnyH_take (i := 3) (v := ?_) rfl (by kernel_rfl) (by kernel_rfl) (by kernel_rfl) (fun _ _ _ h => h) (Or.inl ⟨by kernel_rfl, ?_⟩) (by assumption) ?_
    rotate_left
    · (intro w hSw; (try dsimp only at hSw); go_simp); (try with_reducible rfl)
    try simp only [Act.put, List.getElem_toArray, List.getElem_cons_succ, List.getElem_cons_zero, List.setIfInBounds_toArray, List.set_cons_zero, List.set_cons_succ]
    refine wpAnyH_take (i := 4) (v := ?_) rfl (by kernel_rfl) (by kernel_rfl) (by kernel_rfl) (fun _ _ _ h => h) (Or.inl ⟨by kernel_rfl, ?_⟩) (by assumption) ?_
    rotate_left
    · (intro w hSw; (try dsimp only at hSw); go_simp); (try with_reducible rfl)
    try simp only [Act.put, List.getElem_toArray, List.getElem_cons_succ, List.getElem_cons_zero, List.setIfInBounds_toArray, List.set_cons_zero, List.set_cons_succ]
    refine wpAnyH_take (i := 5) (v := ?_) rfl (by kernel_rfl) (by kernel_rfl) (by kernel_rfl) (fun _ _ _ h => h) (Or.inl ⟨by kernel_rfl, ?_⟩) (by assumption) ?_
    rotate_left
    · (intro w hSw; (try dsimp only at hSw); go_simp); (try with_reducible rfl)
    try simp only [Act.put, List.getElem_toArray, List.getElem_cons_succ, List.getElem_cons_zero, List.setIfInBounds_toArray, List.set_cons_zero, List.set_cons_succ]
    refine wpAnyH_ready (rs := [6]) (by kernel_rfl) (by simp) ?_
    refine AllReadyH.cons rfl (fun K hK => ?_) AllReadyH.nil
    go_simp
    refine (hga.out _ r0').mono ?_; rintro e w5 ⟨he5, hb5⟩; rw [hqa.out] at he5; subst he5
    try go_wp2_with fail
    refine hK.out _ _ (by (try dsimp only); (first | assumption | (exact held32 hb5 (by assumption)) | (exact held32 hb6 (by assumption)) | go_keep)) (fun hHeld => ?_)
    clear hK K
    try simp only [Act.put, List.getElem_toArray, List.getElem_cons_succ, List.getElem_cons_zero, List.setIfInBounds_toArray, List.set_cons_zero, List.set_cons_succ]
    refine wpAnyH_take (i := 7) (v := ?_) rfl (by kernel_rfl) (by kernel_rfl) (by kernel_rfl) (fun _ _ _ h => h) (Or.inl ⟨by kernel_rfl, ?_⟩) (by assumption) ?_
    rotate_left
    · (intro w hSw; (try dsimp only at hSw); go_simp); (try with_reducible rfl)
    try simp only [Act.put, List.getElem_toArray, List.getElem_cons_succ, List.getElem_cons_zero, List.setIfInBounds_toArray, List.set_cons_zero, List.set_cons_succ]
    refine wpAnyH_take (i := 8) (v := ?_) rfl (by kernel_rfl) (by kernel_rfl) (by kernel_rfl) (fun _ _ _ h => h) (Or.inl ⟨by kernel_rfl, ?_⟩) (by assumption) ?_
    rotate_left
    · (intro w hSw; (try dsimp only at hSw); go_simp); (try with_reducible rfl)
    try simp only [Act.put, List.getElem_toArray, List.getElem_cons_succ, List.getElem_cons_zero, List.setIfInBounds_toArray, List.set_cons_zero, List.set_cons_succ]
    refine wpAnyH_take (i := 9) (v := ?_) rfl (by kernel_rfl) (by kernel_rfl) (by kernel_rfl) (fun _ _ _ h => h) (Or.inl ⟨by kernel_rfl, ?_⟩) (by assumption) ?_
    rotate_left
    · (intro w hSw; (try dsimp only at hSw); go_simp); (try with_reducible rfl)
    try simp only [Act.put, List.getElem_toArray, List.getElem_cons_succ, List.getElem_cons_zero, List.setIfInBounds_toArray, List.set_cons_zero, List.set_cons_succ]
    refine wpAnyH_take (i := 10) (v := ?_) rfl (by kernel_rfl) (by kernel_rfl) (by kernel_rfl) (fun _ _ _ h => h) (Or.inl ⟨by kernel_rfl, ?_⟩) (by assumption) ?_
    rotate_left
    · (intro w hSw; (try dsimp only at hSw); go_simp); (try with_reducible rfl)
    try simp only [Act.put, List.getElem_toArray, List.getElem_cons_succ, List.getElem_cons_zero, List.setIfInBounds_toArray, List.set_cons_zero, List.set_cons_succ]
    refine wpAnyH_ready (rs := [11]) (by kernel_rfl) (by simp) ?_
    refine AllReadyH.cons rfl (fun K hK => ?_) AllReadyH.nil
    go_simp
    refine (hgb.out _ (r1'.below hb5)).mono ?_; rintro e w6 ⟨he6, hb6⟩; rw [hqb.out] at he6; subst he6
    try go_wp2_with fail
    refine hK.out _ _ (by (try dsimp only); (first | assumption | (exact held32 hb5 (by assumption)) | (exact held32 hb6 (by assumption)) | go_keep)) (fun hHeld => ?_)
    clear hK K
    try simp only [Act.put, List.getElem_toArray, List.getElem_cons_succ, List.getElem_cons_zero, List.setIfInBounds_toArray, List.set_cons_zero, List.set_cons_succ]
    refine wpAnyH_take (i := 12) (v := ?_) rfl (by kernel_rfl) (by kernel_rfl) (by kernel_rfl) (fun _ _ _ h => h) (Or.inl ⟨by kernel_rfl, ?_⟩) (by assumption) ?_
    rotate_left
    · (intro w hSw; (try dsimp only at hSw); go_simp); (try with_reducible rfl)
    try simp only [Act.put, List.getElem_toArray, List.getElem_cons_succ, List.getElem_cons_zero, List.setIfInBounds_toArray, List.set_cons_zero, List.set_cons_succ]
    refine wpAnyH_take (i := 13) (v := ?_) rfl (by kernel_rfl) (by kernel_rfl) (by kernel_rfl) (fun _ _ _ h => h) (Or.inl ⟨by kernel_rfl, ?_⟩) (by assumption) ?_
    rotate_left
    · (intro w hSw; (try dsimp only at hSw); go_simp); (try with_reducible rfl)
    try simp only [Act.put, List.getElem_toArray, List.getElem_cons_succ, List.getElem_cons_zero, List.setIfInBounds_toArray, List.set_cons_zero, List.set_cons_succ]
    refine wpAnyH_take (i := 14) (v := ?_) rfl (by kernel_rfl) (by kernel_rfl) (by kernel_rfl) (fun _ _ _ h => h) (Or.inl ⟨by kernel_rfl, ?_⟩) (by assumption) ?_
    rotate_left
    · (intro w hSw; (try dsimp only at hSw); go_simp); (try with_reducible rfl)
    try simp only [Act.put, List.getElem_toArray, List.getElem_cons_succ, List.getElem_cons_zero, List.setIfInBounds_toArray, List.set_cons_zero, List.set_cons_succ]
    refine wpAnyH_take (i := 15) (v := undef) rfl (by kernel_rfl) (by kernel_rfl) (by kernel_rfl) (fun _ _ _ h => h) (Or.inr ⟨by kernel_rfl, rfl⟩) (by assumption) ?_
    try simp only [Act.put, List.getElem_toArray, List.getElem_cons_succ, List.getElem_cons_zero, List.setIfInBounds_toArray, List.set_cons_zero, List.set_cons_succ]
    refine wpAnyH_take (i := 16) (v := undef) rfl (by kernel_rfl) (by kernel_rfl) (by kernel_rfl) (fun _ _ _ h => h) (Or.inr ⟨by kernel_rfl, rfl⟩) (by assumption) ?_
    try simp only [Act.put, List.getElem_toArray, List.getElem_cons_succ, List.getElem_cons_zero, List.setIfInBounds_toArray, List.set_cons_zero, List.set_cons_succ]
    refine wpAnyH_take (i := 17) (v := undef) rfl (by kernel_rfl) (by kernel_rfl) (by kernel_rfl) (fun _ _ _ h => h) (Or.inr ⟨by kernel_rfl, rfl⟩) (by assumption) ?_
    try simp only [Act.put, List.getElem_toArray, List.getElem_cons_succ, List.getElem_cons_zero, List.setIfInBounds_toArray, List.set_cons_zero, List.set_cons_succ]
    refine wpAnyH_take (i := 18) (v := undef) rfl (by kernel_rfl) (by kernel_rfl) (by kernel_rfl) (fun _ _ _ h => h) (Or.inr ⟨by kernel_rfl, rfl⟩) (by assumption) ?_
    try simp only [Act.put, List.getElem_toArray, List.getElem_cons_succ, List.getElem_cons_zero, List.setIfInBounds_toArray, List.set_cons_zero, List.set_cons_succ]
    refine wpAnyH_take (i := 19) (v := undef) rfl (by kernel_rfl) (by kernel_rfl) (by kernel_rfl) (fun _ _ _ h => h) (Or.inr ⟨by kernel_rfl, rfl⟩) (by assumption) ?_
    try simp only [Act.put, List.getElem_toArray, List.getElem_cons_succ, List.getElem_cons_zero, List.setIfInBounds_toArray, List.set_cons_zero, List.set_cons_succ]
    refine wpAnyH_take (i := 20) (v := undef) rfl (by kernel_rfl) (by kernel_rfl) (by kernel_rfl) (fun _ _ _ h => h) (Or.inr ⟨by kernel_rfl, rfl⟩) (by assumption) ?_
    try simp only [Act.put, List.getElem_toArray, List.getElem_cons_succ, List.getElem_cons_zero, List.setIfInBounds_toArray, List.set_cons_zero, List.set_cons_succ]
    refine wpAnyH_take (i := 21) (v := undef) rfl (by kernel_rfl) (by kernel_rfl) (by kernel_rfl) (fun _ _ _ h => h) (Or.inr ⟨by kernel_rfl, rfl⟩) (by assumption) ?_
    try simp only [Act.put, List.getElem_toArray, List.getElem_cons_succ, List.getElem_cons_zero, List.setIfInBounds_toArray, List.set_cons_zero, List.set_cons_succ]
    refine wpAnyH_take (i := 22) (v := undef) rfl (by kernel_rfl) (by kernel_rfl) (by kernel_rfl) (fun _ _ _ h => h) (Or.inr ⟨by kernel_rfl, rfl⟩) (by assumption) ?_
    try simp only [Act.put, List.getElem_toArray, List.getElem_cons_succ, List.getElem_cons_zero, List.setIfInBounds_toArray, List.set_cons_zero, List.set_cons_succ]
    refine wpAnyH_take (i := 23) (v := undef) rfl (by kernel_rfl) (by kernel_rfl) (by kernel_rfl) (fun _ _ _ h => h) (Or.inr ⟨by kernel_rfl, rfl⟩) (by assumption) ?_
    try simp only [Act.put, List.getElem_toArray, List.getElem_cons_succ, List.getElem_cons_zero, List.setIfInBounds_toArray, List.set_cons_zero, List.set_cons_succ]
    refine wpAnyH_take (i := 24) (v := ?_) rfl (by kernel_rfl) (by kernel_rfl) (by kernel_rfl) (fun _ _ _ h => h) (Or.inl ⟨by kernel_rfl, ?_⟩) (by assumption) ?_
    rotate_left
    · (intro w hSw; (try dsimp only at hSw); go_simp); (try with_reducible rfl)
    try simp only [Act.put, List.getElem_toArray, List.getElem_cons_succ, List.getElem_cons_zero, List.setIfInBounds_toArray, List.set_cons_zero, List.set_cons_succ]
    refine wpAnyH_done (by kernel_rfl) ?_ _
    go_wp2
    go_ret
    exact ⟨rfl, below_trans (below_trans hbel hb5) hb6⟩
  | true =>
    clear SS S0 S1
    obtain ⟨R, hR⟩ := semi_sr hse
    obtain ⟨m, p, hm, hp, hx, la⟩ := grid_parts hqa (by decide)
    rw [Arr.mk.injEq] at hx
    obtain ⟨rfl, rfl, -⟩ := hx
    obtain ⟨p', n, hp', hn, hx, lb⟩ := grid_parts hqb (by decide)
    rw [Arr.mk.injEq] at hx
    obtain ⟨rfl, rfl, -⟩ := hx
    dsimp only at la lb
    obtain ⟨ba, oa, rfl, ca⟩ := r0' 1 (by simp)
    obtain ⟨bb, ob, rfl, cb⟩ := r1' 0 (by simp)
    simp only [List.getD_cons_zero, List.getD_cons_succ, Nat.add_zero, List.length_cons, List.length_nil, Nat.zero_add, Nat.reduceAdd] at ca cb E4 ⊢
    replace la := Lib.hid la
    replace lb := Lib.hid lb
    replace hse := Lib.hid hse
    replace hqa := Lib.hid hqa
    replace hqb := Lib.hid hqb
    replace hR := Lib.hid hR
    have S0 : (v3.alloc (.cells #[.bool false, .slice af 0 cf, .slice (some ⟨bf, of', none⟩) 1 kf] 24)).drew.cell? ⟨w.heap.size, 0, none⟩ = some (.bool false) ∧ (v3.alloc (.cells #[.bool false, .slice af 0 cf, .slice (some ⟨bf, of', none⟩) 1 kf] 24)).drew.cell? ⟨w.heap.size, 1, none⟩ = some (.slice (some ⟨ba, oa, none⟩) 2 c0) ∧ (v3.alloc (.cells #[.bool false, .slice af 0 cf, .slice (some ⟨bf, of', none⟩) 1 kf] 24)).drew.cell? ⟨w.heap.size, 2, none⟩ = some (.slice q0 y0.length d0) := (E4.getBox 2 rfl).1
    have S1 : (v3.alloc (.cells #[.bool false, .slice af 0 cf, .slice (some ⟨bf, of', none⟩) 1 kf] 24)).drew.cell? ⟨w.heap.size + 1, 0, none⟩ = some (.bool false) ∧ (v3.alloc (.cells #[.bool false, .slice af 0 cf, .slice (some ⟨bf, of', none⟩) 1 kf] 24)).drew.cell? ⟨w.heap.size + 1, 1, none⟩ = some (.slice (some ⟨bb, ob, none⟩) 2 c1) ∧ (v3.alloc (.cells #[.bool false, .slice af 0 cf, .slice (some ⟨bf, of', none⟩) 1 kf] 24)).drew.cell? ⟨w.heap.size + 1, 2, none⟩ = some (.slice q1 y1.length d1) := (E4.getBox 1 rfl).1
    have SS := And.intro (And.intro S0 S1) (And.intro ca cb)
    clear S0 S1 ca cb
    by_cases hpp : p = p'
    case neg =>
      have t1 : ((p : Int) != (p' : Int)) = true := by rw [bne_iff_ne]; omega
      clear E4
      refine wp_region_held_drew (S := (fun w' => ((w'.cell? ⟨w.heap.size, 0, none⟩ = some (.bool false) ∧ w'.cell? ⟨w.heap.size, 1, none⟩ = some (.slice (some ⟨ba, oa, none⟩) 2 c0) ∧ w'.cell? ⟨w.heap.size, 2, none⟩ = some (.slice q0 y0.length d0)) ∧ (w'.cell? ⟨w.heap.size + 1, 0, none⟩ = some (.bool false) ∧ w'.cell? ⟨w.heap.size + 1, 1, none⟩ = some (.slice (some ⟨bb, ob, none⟩) 2 c1) ∧ w'.cell? ⟨w.heap.size + 1, 2, none⟩ = some (.slice q1 y1.length d1))) ∧ (w'.cell? ⟨ba, oa + 1, none⟩ = some (.int .i64 (p : Int)) ∧ w'.cell? ⟨bb, ob, none⟩ = some (.int .i64 (p' : Int))))) (by kernel_rfl) ?_ (fun hHeld => ?_)
      · ((try dsimp only); (first | assumption | (exact held322 hb5 (by assumption)) | (exact held322 hb6 (by assumption)) | go_keep))
      refine wpAnyH_take (i := 0) (v := ?_) rfl (by kernel_rfl) (by kernel_rfl) (by kernel_rfl) (fun _ _ _ h => h) (Or.inl ⟨by kernel_rfl, ?_⟩) (by assumption) ?_
      rotate_left
      · (intro w hSw; (try dsimp only at hSw); go_simp); (try with_reducible rfl)
      try simp only [Act.put, List.getElem_toArray, List.getElem_cons_succ, List.getElem_cons_zero, List.setIfInBounds_toArray, List.set_cons_zero, List.set_cons_succ]
      refine wpAnyH_take (i := 1) (v := ?_) rfl (by kernel_rfl) (by kernel_rfl) (by kernel_rfl) (fun _ _ _ h => h) (Or.inl ⟨by kernel_rfl, ?_⟩) (by assumption) ?_
      rotate_left
      · (intro w hSw; (try dsimp only at hSw); go_simp); (try with_reducible rfl)
      try simp only [Act.put, List.getElem_toArray, List.getElem_cons_succ, List.getElem_cons_zero, List.setIfInBounds_toArray, List.set_cons_zero, List.set_cons_succ]
      refine wpAnyH_ready (rs := [2]) (by kernel_rfl) (by simp) ?_
      refine AllReadyH.cons rfl (fun K hK => ?_) AllReadyH.nil
      go_simp
      refine (semiring_any f g _).mono ?_; rintro e w4 ⟨he4, rfl⟩; rw [hse.out] at he4; subst he4
      try go_wp2_with fail
      refine hK.out _ _ (by (try dsimp only); (first | assumption | (exact held322 hb5 (by assumption)) | (exact held322 hb6 (by assumption)) | go_keep)) (fun hHeld => ?_)
      clear hK K
      try simp only [Act.put, List.getElem_toArray, List.getElem_cons_succ, List.getElem_cons_zero, List.setIfInBounds_toArray, List.set_cons_zero, List.set_cons_succ]
      refine wpAnyH_take (i := 3) (v := ?_) rfl (by kernel_rfl) (by kernel_rfl) (by kernel_rfl) (fun _ _ _ h => h) (Or.inl ⟨by kernel_rfl, ?_⟩) (by assumption) ?_
      rotate_left
      · (intro w hSw; (try dsimp only at hSw); go_simp); (try with_reducible rfl)
      try simp only [Act.put, List.getElem_toArray, List.getElem_cons_succ, List.getElem_cons_zero, List.setIfInBounds_toArray, List.set_cons_zero, List.set_cons_succ]
      refine wpAnyH_take (i := 4) (v := ?_) rfl (by kernel_rfl) (by kernel_rfl) (by kernel_rfl) (fun _ _ _ h => h) (Or.inl ⟨by kernel_rfl, ?_⟩) (by assumption) ?_
      rotate_left
      · (intro w hSw; (try dsimp only at hSw); go_simp); (try with_reducible rfl)
      try simp only [Act.put, List.getElem_toArray, List.getElem_cons_succ, List.getElem_cons_zero, List.setIfInBounds_toArray, List.set_cons_zero, List.set_cons_succ]
      refine wpAnyH_take (i := 5) (v := ?_) rfl (by kernel_rfl) (by kernel_rfl) (by kernel_rfl) (fun _ _ _ h => h) (Or.inl ⟨by kernel_rfl, ?_⟩) (by assumption) ?_
      rotate_left
      · (intro w hSw; (try dsimp only at hSw); go_simp); (try with_reducible rfl)
      try simp only [Act.put, List.getElem_toArray, List.getElem_cons_succ, List.getElem_cons_zero, List.setIfInBounds_toArray, List.set_cons_zero, List.set_cons_succ]
      refine wpAnyH_ready (rs := [6]) (by kernel_rfl) (by simp) ?_
      refine AllReadyH.cons rfl (fun K hK => ?_) AllReadyH.nil
      go_simp
      refine (hga.out _ r0').mono ?_; rintro e w5 ⟨he5, hb5⟩; rw [hqa.out] at he5; subst he5
      try go_wp2_with fail
      refine hK.out _ _ (by (try dsimp only); (first | assumption | (exact held322 hb5 (by assumption)) | (exact held322 hb6 (by assumption)) | go_keep)) (fun hHeld => ?_)
      clear hK K
      try simp only [Act.put, List.getElem_toArray, List.getElem_cons_succ, List.getElem_cons_zero, List.setIfInBounds_toArray, List.set_cons_zero, List.set_cons_succ]
      refine wpAnyH_take (i := 7) (v := ?_) rfl (by kernel_rfl) (by kernel_rfl) (by kernel_rfl) (fun _ _ _ h => h) (Or.inl ⟨by kernel_rfl, ?_⟩) (by assumption) ?_
      rotate_left
      · (intro w hSw; (try dsimp only at hSw); go_simp); (try with_reducible rfl)
      try simp only [Act.put, List.getElem_toArray, List.getElem_cons_succ, List.getElem_cons_zero, List.setIfInBounds_toArray, List.set_cons_zero, List.set_cons_succ]
      refine wpAnyH_take (i := 8) (v := ?_) rfl (by kernel_rfl) (by kernel_rfl) (by kernel_rfl) (fun _ _ _ h => h) (Or.inl ⟨by kernel_rfl, ?_⟩) (by assumption) ?_
      rotate_left
      · (intro w hSw; (try dsimp only at hSw); go_simp); (try with_reducible rfl)
      try simp only [Act.put, List.getElem_toArray, List.getElem_cons_succ, List.getElem_cons_zero, List.setIfInBounds_toArray, List.set_cons_zero, List.set_cons_succ]
      refine wpAnyH_take (i := 9) (v := ?_) rfl (by kernel_rfl) (by kernel_rfl) (by kernel_rfl) (fun _ _ _ h => h) (Or.inl ⟨by kernel_rfl, ?_⟩) (by assumption) ?_
      rotate_left
      · (intro w hSw; (try dsimp only at hSw); go_simp); (try with_reducible rfl)
      try simp only [Act.put, List.getElem_toArray, List.getElem_cons_succ, List.getElem_cons_zero, List.setIfInBounds_toArray, List.set_cons_zero, List.set_cons_succ]
      refine wpAnyH_take (i := 10) (v := ?_) rfl (by kernel_rfl) (by kernel_rfl) (by kernel_rfl) (fun _ _ _ h => h) (Or.inl ⟨by kernel_rfl, ?_⟩) (by assumption) ?_
      rotate_left
      · (intro w hSw; (try dsimp only at hSw); go_simp); (try with_reducible rfl)
      try simp only [Act.put, List.getElem_toArray, List.getElem_cons_succ, List.getElem_cons_zero, List.setIfInBounds_toArray, List.set_cons_zero, List.set_cons_succ]
      refine wpAnyH_ready (rs := [11]) (by kernel_rfl) (by simp) ?_
      refine AllReadyH.cons rfl (fun K hK => ?_) AllReadyH.nil
      go_simp
      refine (hgb.out _ (r1'.below hb5)).mono ?_; rintro e w6 ⟨he6, hb6⟩; rw [hqb.out] at he6; subst he6
      try go_wp2_with fail
      refine hK.out _ _ (by (try dsimp only); (first | assumption | (exact held322 hb5 (by assumption)) | (exact held322 hb6 (by assumption)) | go_keep)) (fun hHeld => ?_)
      clear hK K
      try simp only [Act.put, List.getElem_toArray, List.getElem_cons_succ, List.getElem_cons_zero, List.setIfInBounds_toArray, List.set_cons_zero, List.set_cons_succ]
      refine wpAnyH_take (i := 12) (v := ?_) rfl (by kernel_rfl) (by kernel_rfl) (by kernel_rfl) (fun _ _ _ h => h) (Or.inl ⟨by kernel_rfl, ?_⟩) (by assumption) ?_
      rotate_left
      · (intro w hSw; (try dsimp only at hSw); go_simp); (try with_reducible rfl)
      try simp only [Act.put, List.getElem_toArray, List.getElem_cons_succ, List.getElem_cons_zero, List.setIfInBounds_toArray, List.set_cons_zero, List.set_cons_succ]
      refine wpAnyH_take (i := 13) (v := ?_) rfl (by kernel_rfl) (by kernel_rfl) (by kernel_rfl) (fun _ _ _ h => h) (Or.inl ⟨by kernel_rfl, ?_⟩) (by assumption) ?_
      rotate_left
      · (intro w hSw; (try dsimp only at hSw); go_simp); (try with_reducible rfl)
      try simp only [Act.put, List.getElem_toArray, List.getElem_cons_succ, List.getElem_cons_zero, List.setIfInBounds_toArray, List.set_cons_zero, List.set_cons_succ]
      refine wpAnyH_take (i := 14) (v := ?_) rfl (by kernel_rfl) (by kernel_rfl) (by kernel_rfl) (fun _ _ _ h => h) (Or.inl ⟨by kernel_rfl, ?_⟩) (by assumption) ?_
      rotate_left
      · (intro w hSw; (try dsimp only at hSw); go_simp); (try with_reducible rfl)
      try simp only [Act.put, List.getElem_toArray, List.getElem_cons_succ, List.getElem_cons_zero, List.setIfInBounds_toArray, List.set_cons_zero, List.set_cons_succ]
      refine wpAnyH_take (i := 15) (v := ?_) rfl (by kernel_rfl) (by kernel_rfl) (by kernel_rfl) (fun _ _ _ h => h) (Or.inl ⟨by kernel_rfl, ?_⟩) (by assumption) ?_
      rotate_left
      · (intro w hSw; (try dsimp only at hSw); go_simp); (try with_reducible rfl)
      try simp only [Act.put, List.getElem_toArray, List.getElem_cons_succ, List.getElem_cons_zero, List.setIfInBounds_toArray, List.set_cons_zero, List.set_cons_succ]
      refine wpAnyH_take (i := 16) (v := ?_) rfl (by kernel_rfl) (by kernel_rfl) (by kernel_rfl) (fun _ _ _ h => h) (Or.inl ⟨by kernel_rfl, ?_⟩) (by assumption) ?_
      rotate_left
      · (intro w hSw; (try dsimp only at hSw); go_simp); (try with_reducible rfl)
      try simp only [Act.put, List.getElem_toArray, List.getElem_cons_succ, List.getElem_cons_zero, List.setIfInBounds_toArray, List.set_cons_zero, List.set_cons_succ]
      refine wpAnyH_take (i := 17) (v := ?_) rfl (by kernel_rfl) (by kernel_rfl) (by kernel_rfl) (fun _ _ _ h => h) (Or.inl ⟨by kernel_rfl, ?_⟩) (by assumption) ?_
      rotate_left
      · (intro w hSw; (try dsimp only at hSw); go_simp); (try with_reducible rfl)
      try simp only [Act.put, List.getElem_toArray, List.getElem_cons_succ, List.getElem_cons_zero, List.setIfInBounds_toArray, List.set_cons_zero, List.set_cons_succ]
      refine wpAnyH_take (i := 18) (v := ?_) rfl (by kernel_rfl) (by kernel_rfl) (by kernel_rfl) (fun _ _ _ h => h) (Or.inl ⟨by kernel_rfl, ?_⟩) (by assumption) ?_
      rotate_left
      · (intro w hSw; (try dsimp only at hSw); go_simp); (try with_reducible rfl)
      try simp only [Act.put, List.getElem_toArray, List.getElem_cons_succ, List.getElem_cons_zero, List.setIfInBounds_toArray, List.set_cons_zero, List.set_cons_succ]
      refine wpAnyH_take (i := 19) (v := ?_) rfl (by kernel_rfl) (by kernel_rfl) (by kernel_rfl) (fun _ _ _ h => h) (Or.inl ⟨by kernel_rfl, ?_⟩) (by assumption) ?_
      rotate_left
      · (intro w hSw; (try dsimp only at hSw); go_simp); (try with_reducible rfl)
      try simp only [Act.put, List.getElem_toArray, List.getElem_cons_succ, List.getElem_cons_zero, List.setIfInBounds_toArray, List.set_cons_zero, List.set_cons_succ]
      refine wpAnyH_take (i := 20) (v := ?_) rfl (by kernel_rfl) (by kernel_rfl) (by kernel_rfl) (fun _ _ _ h => h) (Or.inl ⟨by kernel_rfl, ?_⟩) (by assumption) ?_
      rotate_left
      · (intro w hSw; (try dsimp only at hSw); go_simp); (try with_reducible rfl)
      try simp only [Act.put, List.getElem_toArray, List.getElem_cons_succ, List.getElem_cons_zero, List.setIfInBounds_toArray, List.set_cons_zero, List.set_cons_succ]
      refine wpAnyH_take (i := 21) (v := ?_) rfl (by kernel_rfl) (by kernel_rfl) (by kernel_rfl) (fun _ _ _ h => h) (Or.inl ⟨by kernel_rfl, ?_⟩) (by assumption) ?_
      rotate_left
      · (intro w hSw; (try dsimp only at hSw); go_simp); (try with_reducible rfl)
      try simp only [Act.put, List.getElem_toArray, List.getElem_cons_succ, List.getElem_cons_zero, List.setIfInBounds_toArray, List.set_cons_zero, List.set_cons_succ]
      refine wpAnyH_take (i := 22) (v := ?_) rfl (by kernel_rfl) (by kernel_rfl) (by kernel_rfl) (fun _ _ _ h => h) (Or.inl ⟨by kernel_rfl, ?_⟩) (by assumption) ?_
      rotate_left
      · (intro w hSw; (try dsimp only at hSw); go_simp); (try with_reducible rfl)
      try simp only [Act.put, List.getElem_toArray, List.getElem_cons_succ, List.getElem_cons_zero, List.setIfInBounds_toArray, List.set_cons_zero, List.set_cons_succ]
      refine wpAnyH_take (i := 23) (v := ?_) rfl (by kernel_rfl) (by kernel_rfl) (by kernel_rfl) (fun _ _ _ h => h) (Or.inl ⟨by kernel_rfl, ?_⟩) (by assumption) ?_
      rotate_left
      · (intro w hSw; (try dsimp only at hSw); go_simp); (try with_reducible rfl)
      try simp only [Act.put, List.getElem_toArray, List.getElem_cons_succ, List.getElem_cons_zero, List.setIfInBounds_toArray, List.set_cons_zero, List.set_cons_succ]
      refine wpAnyH_take (i := 24) (v := ?_) rfl (by kernel_rfl) (by kernel_rfl) (by kernel_rfl) (fun _ _ _ h => h) (Or.inl ⟨by kernel_rfl, ?_⟩) (by assumption) ?_
      rotate_left
      · (intro w hSw; (try dsimp only at hSw); go_simp); (try with_reducible rfl)
      try simp only [Act.put, List.getElem_toArray, List.getElem_cons_succ, List.getElem_cons_zero, List.setIfInBounds_toArray, List.set_cons_zero, List.set_cons_succ]
      refine wpAnyH_done (by kernel_rfl) ?_ _
      go_wp2
      go_ret
      exact ⟨rfl, below_trans (below_trans hbel hb5) hb6⟩
    subst hpp
    have t1 : ((p : Int) != (p : Int)) = false := by simp
    refine wp_region_held_drew (S := (fun w' => ((w'.cell? ⟨w.heap.size, 0, none⟩ = some (.bool false) ∧ w'.cell? ⟨w.heap.size, 1, none⟩ = some (.slice (some ⟨ba, oa, none⟩) 2 c0) ∧ w'.cell? ⟨w.heap.size, 2, none⟩ = some (.slice q0 y0.length d0)) ∧ (w'.cell? ⟨w.heap.size + 1, 0, none⟩ = some (.bool false) ∧ w'.cell? ⟨w.heap.size + 1, 1, none⟩ = some (.slice (some ⟨bb, ob, none⟩) 2 c1) ∧ w'.cell? ⟨w.heap.size + 1, 2, none⟩ = some (.slice q1 y1.length d1))) ∧ (w'.cell? ⟨ba, oa + 1, none⟩ = some (.int .i64 (p : Int)) ∧ w'.cell? ⟨bb, ob, none⟩ = some (.int .i64 (p : Int))))) (by kernel_rfl) ?_ (fun hHeld => ?_)
    · ((try dsimp only); (first | assumption | (exact held322 hb5 (by assumption)) | (exact held322 hb6 (by assumption)) | go_keep))
    refine wpAnyH_take (i := 0) (v := ?_) rfl (by kernel_rfl) (by kernel_rfl) (by kernel_rfl) (fun _ _ _ h => h) (Or.inl ⟨by kernel_rfl, ?_⟩) (by assumption) ?_
    rotate_left
    · (intro w hSw; (try dsimp only at hSw); go_simp); (try with_reducible rfl)
    try simp only [Act.put, List.getElem_toArray, List.getElem_cons_succ, List.getElem_cons_zero, List.setIfInBounds_toArray, List.set_cons_zero, List.set_cons_succ]
    refine wpAnyH_take (i := 1) (v := ?_) rfl (by kernel_rfl) (by kernel_rfl) (by kernel_rfl) (fun _ _ _ h => h) (Or.inl ⟨by kernel_rfl, ?_⟩) (by assumption) ?_
    rotate_left
    · (intro w hSw; (try dsimp only at hSw); go_simp); (try with_reducible rfl)
    try simp only [Act.put, List.getElem_toArray, List.getElem_cons_succ, List.getElem_cons_zero, List.setIfInBounds_toArray, List.set_cons_zero, List.set_cons_succ]
    refine wpAnyH_ready (rs := [2]) (by kernel_rfl) (by simp) ?_
    refine AllReadyH.cons rfl (fun K hK => ?_) AllReadyH.nil
    go_simp
    refine (semiring_any f g _).mono ?_; rintro e w4 ⟨he4, rfl⟩; rw [hse.out] at he4; subst he4
    try go_wp2_with fail
    refine hK.out _ _ (by (try dsimp only); (first | assumption | (exact held322 hb5 (by assumption)) | (exact held322 hb6 (by assumption)) | go_keep)) (fun hHeld => ?_)
    clear hK K
    try simp only [Act.put, List.getElem_toArray, List.getElem_cons_succ, List.getElem_cons_zero, List.setIfInBounds_toArray, List.set_cons_zero, List.set_cons_succ]
    refine wpAnyH_take (i := 3) (v := ?_) rfl (by kernel_rfl) (by kernel_rfl) (by kernel_rfl) (fun _ _ _ h => h) (Or.inl ⟨by kernel_rfl, ?_⟩) (by assumption) ?_
    rotate_left
    · (intro w hSw; (try dsimp only at hSw); go_simp); (try with_reducible rfl)
    try simp only [Act.put, List.getElem_toArray, List.getElem_cons_succ, List.getElem_cons_zero, List.setIfInBounds_toArray, List.set_cons_zero, List.set_cons_succ]
    refine wpAnyH_take (i := 4) (v := ?_) rfl (by kernel_rfl) (by kernel_rfl) (by kernel_rfl) (fun _ _ _ h => h) (Or.inl ⟨by kernel_rfl, ?_⟩) (by assumption) ?_
    rotate_left
    · (intro w hSw; (try dsimp only at hSw); go_simp); (try with_reducible rfl)
    try simp only [Act.put, List.getElem_toArray, List.getElem_cons_succ, List.getElem_cons_zero, List.setIfInBounds_toArray, List.set_cons_zero, List.set_cons_succ]
    refine wpAnyH_take (i := 5) (v := ?_) rfl (by kernel_rfl) (by kernel_rfl) (by kernel_rfl) (fun _ _ _ h => h) (Or.inl ⟨by kernel_rfl, ?_⟩) (by assumption) ?_
    rotate_left
    · (intro w hSw; (try dsimp only at hSw); go_simp); (try with_reducible rfl)
    try simp only [Act.put, List.getElem_toArray, List.getElem_cons_succ, List.getElem_cons_zero, List.setIfInBounds_toArray, List.set_cons_zero, List.set_cons_succ]
    refine wpAnyH_ready (rs := [6]) (by kernel_rfl) (by simp) ?_
    refine AllReadyH.cons rfl (fun K hK => ?_) AllReadyH.nil
    go_simp
    refine (hga.out _ r0').mono ?_; rintro e w5 ⟨he5, hb5⟩; rw [hqa.out] at he5; subst he5
    try go_wp2_with fail
    refine hK.out _ _ (by (try dsimp only); (first | assumption | (exact held322 hb5 (by assumption)) | (exact held322 hb6 (by assumption)) | go_keep)) (fun hHeld => ?_)
    clear hK K
    try simp only [Act.put, List.getElem_toArray, List.getElem_cons_succ, List.getElem_cons_zero, List.setIfInBounds_toArray, List.set_cons_zero, List.set_cons_succ]
    refine wpAnyH_take (i := 7) (v := ?_) rfl (by kernel_rfl) (by kernel_rfl) (by kernel_rfl) (fun _ _ _ h => h) (Or.inl ⟨by kernel_rfl, ?_⟩) (by assumption) ?_
    rotate_left
    · (intro w hSw; (try dsimp only at hSw); go_simp); (try with_reducible rfl)
    try simp only [Act.put, List.getElem_toArray, List.getElem_cons_succ, List.getElem_cons_zero, List.setIfInBounds_toArray, List.set_cons_zero, List.set_cons_succ]
    refine wpAnyH_take (i := 8) (v := ?_) rfl (by kernel_rfl) (by kernel_rfl) (by kernel_rfl) (fun _ _ _ h => h) (Or.inl ⟨by kernel_rfl, ?_⟩) (by assumption) ?_
    rotate_left
    · (intro w hSw; (try dsimp only at hSw); go_simp); (try with_reducible rfl)
    try simp only [Act.put, List.getElem_toArray, List.getElem_cons_succ, List.getElem_cons_zero, List.setIfInBounds_toArray, List.set_cons_zero, List.set_cons_succ]
    refine wpAnyH_take (i := 9) (v := ?_) rfl (by kernel_rfl) (by kernel_rfl) (by kernel_rfl) (fun _ _ _ h => h) (Or.inl ⟨by kernel_rfl, ?_⟩) (by assumption) ?_
    rotate_left
    · (intro w hSw; (try dsimp only at hSw); go_simp); (try with_reducible rfl)
    try simp only [Act.put, List.getElem_toArray, List.getElem_cons_succ, List.getElem_cons_zero, List.setIfInBounds_toArray, List.set_cons_zero, List.set_cons_succ]
    refine wpAnyH_take (i := 10) (v := ?_) rfl (by kernel_rfl) (by kernel_rfl) (by kernel_rfl) (fun _ _ _ h => h) (Or.inl ⟨by kernel_rfl, ?_⟩) (by assumption) ?_
    rotate_left
    · (intro w hSw; (try dsimp only at hSw); go_simp); (try with_reducible rfl)
    try simp only [Act.put, List.getElem_toArray, List.getElem_cons_succ, List.getElem_cons_zero, List.setIfInBounds_toArray, List.set_cons_zero, List.set_cons_succ]
    refine wpAnyH_ready (rs := [11]) (by kernel_rfl) (by simp) ?_
    refine AllReadyH.cons rfl (fun K hK => ?_) AllReadyH.nil
    go_simp
    refine (hgb.out _ (r1'.below hb5)).mono ?_; rintro e w6 ⟨he6, hb6⟩; rw [hqb.out] at he6; subst he6
    try go_wp2_with fail
    refine hK.out _ _ (by (try dsimp only); (first | assumption | (exact held322 hb5 (by assumption)) | (exact held322 hb6 (by assumption)) | go_keep)) (fun hHeld => ?_)
    clear hK K
    try simp only [Act.put, List.getElem_toArray, List.getElem_cons_succ, List.getElem_cons_zero, List.setIfInBounds_toArray, List.set_cons_zero, List.set_cons_succ]
    refine wpAnyH_take (i := 12) (v := ?_) rfl (by kernel_rfl) (by kernel_rfl) (by kernel_rfl) (fun _ _ _ h => h) (Or.inl ⟨by kernel_rfl, ?_⟩) (by assumption) ?_
    rotate_left
    · (intro w hSw; (try dsimp only at hSw); go_simp); (try with_reducible rfl)
    try simp only [Act.put, List.getElem_toArray, List.getElem_cons_succ, List.getElem_cons_zero, List.setIfInBounds_toArray, List.set_cons_zero, List.set_cons_succ]
    refine wpAnyH_take (i := 13) (v := ?_) rfl (by kernel_rfl) (by kernel_rfl) (by kernel_rfl) (fun _ _ _ h => h) (Or.inl ⟨by kernel_rfl, ?_⟩) (by assumption) ?_
    rotate_left
    · (intro w hSw; (try dsimp only at hSw); go_simp); (try with_reducible rfl)
    try simp only [Act.put, List.getElem_toArray, List.getElem_cons_succ, List.getElem_cons_zero, List.setIfInBounds_toArray, List.set_cons_zero, List.set_cons_succ]
    refine wpAnyH_take (i := 14) (v := ?_) rfl (by kernel_rfl) (by kernel_rfl) (by kernel_rfl) (fun _ _ _ h => h) (Or.inl ⟨by kernel_rfl, ?_⟩) (by assumption) ?_
    rotate_left
    · (intro w hSw; (try dsimp only at hSw); go_simp); (try with_reducible rfl)
    try simp only [Act.put, List.getElem_toArray, List.getElem_cons_succ, List.getElem_cons_zero, List.setIfInBounds_toArray, List.set_cons_zero, List.set_cons_succ]
    refine wpAnyH_take (i := 15) (v := ?_) rfl (by kernel_rfl) (by kernel_rfl) (by kernel_rfl) (fun _ _ _ h => h) (Or.inl ⟨by kernel_rfl, ?_⟩) (by assumption) ?_
    rotate_left
    · (intro w hSw; (try dsimp only at hSw); go_simp); (try with_reducible rfl)
    try simp only [Act.put, List.getElem_toArray, List.getElem_cons_succ, List.getElem_cons_zero, List.setIfInBounds_toArray, List.set_cons_zero, List.set_cons_succ]
    refine wpAnyH_take (i := 16) (v := ?_) rfl (by kernel_rfl) (by kernel_rfl) (by kernel_rfl) (fun _ _ _ h => h) (Or.inl ⟨by kernel_rfl, ?_⟩) (by assumption) ?_
    rotate_left
    · (intro w hSw; (try dsimp only at hSw); go_simp); (try with_reducible rfl)
    try simp only [Act.put, List.getElem_toArray, List.getElem_cons_succ, List.getElem_cons_zero, List.setIfInBounds_toArray, List.set_cons_zero, List.set_cons_succ]
    refine wpAnyH_take (i := 17) (v := ?_) rfl (by kernel_rfl) (by kernel_rfl) (by kernel_rfl) (fun _ _ _ h => h) (Or.inl ⟨by kernel_rfl, ?_⟩) (by assumption) ?_
    rotate_left
    · (intro w hSw; (try dsimp only at hSw); go_simp); (try with_reducible rfl)
    try simp only [Act.put, List.getElem_toArray, List.getElem_cons_succ, List.getElem_cons_zero, List.setIfInBounds_toArray, List.set_cons_zero, List.set_cons_succ]
    refine wpAnyH_take (i := 18) (v := ?_) rfl (by kernel_rfl) (by kernel_rfl) (by kernel_rfl) (fun _ _ _ h => h) (Or.inl ⟨by kernel_rfl, ?_⟩) (by assumption) ?_
    rotate_left
    · (intro w hSw; (try dsimp only at hSw); go_simp); (try with_reducible rfl)
    try simp only [Act.put, List.getElem_toArray, List.getElem_cons_succ, List.getElem_cons_zero, List.setIfInBounds_toArray, List.set_cons_zero, List.set_cons_succ]
    refine wpAnyH_take (i := 19) (v := ?_) rfl (by kernel_rfl) (by kernel_rfl) (by kernel_rfl) (fun _ _ _ h => h) (Or.inl ⟨by kernel_rfl, ?_⟩) (by assumption) ?_
    rotate_left
    · (intro w hSw; (try dsimp only at hSw); go_simp); (try with_reducible rfl)
    try simp only [Act.put, List.getElem_toArray, List.getElem_cons_succ, List.getElem_cons_zero, List.setIfInBounds_toArray, List.set_cons_zero, List.set_cons_succ]
    refine wpAnyH_take (i := 20) (v := ?_) rfl (by kernel_rfl) (by kernel_rfl) (by kernel_rfl) (fun _ _ _ h => h) (Or.inl ⟨by kernel_rfl, ?_⟩) (by assumption) ?_
    rotate_left
    · (intro w hSw; (try dsimp only at hSw); go_simp); (try with_reducible rfl)
    try simp only [Act.put, List.getElem_toArray, List.getElem_cons_succ, List.getElem_cons_zero, List.setIfInBounds_toArray, List.set_cons_zero, List.set_cons_succ]
    refine wpAnyH_take (i := 21) (v := ?_) rfl (by kernel_rfl) (by kernel_rfl) (by kernel_rfl) (fun _ _ _ h => h) (Or.inl ⟨by kernel_rfl, ?_⟩) (by assumption) ?_
    rotate_left
    · (intro w hSw; (try dsimp only at hSw); go_simp); (try with_reducible rfl)
    try simp only [Act.put, List.getElem_toArray, List.getElem_cons_succ, List.getElem_cons_zero, List.setIfInBounds_toArray, List.set_cons_zero, List.set_cons_succ]
    refine wpAnyH_take (i := 22) (v := ?_) rfl (by kernel_rfl) (by kernel_rfl) (by kernel_rfl) (fun _ _ _ h => h) (Or.inl ⟨by kernel_rfl, ?_⟩) (by assumption) ?_
    rotate_left
    · (intro w hSw; (try dsimp only at hSw); go_simp); (try with_reducible rfl)
    try simp only [Act.put, List.getElem_toArray, List.getElem_cons_succ, List.getElem_cons_zero, List.setIfInBounds_toArray, List.set_cons_zero, List.set_cons_succ]
    refine wpAnyH_take (i := 23) (v := ?_) rfl (by kernel_rfl) (by kernel_rfl) (by kernel_rfl) (fun _ _ _ h => h) (Or.inl ⟨by kernel_rfl, ?_⟩) (by assumption) ?_
    rotate_left
    · (intro w hSw; (try dsimp only at hSw); go_simp); (try with_reducible rfl)
    try simp only [Act.put, List.getElem_toArray, List.getElem_cons_succ, List.getElem_cons_zero, List.setIfInBounds_toArray, List.set_cons_zero, List.set_cons_succ]
    refine wpAnyH_take (i := 24) (v := ?_) rfl (by kernel_rfl) (by kernel_rfl) (by kernel_rfl) (fun _ _ _ h => h) (Or.inl ⟨by kernel_rfl, ?_⟩) (by assumption) ?_
    rotate_left
    · (intro w hSw; (try dsimp only at hSw); go_simp); (try with_reducible rfl)
    try simp only [Act.put, List.getElem_toArray, List.getElem_cons_succ, List.getElem_cons_zero, List.setIfInBounds_toArray, List.set_cons_zero, List.set_cons_succ]
    refine wpAnyH_done (by kernel_rfl) ?_ _
    clear SS t1
    replace l0 := l0.out
    replace l1 := l1.out
    replace m0 := m0.out
    replace m1 := m1.out
    replace o0 := o0.out
    replace o1 := o1.out
    replace z0 := z0.out
    replace z1 := z1.out
    obtain ⟨X, hI1, hI2, lX⟩ := inner_turned hR.out (by omega : m ≤ 64) (by omega : p ≤ 64) (by omega : n ≤ 64) o0 o1 la.out lb.out
    have eX : X.length ≤ maxLen := by have := Nat.mul_le_mul (show m ≤ 16 by omega) (show n ≤ 16 by omega); rw [lX]; unfold maxLen; omega
    have eP : (M.turned m p y0).length ≤ maxLen := by have := Nat.mul_le_mul (show m ≤ 16 by omega) (show p ≤ 16 by omega); rw [turned_length]; unfold maxLen; omega
    have eQ : (M.turned p n y1).length ≤ maxLen := by have := Nat.mul_le_mul (show p ≤ 16 by omega) (show n ≤ 16 by omega); rw [turned_length]; unfold maxLen; omega
    have eT : (M.turned m n X).length ≤ maxLen := by have := Nat.mul_le_mul (show m ≤ 16 by omega) (show n ≤ 16 by omega); rw [turned_length]; unfold maxLen; omega
    have fX := flaw_mat (by omega : m ≤ 64) (by omega : n ≤ 64) lX
    have fa := flaw_mat (by omega : m ≤ 64) (by omega : p ≤ 64) la.out
    have fb := flaw_mat (by omega : p ≤ 64) (by omega : n ≤ 64) lb.out
    have hf1 := fun a b c z pa k w h1 h2 h3 => flip_any false a b pa m n X c z k w h1 h2 h3 eX fX
    have hf2 := fun a b c z pa k w h1 h2 h3 => flip_any false a b pa m p y0 c z k w h1 h2 h3 m0 fa
    have hf3 := fun a b c z pa k w h1 h2 h3 => flip_any false a b pa p n y1 c z k w h1 h2 h3 m1 fb
    have t64 := turned_all (m := m) (n := p) o0
    have q64 := turned_all (m := p) (n := n) o1
    generalize M.turned m p y0 = PL at *
    generalize M.turned p n y1 = QL at *
    generalize M.turned m n X = TL at *
    replace hI1 := Lib.hid hI1
    replace hI2 := Lib.hid hI2
    replace hf1 := Lib.hid hf1
    replace hf2 := Lib.hid hf2
    replace hf3 := Lib.hid hf3
    clear lX fX fa fb
    have E := ((E4.drew 1).step hb5).step hb6
    clear E4 hb5 hb6 hbel r0' r1'
    have hne : ∃ v, M.neutral f = .ok v := ⟨_, hR.out.2.2.1⟩
    replace hne := Lib.hid hne
    -- [boxF 0, boxB 1, boxA 2, r0 3, s0 4, r1 5, s1 6]
    obtain ⟨⟨u0, u1, u2⟩, -, -, -⟩ := E.getBox 2 rfl
    obtain ⟨⟨t0, t1, t2⟩, -, -, -⟩ := E.getBox 1 rfl
    go_wp2_with fail
    refine (inner_num f g hne.out false false rfl rfl (some ⟨ba, oa, none⟩) q0 (some ⟨bb, ob, none⟩) q1 [(m : Int), (p : Int)] y0 [(p : Int), (n : Int)] y1 2 c0 _ d0 2 c1 _ d1 _ (E.getRow 3 rfl) (E.getRow 4 rfl) (by simp [maxLen]) m0 o0 z0 rfl rfl (E.getRow 5 rfl) (E.getRow 6 rfl) (by simp [maxLen]) m1 o1 z1 rfl rfl).mono ?_
    intro e v4 hp
    obtain ⟨a4, c4, e4, k4, rfl, ra, rb, -, -, hc4, hb⟩ := hp.is_ok hI1.out
    clear hp u0 u1 u2 t0 t1 t2
    dsimp only [List.length_cons, List.length_nil, Nat.reduceAdd] at ra rb hc4 ⊢
    have lB : w.heap.size + 1 < v4.heap.size := ((E.step hb).getBox 1 rfl).lt
    replace E := ((((E.step hb).addRow rb).addRow ra).box false a4 2 c4 e4 X.length k4).alloc (.cells #[.int .i64 1, .int .i64 0] 3) |>.addRow (row_lit _ [1, 0] _ _ rfl)
    rw [World.size_alloc] at E
    clear ra rb hb
    -- [rowP 0, boxX 1, ra 2, rb 3, boxF 4, boxB 5, boxA 6, r0 7, s0 8, r1 9, s1 10]
    obtain ⟨⟨u0, u1, u2⟩, -, -, -⟩ := E.getBox 1 rfl
    go_wp2_with fail
    refine (hf1.out a4 e4 c4 k4 _ _ _ (E.getRow 0 rfl) (E.getRow 2 rfl) (E.getRow 3 rfl)).mono ?_
    intro e v5 hp
    obtain ⟨a5, c5, e5, k5, rfl, ra, rb, -, -, hc5, hb⟩ := hp.is_ok rfl
    clear hp u0 u1 u2
    dsimp only [List.length_cons, List.length_nil, Nat.reduceAdd] at ra rb hc5 ⊢
    replace E := E.step hb
    obtain ⟨⟨u0, u1, u2⟩, g0, g1, g2⟩ := E.getBox 1 rfl
    have E6 := Env.store (w0 := w) (w := v5) (N := v4.heap.size) (ch := false) (a := a4) (m := 2) (c := c4) (b := e4) (n := X.length) (z := k4)
      ((((((((((Env.base E.bel).addRow (E.getRow 10 rfl)).addRow (E.getRow 9 rfl)).addRow (E.getRow 8 rfl)).addRow (E.getRow 7 rfl)).add (f := .box _ _ _ _ _ _ _ _) (E.getBox 6 rfl)).add (f := .box _ _ _ _ _ _ _ _) (E.getBox 5 rfl)).addRow rb).addRow ra).add (f := .box _ _ _ _ _ _ _ _) (E.getBox 1 rfl)) (by omega) (by
        intro i N' ch' a' m' c' b' n' z' h
        match i with
        | 0 => cases h
        | 1 => cases h
        | 2 => cases h; omega
        | 3 => cases h; omega
        | 4 => cases h
        | 5 => cases h
        | 6 => cases h
        | 7 => cases h
        | i + 8 => cases h) false a5 2 c5 e5 TL.length k5
    have E := E6
    clear E6 ra rb hb
    -- [boxX 0, raX 1, rbX 2, boxB 3, boxA 4, r0 5, s0 6, r1 7, s1 8]
    replace E := (E.alloc (.cells #[.int .i64 1, .int .i64 0] 3)).addRow (row_lit _ [1, 0] _ _ rfl)
    simp only [World.size_setCell] at E
    -- [rowP 0, boxX 1, raX 2, rbX 3, boxB 4, boxA 5, r0 6, s0 7, r1 8, s1 9]
    obtain ⟨⟨s0, s1, s2⟩, -, -, -⟩ := E.getBox 5 rfl
    go_wp2_with fail
    refine (hf2.out _ _ c0 d0 _ _ _ (E.getRow 0 rfl) (E.getRow 6 rfl) (E.getRow 7 rfl)).mono ?_
    intro e v6 hp
    obtain ⟨a6, c6, e6, k6, rfl, ra, rb, -, -, hc6, hb⟩ := hp.is_ok rfl
    clear hp u0 u1 u2 g0 g1 g2 s0 s1 s2
    dsimp only [List.length_cons, List.length_nil, Nat.reduceAdd] at ra rb hc6 ⊢
    replace E := ((((E.drop1).step hb).addRow rb).addRow ra).box false a6 2 c6 e6 PL.length k6
    clear ra rb hb
    replace E := (E.alloc (.cells #[.int .i64 1, .int .i64 0] 3)).addRow (row_lit _ [1, 0] _ _ rfl)
    rw [World.size_alloc] at E
    -- [rowP 0, boxP 1, raP 2, rbP 3, boxX 4, raX 5, rbX 6, boxB 7, boxA 8, r0 9, s0 10, r1 11, s1 12]
    obtain ⟨⟨u0, u1, u2⟩, -, -, -⟩ := E.getBox 7 rfl
    go_wp2_with fail
    refine (hf3.out _ _ c1 d1 _ _ _ (E.getRow 0 rfl) (E.getRow 11 rfl) (E.getRow 12 rfl)).mono ?_
    intro e v7 hp
    obtain ⟨a7, c7, e7, k7, rfl, ra, rb, -, -, hc7, hb⟩ := hp.is_ok rfl
    clear hp u0 u1 u2
    dsimp only [List.length_cons, List.length_nil, Nat.reduceAdd] at ra rb hc7 ⊢
    replace E := ((((E.drop1).step hb).addRow rb).addRow ra).box false a7 2 c7 e7 QL.length k7
    clear ra rb hb
    -- [boxQ 0, raQ 1, rbQ 2, boxP 3, raP 4, rbP 5, boxX 6, raX 7, rbX 8, ..]
    obtain ⟨⟨u0, u1, u2⟩, -, -, -⟩ := E.getBox 0 rfl
    obtain ⟨⟨t0, t1, t2⟩, -, -, -⟩ := E.getBox 3 rfl
    go_wp2_with fail
    refine (inner_num f g hne.out false false rfl rfl a7 e7 a6 e6 [(n : Int), (p : Int)] QL [(p : Int), (m : Int)] PL 2 c7 _ k7 2 c6 _ k6 _ (E.getRow 1 rfl) (E.getRow 2 rfl) (by simp [maxLen]) eQ q64 hc7 rfl rfl (E.getRow 4 rfl) (E.getRow 5 rfl) (by simp [maxLen]) eP t64 hc6 rfl rfl).mono ?_
    intro e v8 hp
    obtain ⟨a8, c8, e8, k8, rfl, ra, rb, -, -, hc8, hb⟩ := hp.is_ok hI2.out
    clear hp u0 u1 u2 t0 t1 t2
    dsimp only [List.length_cons, List.length_nil, Nat.reduceAdd] at ra rb hc8 ⊢
    replace E := (((E.step hb).addRow rb).addRow ra).box false a8 2 c8 e8 TL.length k8
    clear ra rb hb
    -- [boxY 0, raY 1, rbY 2, boxQ 3, raQ 4, rbQ 5, boxP 6, raP 7, rbP 8, boxX 9, raX 10, rbX 11]
    obtain ⟨⟨u0, u1, u2⟩, -, -, -⟩ := E.getBox 9 rfl
    obtain ⟨⟨t0, t1, t2⟩, -, -, -⟩ := E.getBox 0 rfl
    go_wp2_with fail
    refine (alike_any false false a5 e5 a8 e8 [(n : Int), (m : Int)] TL [(n : Int), (m : Int)] TL 2 c5 _ k5 2 c8 _ k8 _ (E.getRow 10 rfl) (E.getRow 11 rfl) (by simp [maxLen]) eT rfl rfl (E.getRow 1 rfl) (E.getRow 2 rfl) (by simp [maxLen]) eT rfl rfl).mono ?_
    rintro e v9 ⟨rfl, hb⟩
    rw [decide_eq_true (rfl : (⟨false, [(n : Int), (m : Int)], TL⟩ : Arr) = ⟨false, [(n : Int), (m : Int)], TL⟩)]
    replace E := E.step hb
    clear hb u0 u1 u2 t0 t1 t2
    go_wp2
    go_ret
    exact ⟨rfl, E.bel⟩

end Go.Proofs.Ytohnimfjekemjaa
