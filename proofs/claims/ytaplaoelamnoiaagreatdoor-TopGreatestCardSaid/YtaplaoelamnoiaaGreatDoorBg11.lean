/- Texts that lie in one file: what is plain, rows, boxes, squares, and what is known of a world. No condition. -/
import Derived.Test.YtaplaoelamnoiaaGreatDoorWkEach
import Derived.Test.YtaplaoelamnoiaaGreatDoorBg04
import Derived.Test.YtaplaoelamnoiaaGreatDoorBg24
/- What a function does cell by cell, in plain data: arrays of one shape, single cells, the shape set aside, two functions that are each other's turned round. Condition: arrays that may be. -/
namespace Go.Proofs.YtaplaoelamnoiaaGreatDoor
open Go.RowKit

theorem seqE_congr {n : Nat} {F G : Nat → Except Int Int} (h : ∀ i, i < n → F i = G i) : M.seqE n F = M.seqE n G := by
  induction n with
  | zero => rfl
  | succ n ih =>
    unfold M.seqE
    rw [ih fun i hi => h i (by omega), h n (by omega)]
theorem fillE_congr {s : List Int} {n : Nat} {F G : Nat → Except Int Int} (h : ∀ i, i < n → F i = G i) : M.fillE s n F = M.fillE s n G := by
  unfold M.fillE
  rw [seqE_congr h]
theorem flaws_zero {x y : Arr} (hx : M.flaw x.ch x.s x.d = 0) (hy : M.flaw y.ch y.s y.d = 0) : M.flaws x y = 0 := by
  unfold M.flaws
  rw [if_pos hx]
  exact hy
theorem cells_of {x : Arr} (hx : M.flaw x.ch x.s x.d = 0) : (x.d.length : Int) = M.prod x.s := by
  obtain ⟨q, c, e⟩ := flaw_parts hx
  obtain ⟨_, _, a3, _⟩ := M.count_ok c
  omega
theorem one_cell {x : Arr} (hx : M.flaw x.ch x.s x.d = 0) (hs : x.s = []) : x.d.length = 1 := by
  have h := cells_of hx
  rw [hs] at h
  have : M.prod [] = 1 := rfl
  omega
theorem same_cells {x y : Arr} (hx : M.flaw x.ch x.s x.d = 0) (hy : M.flaw y.ch y.s y.d = 0) (h : x.s = y.s) : x.d.length = y.d.length := by
  have h1 := cells_of hx
  have h2 := cells_of hy
  rw [h] at h1
  omega

/-- The rule's two first tests, and then the cells. -/
def eachR (f : Int) (c1 c2 : Bool) (r : Except Int Arr) : Except Int Arr := if M.fn2 f = false then .error 1 else if ((!M.cmp f) && (c1 || c2)) = true then .error 6 else r
theorem each2_fit {f : Int} {x y : Arr} (hx : M.flaw x.ch x.s x.d = 0) (hy : M.flaw y.ch y.s y.d = 0) {s : List Int} {N : Nat} {k1 k2 : Bool} (h : M.fitE x y = .ok (s, N, k1, k2)) :
    M.each2 f x y = eachR f x.ch y.ch (M.fillE s N fun i => M.tw f x.ch y.ch (M.pickC k1 x.d i) (M.pickC k2 y.d i)) := by
  unfold M.each2 eachR
  rw [flaws_zero hx hy, h]
  simp
theorem each2_unfit {f : Int} {x y : Arr} (hx : M.flaw x.ch x.s x.d = 0) (hy : M.flaw y.ch y.s y.d = 0) {e : Int} (h : M.fitE x y = .error e) : M.each2 f x y = if M.fn2 f = false then .error 1 else .error e := by
  unfold M.each2
  rw [flaws_zero hx hy, h]
  simp
theorem each2_left {f : Int} {x y : Arr} (hx : M.flaw x.ch x.s x.d = 0) (hy : M.flaw y.ch y.s y.d = 0) (hs : x.s = []) :
    M.each2 f x y = eachR f x.ch y.ch (M.fillE y.s y.d.length fun i => M.tw f x.ch y.ch (x.d.getD 0 0) (y.d.getD i 0)) :=
  each2_fit (k1 := true) (k2 := false) hx hy (by unfold M.fitE; rw [if_pos hs])
theorem each2_same {f : Int} {x y : Arr} (hx : M.flaw x.ch x.s x.d = 0) (hy : M.flaw y.ch y.s y.d = 0) (h : x.s = y.s) :
    M.each2 f x y = eachR f x.ch y.ch (M.fillE x.s x.d.length fun i => M.tw f x.ch y.ch (x.d.getD i 0) (y.d.getD i 0)) := by
  by_cases hs : x.s = []
  · rw [each2_left hx hy hs, ← h, ← same_cells hx hy h]
    congr 1
    refine fillE_congr fun i hi => ?_
    have : i = 0 := by rw [one_cell hx hs] at hi; omega
    rw [this]
  · exact each2_fit (k1 := false) (k2 := false) hx hy (by unfold M.fitE; rw [if_neg hs, if_neg (by rw [← h]; exact hs), if_neg (by rw [h]; simp), if_neg (by rw [h]; simp)])
theorem each2_right {f : Int} {x y : Arr} (hx : M.flaw x.ch x.s x.d = 0) (hy : M.flaw y.ch y.s y.d = 0) (hs : y.s = []) :
    M.each2 f x y = eachR f x.ch y.ch (M.fillE x.s x.d.length fun i => M.tw f x.ch y.ch (x.d.getD i 0) (y.d.getD 0 0)) := by
  by_cases h0 : x.s = []
  · rw [each2_same hx hy (h0.trans hs.symm)]
    congr 1
    refine fillE_congr fun i hi => ?_
    have : i = 0 := by rw [one_cell hx h0] at hi; omega
    rw [this]
  · exact each2_fit (k1 := false) (k2 := true) hx hy (by unfold M.fitE; rw [if_neg h0, if_pos hs])

theorem fillE_ok {s : List Int} {n : Nat} {F : Nat → Except Int Int} {z : Arr} (h : M.fillE s n F = .ok z) : z.ch = false ∧ z.s = s ∧ z.d.length = n ∧ M.seqE n F = .ok z.d := by
  unfold M.fillE at h
  cases hq : M.seqE n F with
  | error e => rw [hq] at h; cases h
  | ok l => rw [hq] at h; cases h; exact ⟨rfl, rfl, seqE_length hq, rfl⟩

/-- It does not see the shape. -/
theorem each2_ravel {f : Int} {x y : Arr} (hx : M.flaw x.ch x.s x.d = 0) (hy : M.flaw y.ch y.s y.d = 0) (h : x.s = y.s) :
    (∃ e e', M.each2 f x y = .error e ∧ M.each2 f ⟨x.ch, [(x.d.length : Int)], x.d⟩ ⟨y.ch, [(y.d.length : Int)], y.d⟩ = .error e') ∨
    (∃ l, M.each2 f x y = .ok ⟨false, x.s, l⟩ ∧ l.length = x.d.length ∧ M.each2 f ⟨x.ch, [(x.d.length : Int)], x.d⟩ ⟨y.ch, [(y.d.length : Int)], y.d⟩ = .ok ⟨false, [(x.d.length : Int)], l⟩) := by
  have e1 := each2_same (f := f) hx hy h
  have e2 := each2_same (f := f) (x := ⟨x.ch, [(x.d.length : Int)], x.d⟩) (y := ⟨y.ch, [(y.d.length : Int)], y.d⟩) (ravel_sound hx) (ravel_sound hy) (by rw [same_cells hx hy h])
  rw [e1, e2]
  unfold eachR
  by_cases h1 : M.fn2 f = false
  · rw [if_pos h1, if_pos h1]; exact .inl ⟨_, _, rfl, rfl⟩
  rw [if_neg h1, if_neg h1]
  by_cases h2 : ((!M.cmp f) && (x.ch || y.ch)) = true
  · rw [if_pos h2, if_pos h2]; exact .inl ⟨_, _, rfl, rfl⟩
  rw [if_neg h2, if_neg h2]
  unfold M.fillE
  dsimp only
  cases hq : M.seqE x.d.length fun i => M.tw f x.ch y.ch (x.d.getD i 0) (y.d.getD i 0) with
  | error e => exact .inl ⟨_, _, rfl, rfl⟩
  | ok l => exact .inr ⟨l, rfl, seqE_length hq, rfl⟩

/-- One cell is as many as are needed. -/
theorem spread_of {x b : Arr} (hx : M.flaw x.ch x.s x.d = 0) (hb : M.flaw b.ch b.s b.d = 0) (hs : x.s = []) :
    M.reshape b.s x = .ok ⟨x.ch, b.s, List.replicate b.d.length (x.d.getD 0 0)⟩ ∧ M.flaw x.ch b.s (List.replicate b.d.length (x.d.getD 0 0)) = 0 := by
  have hc := (flaw_ok hb).1
  have h1 := one_cell hx hs
  have e : M.cycle x.d b.d.length (M.fill x.ch) = List.replicate b.d.length (x.d.getD 0 0) := by
    apply List.ext_getElem
    · rw [cycle_length, List.length_replicate]
    · intro i hi _
      simp [M.cycle, h1, Nat.mod_one]
  constructor
  · unfold M.reshape
    rw [hc]
    dsimp only
    rw [if_pos hx, Int.toNat_natCast, e]
  · refine flaw_mk (by rw [List.length_replicate]; exact hc) fun h => ?_
    have hn := (flaw_ok hx).2 h
    rw [List.any_eq_false] at hn ⊢
    intro v hv
    obtain ⟨_, rfl⟩ := List.mem_replicate.1 hv
    refine hn _ ?_
    rw [List.getD_eq_getElem?_getD, List.getElem?_eq_getElem (by omega : 0 < x.d.length)]
    exact List.getElem_mem _
theorem each2_spread {f : Int} {x b : Arr} (hx : M.flaw x.ch x.s x.d = 0) (hb : M.flaw b.ch b.s b.d = 0) (hs : x.s = []) :
    M.each2 f ⟨x.ch, b.s, List.replicate b.d.length (x.d.getD 0 0)⟩ b = M.each2 f x b ∧ M.each2 f b ⟨x.ch, b.s, List.replicate b.d.length (x.d.getD 0 0)⟩ = M.each2 f b x := by
  have hy := (spread_of hx hb hs).2
  have g : ∀ i, i < b.d.length → (List.replicate b.d.length (x.d.getD 0 0)).getD i 0 = x.d.getD 0 0 := fun i hi => by
    rw [List.getD_eq_getElem?_getD, List.getElem?_replicate, if_pos hi]; rfl
  constructor
  · rw [each2_same (x := ⟨x.ch, b.s, List.replicate b.d.length (x.d.getD 0 0)⟩) hy hb rfl, each2_left hx hb hs]
    dsimp only
    rw [List.length_replicate]
    congr 1
    exact fillE_congr fun i hi => by rw [g i hi]
  · rw [each2_same (y := ⟨x.ch, b.s, List.replicate b.d.length (x.d.getD 0 0)⟩) hb hy rfl, each2_right hb hx hs]
    dsimp only
    congr 1
    exact fillE_congr fun i hi => by rw [g i hi]

/-- Two functions that are each other's turned round. -/
theorem each2_flip {f g : Int} (h1 : M.fn2 f = M.fn2 g) (h2 : M.cmp f = M.cmp g) (h3 : ∀ c1 c2 a b, M.tw f c1 c2 a b = M.tw g c2 c1 b a) {x y : Arr} (hx : M.flaw x.ch x.s x.d = 0) (hy : M.flaw y.ch y.s y.d = 0) : M.each2 f x y = M.each2 g y x := by
  have hR : ∀ r, eachR f x.ch y.ch r = eachR g y.ch x.ch r := fun r => by unfold eachR; rw [h1, h2, Bool.or_comm]
  by_cases hs : x.s = y.s
  · rw [each2_same hx hy hs, each2_same hy hx hs.symm, hR, hs, same_cells hx hy hs]
    congr 1
    exact fillE_congr fun i _ => h3 _ _ _ _
  by_cases h0 : x.s = []
  · rw [each2_left hx hy h0, each2_right hy hx h0, hR]
    congr 1
    exact fillE_congr fun i _ => h3 _ _ _ _
  by_cases h4 : y.s = []
  · rw [each2_right hx hy h4, each2_left hy hx h4, hR]
    congr 1
    exact fillE_congr fun i _ => h3 _ _ _ _
  by_cases h5 : x.s.length = y.s.length
  · rw [each2_unfit (e := 4) hx hy (by unfold M.fitE; rw [if_neg h0, if_neg h4, if_neg (by omega), if_pos hs]), each2_unfit (e := 4) hy hx (by unfold M.fitE; rw [if_neg h4, if_neg h0, if_neg (by omega), if_pos (fun e => hs e.symm)]), h1]
  · rw [each2_unfit (e := 3) hx hy (by unfold M.fitE; rw [if_neg h0, if_neg h4, if_pos h5]), each2_unfit (e := 3) hy hx (by unfold M.fitE; rw [if_neg h4, if_neg h0, if_pos (fun e => h5 e.symm)]), h1]

/-- Numbers of one shape. -/
def zipL (F : Int → Int → Int) (d d' : List Int) : List Int := (List.range d.length).map fun i => F (d.getD i 0) (d'.getD i 0)
theorem zipL_length (F : Int → Int → Int) (d d' : List Int) : (zipL F d d').length = d.length := by simp [zipL]
theorem zipL_get (F : Int → Int → Int) {d d' : List Int} {i : Nat} (h : i < d.length) : (zipL F d d').getD i 0 = F (d.getD i 0) (d'.getD i 0) := by
  rw [List.getD_eq_getElem?_getD]; simp [zipL, h]
theorem zipL_congr {F G : Int → Int → Int} {d d' e e' : List Int} (hl : d.length = e.length) (h : ∀ i, i < d.length → F (d.getD i 0) (d'.getD i 0) = G (e.getD i 0) (e'.getD i 0)) : zipL F d d' = zipL G e e' := by
  unfold zipL
  rw [← hl]
  exact List.map_congr_left fun i hi => h i (List.mem_range.1 hi)
theorem each2_num {f : Int} {F : Int → Int → Int} (hf : M.fn2 f = true) (hF : ∀ a b, M.two f a b = .ok (F a b)) {s d d' : List Int} (hx : M.flaw false s d = 0) (hy : M.flaw false s d' = 0) :
    M.each2 f ⟨false, s, d⟩ ⟨false, s, d'⟩ = .ok ⟨false, s, zipL F d d'⟩ := by
  rw [each2_same (x := ⟨false, s, d⟩) (y := ⟨false, s, d'⟩) hx hy rfl]
  unfold eachR
  rw [if_neg (by rw [hf]; simp), if_neg (by simp)]
  unfold M.fillE
  dsimp only
  rw [seqE_ok (G := fun i => F (d.getD i 0) (d'.getD i 0)) fun i _ => by unfold M.tw; rw [if_pos rfl]; exact hF _ _]
  rfl
theorem zipL_sound {F : Int → Int → Int} {s d d' : List Int} (hx : M.flaw false s d = 0) : M.flaw false s (zipL F d d') = 0 :=
  flaw_mk (by rw [zipL_length]; exact (flaw_ok hx).1) (fun h => by cases h)
end Go.Proofs.YtaplaoelamnoiaaGreatDoor

/- More plain facts on what is done cell by cell: what it tells is sound; spreads; less and greater; equal and not equal; a ring. Condition: arrays that may be. -/
namespace Go.Proofs.YtaplaoelamnoiaaGreatDoor
open Go.RowKit

theorem i64_of_all {d : List Int} (h : All64 d) (j : Nat) : I64 (d.getD j 0) := by
  rw [List.getD_eq_getElem?_getD]
  cases e : d[j]? with
  | none => show I64 0; unfold I64; omega
  | some v => exact h _ (List.mem_of_getElem? e)
theorem fitE_count {x y : Arr} (hx : M.flaw x.ch x.s x.d = 0) (hy : M.flaw y.ch y.s y.d = 0) {s : List Int} {N : Nat} {k1 k2 : Bool} (h : M.fitE x y = .ok (s, N, k1, k2)) : M.count s = .ok (N : Int) := by
  unfold M.fitE at h
  split at h
  · cases h; exact (flaw_ok hy).1
  · split at h
    · cases h; exact (flaw_ok hx).1
    · split at h
      · cases h
      · split at h
        · cases h
        · cases h; exact (flaw_ok hx).1
theorem each2_sound {f : Int} {x y z : Arr} (hx : M.flaw x.ch x.s x.d = 0) (hy : M.flaw y.ch y.s y.d = 0) (h : M.each2 f x y = .ok z) : M.flaw z.ch z.s z.d = 0 := by
  cases hfit : M.fitE x y with
  | error e =>
    rw [each2_unfit hx hy hfit] at h
    split at h <;> cases h
  | ok q =>
    obtain ⟨s, N, k1, k2⟩ := q
    rw [each2_fit hx hy hfit] at h
    unfold eachR at h
    split at h
    · cases h
    · split at h
      · cases h
      · obtain ⟨h1, h2, h3, -⟩ := fillE_ok h
        rw [h1, h2]
        exact flaw_mk (by rw [h3]; exact fitE_count hx hy hfit) (fun h => by cases h)
theorem spread_all {x b : Arr} (hx : M.flaw x.ch x.s x.d = 0) (hb : M.flaw b.ch b.s b.d = 0) (hs : x.s = []) (h64 : All64 x.d) :
    ∃ YL, M.reshape b.s x = .ok ⟨x.ch, b.s, YL⟩ ∧ M.flaw x.ch b.s YL = 0 ∧ All64 YL ∧ YL.length = b.d.length ∧ (∀ f, M.each2 f ⟨x.ch, b.s, YL⟩ b = M.each2 f x b) ∧ ∀ f, M.each2 f b ⟨x.ch, b.s, YL⟩ = M.each2 f b x :=
  ⟨_, (spread_of hx hb hs).1, (spread_of hx hb hs).2, fun v hv => by obtain ⟨_, rfl⟩ := List.mem_replicate.1 hv; exact i64_of_all h64 0, List.length_replicate, fun _ => (each2_spread hx hb hs).1, fun _ => (each2_spread hx hb hs).2⟩

namespace M
/-- A function of one number, on an array cell by cell. -/
def each1 (f : Int) (x : Arr) : Except Int Arr :=
  match one f 0 with
  | .error e => .error e
  | .ok _ => if flaw x.ch x.s x.d ≠ 0 then .error (flaw x.ch x.s x.d) else if x.ch = true then .error 6 else fillE x.s x.d.length fun i => one f (x.d.getD i 0)
end M
theorem tw_flip (f g : Int) (h9 : (f = 9) = (g = 9)) (h : ∀ a b, M.two f a b = M.two g b a) (c1 c2 : Bool) (a b : Int) : M.tw f c1 c2 a b = M.tw g c2 c1 b a := by
  unfold M.tw
  by_cases hc : c1 = c2
  · rw [if_pos hc, if_pos hc.symm, h]
  · rw [if_neg hc, if_neg (show ¬ c2 = c1 from fun e => hc e.symm)]
    simp only [h9]
theorem two_lt (a b : Int) : M.two 10 a b = M.two 13 b a := by
  have h1 : M.two 10 a b = .ok (M.bit (decide (a < b))) := by simp [M.two]
  have h2 : M.two 13 b a = .ok (M.bit (decide (a < b))) := by simp [M.two]
  rw [h1, h2]
theorem two_ne (a b : Int) : M.two 9 a b = M.two 9 b a := by
  have h : ∀ a b, M.two 9 a b = .ok (M.bit (a != b)) := fun a b => by simp [M.two]
  rw [h, h]
  congr 2
  rw [Bool.eq_iff_iff, bne_iff_ne, bne_iff_ne]
  exact ⟨fun h e => h e.symm, fun h e => h e.symm⟩
theorem each2_lt {x y : Arr} (hx : M.flaw x.ch x.s x.d = 0) (hy : M.flaw y.ch y.s y.d = 0) : M.each2 10 x y = M.each2 13 y x :=
  each2_flip (f := 10) (g := 13) rfl rfl (tw_flip 10 13 (by simp) two_lt) hx hy

theorem seqE_dual {n : Nat} {F G : Nat → Except Int Int} (h : ∀ i, i < n → ∃ b : Bool, F i = .ok (M.bit b) ∧ G i = .ok (M.bit (!b))) : ∃ B : List Bool, M.seqE n F = .ok (B.map M.bit) ∧ M.seqE n G = .ok (B.map fun b => M.bit (!b)) ∧ B.length = n := by
  induction n with
  | zero => exact ⟨[], rfl, rfl, rfl⟩
  | succ n ih =>
    obtain ⟨B, h1, h2, h3⟩ := ih fun i hi => h i (by omega)
    obtain ⟨b, h4, h5⟩ := h n (by omega)
    refine ⟨B ++ [b], ?_, ?_, by simp [h3]⟩
    · rw [seqE_next h1 h4]; simp
    · rw [seqE_next h2 h5]; simp
theorem one_not (b : Bool) : M.one 17 (M.bit (!b)) = .ok (M.bit b) := by cases b <;> rfl
theorem bit_i64 (b : Bool) : I64 (M.bit b) := by cases b <;> (unfold I64 M.bit; simp)
/-- Equal, and not equal. -/
theorem each2_eq {x y : Arr} (hx : M.flaw x.ch x.s x.d = 0) (hy : M.flaw y.ch y.s y.d = 0) :
    (∃ e e', M.each2 8 x y = .error e ∧ M.each2 9 y x = .error e') ∨
    (∃ s u v, M.each2 8 x y = .ok ⟨false, s, u⟩ ∧ M.each2 9 y x = .ok ⟨false, s, v⟩ ∧ M.each1 17 ⟨false, s, v⟩ = .ok ⟨false, s, u⟩ ∧ M.flaw false s u = 0 ∧ M.flaw false s v = 0 ∧ All64 v) := by
  have h98 : M.each2 9 y x = M.each2 9 x y := (each2_flip (f := 9) (g := 9) rfl rfl (tw_flip 9 9 rfl two_ne) hx hy).symm
  rw [h98]
  cases hfit : M.fitE x y with
  | error e =>
    rw [each2_unfit hx hy hfit, each2_unfit hx hy hfit]
    exact .inl ⟨_, _, rfl, rfl⟩
  | ok q =>
    obtain ⟨s, N, k1, k2⟩ := q
    have hc := fitE_count hx hy hfit
    rw [each2_fit hx hy hfit, each2_fit hx hy hfit]
    unfold eachR
    rw [if_neg (show ¬ M.fn2 8 = false by decide), if_neg (show ¬ M.fn2 9 = false by decide), if_neg (show ¬ ((!M.cmp 8) && (x.ch || y.ch)) = true by simp [show M.cmp 8 = true from rfl]), if_neg (show ¬ ((!M.cmp 9) && (x.ch || y.ch)) = true by simp [show M.cmp 9 = true from rfl])]
    obtain ⟨B, h1, h2, h3⟩ := seqE_dual (n := N) (F := fun i => M.tw 8 x.ch y.ch (M.pickC k1 x.d i) (M.pickC k2 y.d i)) (G := fun i => M.tw 9 x.ch y.ch (M.pickC k1 x.d i) (M.pickC k2 y.d i)) (fun i _ => by
      unfold M.tw
      by_cases hc : x.ch = y.ch
      · rw [if_pos hc, if_pos hc]
        exact ⟨_, rfl, rfl⟩
      · rw [if_neg hc, if_neg hc]
        exact ⟨false, rfl, rfl⟩)
    have f1 : M.flaw false s (B.map M.bit) = 0 := flaw_mk (by rw [List.length_map, h3]; exact hc) (fun h => by cases h)
    have f2 : M.flaw false s (B.map fun b => M.bit (!b)) = 0 := flaw_mk (by rw [List.length_map, h3]; exact hc) (fun h => by cases h)
    refine .inr ⟨s, _, _, by unfold M.fillE; rw [h1], by unfold M.fillE; rw [h2], ?_, f1, f2, ?_⟩
    · unfold M.each1
      rw [show M.one 17 0 = .ok 1 from rfl]
      dsimp only
      rw [if_neg (by rw [f2]; simp), if_neg (by simp)]
      unfold M.fillE
      rw [seqE_ok (G := fun i => (B.map M.bit).getD i 0) fun i hi => by
        rw [List.length_map] at hi
        rw [List.getD_eq_getElem?_getD, List.getD_eq_getElem?_getD, List.getElem?_map, List.getElem?_map, List.getElem?_eq_getElem hi]
        exact one_not _]
      dsimp only
      congr 2
      apply List.ext_getElem
      · simp
      · intro i hi _
        simp at hi
        simp [List.getD_eq_getElem?_getD, hi]
    · intro v hv
      obtain ⟨b, -, rfl⟩ := List.mem_map.1 hv
      exact bit_i64 _

def addF (a b : Int) : Int := wrap64 (a + b)
def mulF (a b : Int) : Int := wrap64 (a * b)
theorem zipL_i64 {F : Int → Int → Int} (hF : ∀ a b, I64 (F a b)) (d d' : List Int) : All64 (zipL F d d') := fun v hv => by
  unfold zipL at hv
  obtain ⟨i, -, rfl⟩ := List.mem_map.1 hv
  exact hF _ _
theorem each_add {s d d' : List Int} (hx : M.flaw false s d = 0) (hy : M.flaw false s d' = 0) : M.each2 1 ⟨false, s, d⟩ ⟨false, s, d'⟩ = .ok ⟨false, s, zipL addF d d'⟩ := each2_num rfl (fun _ _ => rfl) hx hy
theorem each_mul {s d d' : List Int} (hx : M.flaw false s d = 0) (hy : M.flaw false s d' = 0) : M.each2 3 ⟨false, s, d⟩ ⟨false, s, d'⟩ = .ok ⟨false, s, zipL mulF d d'⟩ := each2_num rfl (fun _ _ => rfl) hx hy
/-- Arrays of one shape are a ring. -/
theorem ring_all {s a b c : List Int} (ha : M.flaw false s a = 0) (hb : M.flaw false s b = 0) (hc : M.flaw false s c = 0) :
    ∃ X1 X2 Y Z R1 R2, M.each2 1 ⟨false, s, b⟩ ⟨false, s, c⟩ = .ok ⟨false, s, X1⟩ ∧ M.each2 3 ⟨false, s, a⟩ ⟨false, s, X1⟩ = .ok ⟨false, s, X2⟩ ∧ M.each2 3 ⟨false, s, a⟩ ⟨false, s, b⟩ = .ok ⟨false, s, Y⟩ ∧ M.each2 3 ⟨false, s, a⟩ ⟨false, s, c⟩ = .ok ⟨false, s, Z⟩ ∧
      M.each2 1 ⟨false, s, Y⟩ ⟨false, s, Z⟩ = .ok ⟨false, s, X2⟩ ∧ M.each2 3 ⟨false, s, b⟩ ⟨false, s, a⟩ = .ok ⟨false, s, Y⟩ ∧ M.each2 3 ⟨false, s, Y⟩ ⟨false, s, c⟩ = .ok ⟨false, s, R2⟩ ∧ M.each2 3 ⟨false, s, b⟩ ⟨false, s, c⟩ = .ok ⟨false, s, R1⟩ ∧
      M.each2 3 ⟨false, s, a⟩ ⟨false, s, R1⟩ = .ok ⟨false, s, R2⟩ ∧ M.flaw false s X2 = 0 ∧ M.flaw false s Y = 0 ∧ M.flaw false s R2 = 0 ∧
      (All64 X1 ∧ X1.length = a.length) ∧ X2.length = a.length ∧ (All64 Y ∧ Y.length = a.length) ∧ (All64 Z ∧ Z.length = a.length) ∧ (All64 R1 ∧ R1.length = a.length) ∧ R2.length = a.length := by
  have lb : b.length = a.length := same_cells (x := ⟨false, s, b⟩) (y := ⟨false, s, a⟩) hb ha rfl
  have lc : c.length = a.length := same_cells (x := ⟨false, s, c⟩) (y := ⟨false, s, a⟩) hc ha rfl
  have iA : ∀ a b, I64 (addF a b) := fun _ _ => I64_wrap _
  have iM : ∀ a b, I64 (mulF a b) := fun _ _ => I64_wrap _
  have e1 : zipL addF (zipL mulF a b) (zipL mulF a c) = zipL mulF a (zipL addF b c) := zipL_congr (by rw [zipL_length]) fun i hi => by
    rw [zipL_length] at hi
    rw [zipL_get _ hi, zipL_get _ hi, zipL_get _ (by omega)]
    unfold addF mulF
    rw [wrap_add_l, wrap_add_r, wrap_mul_r, Int.mul_add]
  have e2 : zipL mulF b a = zipL mulF a b := zipL_congr lb fun i _ => by unfold mulF; rw [Int.mul_comm]
  have e3 : zipL mulF a (zipL mulF b c) = zipL mulF (zipL mulF a b) c := zipL_congr (by rw [zipL_length]) fun i hi => by
    rw [zipL_get _ hi, zipL_get _ (by omega)]
    unfold mulF
    rw [wrap_mul_l, wrap_mul_r, Int.mul_assoc]
  refine ⟨zipL addF b c, zipL mulF a (zipL addF b c), zipL mulF a b, zipL mulF a c, zipL mulF b c, zipL mulF (zipL mulF a b) c, each_add hb hc, each_mul ha (zipL_sound hb), each_mul ha hb, each_mul ha hc, ?_, ?_, each_mul (zipL_sound ha) hc, each_mul hb hc, ?_,
    zipL_sound ha, zipL_sound ha, zipL_sound (zipL_sound ha), ⟨zipL_i64 iA _ _, by rw [zipL_length, lb]⟩, by rw [zipL_length], ⟨zipL_i64 iM _ _, by rw [zipL_length]⟩, ⟨zipL_i64 iM _ _, by rw [zipL_length]⟩, ⟨zipL_i64 iM _ _, by rw [zipL_length, lb]⟩, by rw [zipL_length, zipL_length]⟩
  · rw [each_add (zipL_sound ha) (zipL_sound ha), e1]
  · rw [each_mul hb ha, e2]
  · rw [each_mul ha (zipL_sound hb), e3]
end Go.Proofs.YtaplaoelamnoiaaGreatDoor
