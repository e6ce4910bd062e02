/- What a function does cell by cell, in plain data: arrays of one shape, single cells, the shape set aside, two functions that are each other's turned round. Condition: arrays that may be. -/
import Derived.Test.YtiebknfmmanbiaaDoorWkEach
import Derived.Test.YtiebknfmmanbiaaDoorPlainArr
namespace Go.Proofs.YtiebknfmmanbiaaDoor
open Go.RowKit

theorem seqE_congr {n : Nat} {F G : Nat → Except Int Int} (h : ∀ i, i < n → F i = G i) : M.seqE n F = M.seqE n G := by
  induction n with
  | zero => rfl
  | succ n ih =>
    unfold M.seqE
    rw [ih fun i hi => h i (by omega), h n (by omega)]
theorem fillE_congr {s : List Int} {n : Nat} {F G : Nat → Except Int Int} (h : ∀ i, i < n → F i = G i) : M.fillE s n F = M.fillE s n G := by
  unfold M.fillE
  rw [seqE_congr h]
theorem flaws_zero {x y : Arr} (hx : M.flaw x.ch x.s x.d = 0) (hy : M.flaw y.ch y.s y.d = 0) : M.flaws x y = 0 := by
  unfold M.flaws
  rw [if_pos hx]
  exact hy
theorem cells_of {x : Arr} (hx : M.flaw x.ch x.s x.d = 0) : (x.d.length : Int) = M.prod x.s := by
  obtain ⟨q, c, e⟩ := flaw_parts hx
  obtain ⟨_, _, a3, _⟩ := M.count_ok c
  omega
theorem one_cell {x : Arr} (hx : M.flaw x.ch x.s x.d = 0) (hs : x.s = []) : x.d.length = 1 := by
  have h := cells_of hx
  rw [hs] at h
  have : M.prod [] = 1 := rfl
  omega
theorem same_cells {x y : Arr} (hx : M.flaw x.ch x.s x.d = 0) (hy : M.flaw y.ch y.s y.d = 0) (h : x.s = y.s) : x.d.length = y.d.length := by
  have h1 := cells_of hx
  have h2 := cells_of hy
  rw [h] at h1
  omega

/-- The rule's two first tests, and then the cells. -/
def eachR (f : Int) (c1 c2 : Bool) (r : Except Int Arr) : Except Int Arr := if M.fn2 f = false then .error 1 else if ((!M.cmp f) && (c1 || c2)) = true then .error 6 else r
theorem each2_fit {f : Int} {x y : Arr} (hx : M.flaw x.ch x.s x.d = 0) (hy : M.flaw y.ch y.s y.d = 0) {s : List Int} {N : Nat} {k1 k2 : Bool} (h : M.fitE x y = .ok (s, N, k1, k2)) :
    M.each2 f x y = eachR f x.ch y.ch (M.fillE s N fun i => M.tw f x.ch y.ch (M.pickC k1 x.d i) (M.pickC k2 y.d i)) := by
  unfold M.each2 eachR
  rw [flaws_zero hx hy, h]
  simp
theorem each2_unfit {f : Int} {x y : Arr} (hx : M.flaw x.ch x.s x.d = 0) (hy : M.flaw y.ch y.s y.d = 0) {e : Int} (h : M.fitE x y = .error e) : M.each2 f x y = if M.fn2 f = false then .error 1 else .error e := by
  unfold M.each2
  rw [flaws_zero hx hy, h]
  simp
theorem each2_left {f : Int} {x y : Arr} (hx : M.flaw x.ch x.s x.d = 0) (hy : M.flaw y.ch y.s y.d = 0) (hs : x.s = []) :
    M.each2 f x y = eachR f x.ch y.ch (M.fillE y.s y.d.length fun i => M.tw f x.ch y.ch (x.d.getD 0 0) (y.d.getD i 0)) :=
  each2_fit (k1 := true) (k2 := false) hx hy (by unfold M.fitE; rw [if_pos hs])
theorem each2_same {f : Int} {x y : Arr} (hx : M.flaw x.ch x.s x.d = 0) (hy : M.flaw y.ch y.s y.d = 0) (h : x.s = y.s) :
    M.each2 f x y = eachR f x.ch y.ch (M.fillE x.s x.d.length fun i => M.tw f x.ch y.ch (x.d.getD i 0) (y.d.getD i 0)) := by
  by_cases hs : x.s = []
  · rw [each2_left hx hy hs, ← h, ← same_cells hx hy h]
    congr 1
    refine fillE_congr fun i hi => ?_
    have : i = 0 := by rw [one_cell hx hs] at hi; omega
    rw [this]
  · exact each2_fit (k1 := false) (k2 := false) hx hy (by unfold M.fitE; rw [if_neg hs, if_neg (by rw [← h]; exact hs), if_neg (by rw [h]; simp), if_neg (by rw [h]; simp)])
theorem each2_right {f : Int} {x y : Arr} (hx : M.flaw x.ch x.s x.d = 0) (hy : M.flaw y.ch y.s y.d = 0) (hs : y.s = []) :
    M.each2 f x y = eachR f x.ch y.ch (M.fillE x.s x.d.length fun i => M.tw f x.ch y.ch (x.d.getD i 0) (y.d.getD 0 0)) := by
  by_cases h0 : x.s = []
  · rw [each2_same hx hy (h0.trans hs.symm)]
    congr 1
    refine fillE_congr fun i hi => ?_
    have : i = 0 := by rw [one_cell hx h0] at hi; omega
    rw [this]
  · exact each2_fit (k1 := false) (k2 := true) hx hy (by unfold M.fitE; rw [if_neg h0, if_pos hs])

theorem fillE_ok {s : List Int} {n : Nat} {F : Nat → Except Int Int} {z : Arr} (h : M.fillE s n F = .ok z) : z.ch = false ∧ z.s = s ∧ z.d.length = n ∧ M.seqE n F = .ok z.d := by
  unfold M.fillE at h
  cases hq : M.seqE n F with
  | error e => rw [hq] at h; cases h
  | ok l => rw [hq] at h; cases h; exact ⟨rfl, rfl, seqE_length hq, rfl⟩

/-- It does not see the shape. -/
theorem each2_ravel {f : Int} {x y : Arr} (hx : M.flaw x.ch x.s x.d = 0) (hy : M.flaw y.ch y.s y.d = 0) (h : x.s = y.s) :
    (∃ e e', M.each2 f x y = .error e ∧ M.each2 f ⟨x.ch, [(x.d.length : Int)], x.d⟩ ⟨y.ch, [(y.d.length : Int)], y.d⟩ = .error e') ∨
    (∃ l, M.each2 f x y = .ok ⟨false, x.s, l⟩ ∧ l.length = x.d.length ∧ M.each2 f ⟨x.ch, [(x.d.length : Int)], x.d⟩ ⟨y.ch, [(y.d.length : Int)], y.d⟩ = .ok ⟨false, [(x.d.length : Int)], l⟩) := by
  have e1 := each2_same (f := f) hx hy h
  have e2 := each2_same (f := f) (x := ⟨x.ch, [(x.d.length : Int)], x.d⟩) (y := ⟨y.ch, [(y.d.length : Int)], y.d⟩) (ravel_sound hx) (ravel_sound hy) (by rw [same_cells hx hy h])
  rw [e1, e2]
  unfold eachR
  by_cases h1 : M.fn2 f = false
  · rw [if_pos h1, if_pos h1]; exact .inl ⟨_, _, rfl, rfl⟩
  rw [if_neg h1, if_neg h1]
  by_cases h2 : ((!M.cmp f) && (x.ch || y.ch)) = true
  · rw [if_pos h2, if_pos h2]; exact .inl ⟨_, _, rfl, rfl⟩
  rw [if_neg h2, if_neg h2]
  unfold M.fillE
  dsimp only
  cases hq : M.seqE x.d.length fun i => M.tw f x.ch y.ch (x.d.getD i 0) (y.d.getD i 0) with
  | error e => exact .inl ⟨_, _, rfl, rfl⟩
  | ok l => exact .inr ⟨l, rfl, seqE_length hq, rfl⟩

/-- One cell is as many as are needed. -/
theorem spread_of {x b : Arr} (hx : M.flaw x.ch x.s x.d = 0) (hb : M.flaw b.ch b.s b.d = 0) (hs : x.s = []) :
    M.reshape b.s x = .ok ⟨x.ch, b.s, List.replicate b.d.length (x.d.getD 0 0)⟩ ∧ M.flaw x.ch b.s (List.replicate b.d.length (x.d.getD 0 0)) = 0 := by
  have hc := (flaw_ok hb).1
  have h1 := one_cell hx hs
  have e : M.cycle x.d b.d.length (M.fill x.ch) = List.replicate b.d.length (x.d.getD 0 0) := by
    apply List.ext_getElem
    · rw [cycle_length, List.length_replicate]
    · intro i hi _
      simp [M.cycle, h1, Nat.mod_one]
  constructor
  · unfold M.reshape
    rw [hc]
    dsimp only
    rw [if_pos hx, Int.toNat_natCast, e]
  · refine flaw_mk (by rw [List.length_replicate]; exact hc) fun h => ?_
    have hn := (flaw_ok hx).2 h
    rw [List.any_eq_false] at hn ⊢
    intro v hv
    obtain ⟨_, rfl⟩ := List.mem_replicate.1 hv
    refine hn _ ?_
    rw [List.getD_eq_getElem?_getD, List.getElem?_eq_getElem (by omega : 0 < x.d.length)]
    exact List.getElem_mem _
theorem each2_spread {f : Int} {x b : Arr} (hx : M.flaw x.ch x.s x.d = 0) (hb : M.flaw b.ch b.s b.d = 0) (hs : x.s = []) :
    M.each2 f ⟨x.ch, b.s, List.replicate b.d.length (x.d.getD 0 0)⟩ b = M.each2 f x b ∧ M.each2 f b ⟨x.ch, b.s, List.replicate b.d.length (x.d.getD 0 0)⟩ = M.each2 f b x := by
  have hy := (spread_of hx hb hs).2
  have g : ∀ i, i < b.d.length → (List.replicate b.d.length (x.d.getD 0 0)).getD i 0 = x.d.getD 0 0 := fun i hi => by
    rw [List.getD_eq_getElem?_getD, List.getElem?_replicate, if_pos hi]; rfl
  constructor
  · rw [each2_same (x := ⟨x.ch, b.s, List.replicate b.d.length (x.d.getD 0 0)⟩) hy hb rfl, each2_left hx hb hs]
    dsimp only
    rw [List.length_replicate]
    congr 1
    exact fillE_congr fun i hi => by rw [g i hi]
  · rw [each2_same (y := ⟨x.ch, b.s, List.replicate b.d.length (x.d.getD 0 0)⟩) hb hy rfl, each2_right hb hx hs]
    dsimp only
    congr 1
    exact fillE_congr fun i hi => by rw [g i hi]

/-- Two functions that are each other's turned round. -/
theorem each2_flip {f g : Int} (h1 : M.fn2 f = M.fn2 g) (h2 : M.cmp f = M.cmp g) (h3 : ∀ c1 c2 a b, M.tw f c1 c2 a b = M.tw g c2 c1 b a) {x y : Arr} (hx : M.flaw x.ch x.s x.d = 0) (hy : M.flaw y.ch y.s y.d = 0) : M.each2 f x y = M.each2 g y x := by
  have hR : ∀ r, eachR f x.ch y.ch r = eachR g y.ch x.ch r := fun r => by unfold eachR; rw [h1, h2, Bool.or_comm]
  by_cases hs : x.s = y.s
  · rw [each2_same hx hy hs, each2_same hy hx hs.symm, hR, hs, same_cells hx hy hs]
    congr 1
    exact fillE_congr fun i _ => h3 _ _ _ _
  by_cases h0 : x.s = []
  · rw [each2_left hx hy h0, each2_right hy hx h0, hR]
    congr 1
    exact fillE_congr fun i _ => h3 _ _ _ _
  by_cases h4 : y.s = []
  · rw [each2_right hx hy h4, each2_left hy hx h4, hR]
    congr 1
    exact fillE_congr fun i _ => h3 _ _ _ _
  by_cases h5 : x.s.length = y.s.length
  · rw [each2_unfit (e := 4) hx hy (by unfold M.fitE; rw [if_neg h0, if_neg h4, if_neg (by omega), if_pos hs]), each2_unfit (e := 4) hy hx (by unfold M.fitE; rw [if_neg h4, if_neg h0, if_neg (by omega), if_pos (fun e => hs e.symm)]), h1]
  · rw [each2_unfit (e := 3) hx hy (by unfold M.fitE; rw [if_neg h0, if_neg h4, if_pos h5]), each2_unfit (e := 3) hy hx (by unfold M.fitE; rw [if_neg h4, if_neg h0, if_pos (fun e => h5 e.symm)]), h1]

/-- Numbers of one shape. -/
def zipL (F : Int → Int → Int) (d d' : List Int) : List Int := (List.range d.length).map fun i => F (d.getD i 0) (d'.getD i 0)
theorem zipL_length (F : Int → Int → Int) (d d' : List Int) : (zipL F d d').length = d.length := by simp [zipL]
theorem zipL_get (F : Int → Int → Int) {d d' : List Int} {i : Nat} (h : i < d.length) : (zipL F d d').getD i 0 = F (d.getD i 0) (d'.getD i 0) := by
  rw [List.getD_eq_getElem?_getD]; simp [zipL, h]
theorem zipL_congr {F G : Int → Int → Int} {d d' e e' : List Int} (hl : d.length = e.length) (h : ∀ i, i < d.length → F (d.getD i 0) (d'.getD i 0) = G (e.getD i 0) (e'.getD i 0)) : zipL F d d' = zipL G e e' := by
  unfold zipL
  rw [← hl]
  exact List.map_congr_left fun i hi => h i (List.mem_range.1 hi)
theorem each2_num {f : Int} {F : Int → Int → Int} (hf : M.fn2 f = true) (hF : ∀ a b, M.two f a b = .ok (F a b)) {s d d' : List Int} (hx : M.flaw false s d = 0) (hy : M.flaw false s d' = 0) :
    M.each2 f ⟨false, s, d⟩ ⟨false, s, d'⟩ = .ok ⟨false, s, zipL F d d'⟩ := by
  rw [each2_same (x := ⟨false, s, d⟩) (y := ⟨false, s, d'⟩) hx hy rfl]
  unfold eachR
  rw [if_neg (by rw [hf]; simp), if_neg (by simp)]
  unfold M.fillE
  dsimp only
  rw [seqE_ok (G := fun i => F (d.getD i 0) (d'.getD i 0)) fun i _ => by unfold M.tw; rw [if_pos rfl]; exact hF _ _]
  rfl
theorem zipL_sound {F : Int → Int → Int} {s d d' : List Int} (hx : M.flaw false s d = 0) : M.flaw false s (zipL F d d') = 0 :=
  flaw_mk (by rw [zipL_length]; exact (flaw_ok hx).1) (fun h => by cases h)
end Go.Proofs.YtiebknfmmanbiaaDoor
