/- Texts that lie in one file: what is plain, rows, boxes, squares, and what is known of a world. No condition. -/
import Derived.Test.YtaplaoelamnoiaaGreatDoorBdT09
import Derived.Test.YtaplaoelamnoiaaGreatDoorBdT01
import Derived.Test.YtaplaoelamnoiaaGreatDoorBd04
import Derived.Test.YtaplaoelamnoiaaGreatDoorBd05
/- Inner products of matrices of numbers by two functions that go together like sums and products. No program in sight; matrices of at most 64 rows and columns. -/
namespace Go.Proofs.YtaplaoelamnoiaaGreatDoor
open Go.RowKit

/-- A number of 64 bits. -/
abbrev Z6 := {x : Int // I64 x}

/-- Numbers that are added and multiplied. -/
structure SR where
  ad : Z6 → Z6 → Z6
  mu : Z6 → Z6 → Z6
  z : Z6
  ac : ∀ a b, ad a b = ad b a
  aa : ∀ a b c, ad (ad a b) c = ad a (ad b c)
  az : ∀ a, ad a z = a
  mc : ∀ a b, mu a b = mu b a
  ma : ∀ a b c, mu (mu a b) c = mu a (mu b c)
  dl : ∀ a b c, mu a (ad b c) = ad (mu a b) (mu a c)
  zr : ∀ a, mu a z = z

namespace SR
variable (R : SR)
/-- These are what the two functions do. -/
def Of (f g : Int) : Prop := (∀ a b : Z6, M.two f a.1 b.1 = .ok (R.ad a b).1) ∧ (∀ a b : Z6, M.two g a.1 b.1 = .ok (R.mu a b).1) ∧ M.neutral f = .ok R.z.1 ∧ M.unk f g = 0
theorem za (a : Z6) : R.ad R.z a = a := by rw [R.ac, R.az]
theorem zl (a : Z6) : R.mu R.z a = R.z := by rw [R.mc, R.zr]
theorem dr (a b c : Z6) : R.mu (R.ad a b) c = R.ad (R.mu a c) (R.mu b c) := by rw [R.mc, R.dl, R.mc c a, R.mc c b]
/-- A sum. -/
def sm : Nat → (Nat → Z6) → Z6
  | 0, _ => R.z
  | n + 1, F => R.ad (sm n F) (F n)
theorem sm_congr {n : Nat} {F G : Nat → Z6} (h : ∀ i, i < n → F i = G i) : R.sm n F = R.sm n G := by
  induction n with
  | zero => rfl
  | succ n ih => simp only [sm]; rw [ih fun i hi => h i (by omega), h n (by omega)]
theorem sm_add (n : Nat) (F G : Nat → Z6) : R.sm n (fun i => R.ad (F i) (G i)) = R.ad (R.sm n F) (R.sm n G) := by
  induction n with
  | zero => exact (R.az _).symm
  | succ n ih =>
    simp only [sm]
    rw [ih, R.aa, R.aa, ← R.aa (R.sm n G), R.ac (R.sm n G) (F n), R.aa (F n)]
theorem sm_mul (n : Nat) (c : Z6) (F : Nat → Z6) : R.sm n (fun i => R.mu c (F i)) = R.mu c (R.sm n F) := by
  induction n with
  | zero => exact (R.zr _).symm
  | succ n ih => simp only [sm]; rw [ih, R.dl]
theorem sm_mulr (n : Nat) (c : Z6) (F : Nat → Z6) : R.sm n (fun i => R.mu (F i) c) = R.mu (R.sm n F) c := by
  rw [R.mc, ← sm_mul]; exact R.sm_congr fun i _ => R.mc _ _
theorem sm_zero (n : Nat) : R.sm n (fun _ => R.z) = R.z := by
  induction n with
  | zero => rfl
  | succ n ih => simp only [sm]; rw [ih, R.az]
theorem sm_comm (n m : Nat) (F : Nat → Nat → Z6) : R.sm n (fun i => R.sm m fun j => F i j) = R.sm m fun j => R.sm n fun i => F i j := by
  induction n with
  | zero => exact (R.sm_zero m).symm
  | succ n ih => simp only [sm]; rw [ih, ← sm_add]
/-- A list's sum, from its end. -/
def ls (l : List Z6) : Z6 := l.foldr R.ad R.z
theorem ls_snoc (l : List Z6) (v : Z6) : R.ls (l ++ [v]) = R.ad (R.ls l) v := by
  induction l with
  | nil => show R.ad v R.z = R.ad R.z v; exact R.ac _ _
  | cons x r ih => show R.ad x (R.ls (r ++ [v])) = R.ad (R.ad x (R.ls r)) v; rw [ih, R.aa]
theorem ls_range (n : Nat) (F : Nat → Z6) : R.ls ((List.range n).map F) = R.sm n F := by
  induction n with
  | zero => rfl
  | succ n ih => rw [List.range_succ, List.map_append, List.map_cons, List.map_nil, ls_snoc, ih]; rfl
theorem fold_ls {f g : Int} (h : R.Of f g) (l : List Z6) : M.foldL f (l.map Subtype.val) = .ok (R.ls l).1 := by
  induction l with
  | nil => exact h.2.2.1
  | cons x r ih =>
    by_cases hr : r = []
    · subst hr
      show Except.ok x.1 = Except.ok (R.ad x R.z).1
      rw [R.az]
    · rw [List.map_cons, foldL_cons (fun e => hr (List.map_eq_nil_iff.1 e)), ih]
      exact h.1 x (R.ls r)
theorem fold_range {f g : Int} (h : R.Of f g) (n : Nat) (F : Nat → Z6) : M.foldL f ((List.range n).map fun j => (F j).1) = .ok (R.sm n F).1 := by
  rw [← ls_range, ← R.fold_ls h, List.map_map]; rfl
/-- Two matrices' product. -/
def mm (p : Nat) (A B : Nat → Nat → Z6) (i l : Nat) : Z6 := R.sm p fun j => R.mu (A i j) (B j l)
theorem mm_congr {p : Nat} {A A' B B' : Nat → Nat → Z6} {i l : Nat} (hA : ∀ j, j < p → A i j = A' i j) (hB : ∀ j, j < p → B j l = B' j l) : R.mm p A B i l = R.mm p A' B' i l :=
  R.sm_congr fun j hj => by rw [hA j hj, hB j hj]
theorem mm_chain (p q : Nat) (A B C : Nat → Nat → Z6) (i l : Nat) : R.mm q (R.mm p A B) C i l = R.mm p A (R.mm q B C) i l := by
  show R.sm q (fun k => R.mu (R.sm p fun j => R.mu (A i j) (B j k)) (C k l)) = R.sm p fun j => R.mu (A i j) (R.sm q fun k => R.mu (B j k) (C k l))
  rw [R.sm_congr (G := fun k => R.sm p fun j => R.mu (R.mu (A i j) (B j k)) (C k l)) fun k _ => (R.sm_mulr p (C k l) _).symm, sm_comm]
  refine R.sm_congr fun j _ => ?_
  rw [← R.sm_mul]
  exact R.sm_congr fun k _ => R.ma _ _ _
theorem mm_turn (p : Nat) (A B : Nat → Nat → Z6) (i l : Nat) : R.mm p (fun i j => B j i) (fun i j => A j i) i l = R.mm p A B l i :=
  R.sm_congr fun j _ => R.mc _ _
theorem mm_addr (p : Nat) (A B C : Nat → Nat → Z6) (i l : Nat) : R.mm p A (fun j l => R.ad (B j l) (C j l)) i l = R.ad (R.mm p A B i l) (R.mm p A C i l) := by
  unfold mm
  rw [← sm_add]
  exact R.sm_congr fun j _ => R.dl _ _ _
theorem mm_addl (p : Nat) (A B C : Nat → Nat → Z6) (i l : Nat) : R.mm p (fun i j => R.ad (B i j) (C i j)) A i l = R.ad (R.mm p B A i l) (R.mm p C A i l) := by
  unfold mm
  rw [← sm_add]
  exact R.sm_congr fun j _ => R.dr _ _ _
end SR

/-- A matrix' cells, row by row. -/
def matL (m n : Nat) (A : Nat → Nat → Z6) : List Int := (List.range (m * n)).map fun k => (A (k / n) (k % n)).1
theorem matL_length (m n : Nat) (A : Nat → Nat → Z6) : (matL m n A).length = m * n := by simp [matL]
theorem matL_i64 (m n : Nat) (A : Nat → Nat → Z6) : All64 (matL m n A) := fun x hx => by
  obtain ⟨p, _, rfl⟩ := List.mem_map.1 hx
  exact (A _ _).2
theorem i64_getD {d : List Int} (h : All64 d) (i : Nat) : I64 (d.getD i 0) := by
  rw [List.getD_eq_getElem?_getD]
  cases e : d[i]? with
  | none => show I64 0; unfold I64; omega
  | some v => exact h _ (List.mem_of_getElem? e)
/-- The number at a place. -/
def matA (n : Nat) {d : List Int} (h : All64 d) (i j : Nat) : Z6 := ⟨d.getD (i * n + j) 0, i64_getD h _⟩
theorem mat_place {m n i j : Nat} (hi : i < m) (hj : j < n) : i * n + j < m * n ∧ (i * n + j) / n = i ∧ (i * n + j) % n = j := by
  have h : (i + 1) * n ≤ m * n := Nat.mul_le_mul_right n hi
  rw [Nat.add_mul, Nat.one_mul] at h
  refine ⟨by omega, ?_, ?_⟩
  · rw [Nat.mul_comm, Nat.mul_add_div (by omega), Nat.div_eq_of_lt hj]; rfl
  · rw [Nat.mul_comm, Nat.mul_add_mod, Nat.mod_eq_of_lt hj]
theorem matA_L {m n : Nat} (A : Nat → Nat → Z6) (h : All64 (matL m n A)) {i j : Nat} (hi : i < m) (hj : j < n) : matA n h i j = A i j := by
  obtain ⟨h1, h2, h3⟩ := mat_place hi hj
  apply Subtype.ext
  show (matL m n A).getD (i * n + j) 0 = _
  rw [List.getD_eq_getElem?_getD]
  simp only [matL, List.getElem?_map, List.getElem?_range h1, Option.map_some, Option.getD_some]
  rw [h2, h3]
theorem mat_index {m n k : Nat} (h : k < m * n) : k / n < m ∧ k % n < n := by
  have hn : 0 < n := Nat.pos_of_ne_zero fun e => by subst e; simp at h
  exact ⟨Nat.div_lt_of_lt_mul (by rw [Nat.mul_comm]; exact h), Nat.mod_lt _ hn⟩
theorem matL_congr {m n : Nat} {A B : Nat → Nat → Z6} (h : ∀ i j, i < m → j < n → A i j = B i j) : matL m n A = matL m n B := by
  unfold matL
  apply List.map_congr_left
  intro p hp
  obtain ⟨h1, h2⟩ := mat_index (List.mem_range.1 hp)
  rw [h _ _ h1 h2]
theorem matL_self {m n : Nat} {d : List Int} (hl : d.length = m * n) (h : All64 d) : matL m n (matA n h) = d := by
  apply List.ext_getElem
  · rw [matL_length, hl]
  · intro p h1 h2
    have q3 : p / n * n + p % n = p := by rw [Nat.mul_comm]; exact Nat.div_add_mod p n
    simp only [matL, List.getElem_map, List.getElem_range, matA]
    rw [q3, List.getD_eq_getElem?_getD, List.getElem?_eq_getElem h2, Option.getD_some]

theorem count_mat {m n : Nat} (hm : m ≤ 64) (hn : n ≤ 64) : M.count [(m : Int), (n : Int)] = .ok ((m * n : Nat) : Int) := by
  have e : M.prod [(m : Int), (n : Int)] = ((m * n : Nat) : Int) := by simp [M.prod]
  have hb : m * n ≤ 64 * 64 := Nat.mul_le_mul hm hn
  rw [← e]
  refine M.count_mk (by simp) (fun x hx => ?_) (by rw [e]; omega)
  simp only [List.mem_cons, List.not_mem_nil, or_false] at hx
  rcases hx with rfl | rfl <;> omega
theorem flaw_mat {m n : Nat} (hm : m ≤ 64) (hn : n ≤ 64) {d : List Int} (hd : d.length = m * n) : M.flaw false [(m : Int), (n : Int)] d = 0 := flaw_num (count_mat hm hn) (by rw [hd])

theorem inner_sr (R : SR) {f g : Int} (h : R.Of f g) {m p n : Nat} (hm : m ≤ 64) (hp : p ≤ 64) (hn : n ≤ 64) {d d' : List Int} (h1 : All64 d) (h2 : All64 d') (hd : d.length = m * p) (hd' : d'.length = p * n) :
    M.inner f g ⟨false, [(m : Int), (p : Int)], d⟩ ⟨false, [(p : Int), (n : Int)], d'⟩ = .ok ⟨false, [(m : Int), (n : Int)], matL m n (R.mm p (matA p h1) (matA n h2))⟩ := by
  have f1 : M.flaw false [(m : Int), (p : Int)] d = 0 := flaw_mat hm hp hd
  have f2 : M.flaw false [(p : Int), (n : Int)] d' = 0 := flaw_mat hp hn hd'
  have hfl : M.flaws ⟨false, [(m : Int), (p : Int)], d⟩ ⟨false, [(p : Int), (n : Int)], d'⟩ = 0 := by
    unfold M.flaws; rw [if_pos f1]; exact f2
  have hfit : M.fits ⟨false, [(m : Int), (p : Int)], d⟩ ⟨false, [(p : Int), (n : Int)], d'⟩ = .ok ([(m : Int), (n : Int)], (p : Int)) := by
    unfold M.fits
    rw [if_neg (by simp), if_neg (by simp)]
    show (match M.count [(m : Int), (n : Int)] with | Except.error e => Except.error e | Except.ok _ => Except.ok ([(m : Int), (n : Int)], (p : Int))) = _
    rw [count_mat hm hn]
  have hlone : ∃ v, M.lone f (p : Int) = .ok v := by
    unfold M.lone; split
    · exact ⟨_, h.2.2.1⟩
    · exact ⟨0, rfl⟩
  obtain ⟨v, hlone⟩ := hlone
  have hcell : ∀ k, k < m * n → M.innerCell f g false false d d' p n k = .ok (R.mm p (matA p h1) (matA n h2) (k / n) (k % n)).1 := fun k hk => by
    have hl : M.seqE p (M.lineV g false false d d' p n k) = .ok ((List.range p).map fun j => (R.mu (matA p h1 (k / n) j) (matA n h2 j (k % n))).1) := seqE_ok fun j hjn => by
      unfold M.lineV M.tw
      rw [if_pos rfl]
      exact h.2.1 (matA p h1 (k / n) j) (matA n h2 j (k % n))
    unfold M.innerCell
    rw [hl]
    exact R.fold_range h p _
  unfold M.inner
  rw [if_neg (by rw [h.2.2.2]; simp), if_neg (by rw [hfl]; simp), hfit]
  dsimp only
  rw [if_neg (by simp), hlone]
  dsimp only
  have hp1 : (M.prod [(n : Int)]).toNat = n := by simp [M.prod]
  have hp2 : (M.prod [(m : Int), (n : Int)]).toNat = m * n := by
    have : M.prod [(m : Int), (n : Int)] = ((m * n : Nat) : Int) := by simp [M.prod]
    rw [this]; rfl
  rw [List.tail_cons, hp1, hp2, Int.toNat_natCast]
  unfold M.innerOf
  dsimp only
  rw [seqE_ok hcell]
  rfl

/-! ### The five -/
def zb (x : Z6) : BitVec 64 := BitVec.ofInt 64 x.1
def bz (x : BitVec 64) : Z6 := ⟨wrap64 (x.toNat : Int), I64_wrap _⟩
theorem ofInt_wrap (n : Int) : BitVec.ofInt 64 (wrap64 n) = BitVec.ofInt 64 n := by
  apply BitVec.eq_of_toNat_eq
  simp only [BitVec.toNat_ofInt]
  have : wrap64 n % ((2 ^ 64 : Nat) : Int) = n % ((2 ^ 64 : Nat) : Int) := wrap_mod n
  rw [this]
theorem zb_bz (x : BitVec 64) : zb (bz x) = x := by
  show BitVec.ofInt 64 (wrap64 _) = x
  rw [ofInt_wrap, BitVec.ofInt_natCast, BitVec.ofNat_toNat, BitVec.setWidth_eq]
theorem bz_zb (x : Z6) : bz (zb x) = x := by
  apply Subtype.ext
  show wrap64 ((BitVec.ofInt 64 x.1).toNat : Int) = x.1
  rw [← wrap_id x.2, ofInt_wrap, wrap_iff, BitVec.toNat_ofInt, Int.toNat_of_nonneg (Int.emod_nonneg _ (by decide))]
  exact Int.emod_emod_of_dvd _ (by decide)
theorem bits_bz_and (a b : Z6) : bits .and .i64 a.1 b.1 = (bz (zb a &&& zb b)).1 := by simp only [bits, IntWalk.i64_left]; rfl
theorem bits_bz_or (a b : Z6) : bits .or .i64 a.1 b.1 = (bz (zb a ||| zb b)).1 := by simp only [bits, IntWalk.i64_left]; rfl

def srAdd : SR where
  ad a b := ⟨wrap64 (a.1 + b.1), I64_wrap _⟩
  mu a b := ⟨wrap64 (a.1 * b.1), I64_wrap _⟩
  z := ⟨0, by unfold I64; omega⟩
  ac a b := Subtype.ext (by rw [Int.add_comm])
  aa a b c := Subtype.ext (by simp only [wrap_add_l, wrap_add_r, Int.add_assoc])
  az a := Subtype.ext (by simp only [Int.add_zero]; exact wrap_id a.2)
  mc a b := Subtype.ext (by rw [Int.mul_comm])
  ma a b c := Subtype.ext (by simp only [wrap_mul_l, wrap_mul_r, Int.mul_assoc])
  dl a b c := Subtype.ext (by simp only [wrap_mul_r, wrap_add_l, wrap_add_r, Int.mul_add])
  zr a := Subtype.ext (by simp only [Int.mul_zero]; exact wrap_id (by unfold I64; omega))

def zmax (a b : Z6) : Z6 := ⟨if a.1 < b.1 then b.1 else a.1, by split <;> first | exact a.2 | exact b.2⟩
def zmin (a b : Z6) : Z6 := ⟨if b.1 < a.1 then b.1 else a.1, by split <;> first | exact a.2 | exact b.2⟩
def srMax : SR where
  ad := zmax
  mu := zmin
  z := ⟨-9223372036854775808, by unfold I64; omega⟩
  ac a b := Subtype.ext (by simp only [zmax]; (repeat' split) <;> omega)
  aa a b c := Subtype.ext (by simp only [zmax]; (repeat' split) <;> omega)
  az a := Subtype.ext (by have := a.2; unfold I64 at this; simp only [zmax]; (repeat' split) <;> omega)
  mc a b := Subtype.ext (by simp only [zmin]; (repeat' split) <;> omega)
  ma a b c := Subtype.ext (by simp only [zmin]; (repeat' split) <;> omega)
  dl a b c := Subtype.ext (by simp only [zmin, zmax]; (repeat' split) <;> omega)
  zr a := Subtype.ext (by have := a.2; unfold I64 at this; simp only [zmin]; (repeat' split) <;> omega)
def srMin : SR where
  ad := zmin
  mu := zmax
  z := ⟨9223372036854775807, by unfold I64; omega⟩
  ac a b := Subtype.ext (by simp only [zmin]; (repeat' split) <;> omega)
  aa a b c := Subtype.ext (by simp only [zmin]; (repeat' split) <;> omega)
  az a := Subtype.ext (by have := a.2; unfold I64 at this; simp only [zmin]; (repeat' split) <;> omega)
  mc a b := Subtype.ext (by simp only [zmax]; (repeat' split) <;> omega)
  ma a b c := Subtype.ext (by simp only [zmax]; (repeat' split) <;> omega)
  dl a b c := Subtype.ext (by simp only [zmin, zmax]; (repeat' split) <;> omega)
  zr a := Subtype.ext (by have := a.2; unfold I64 at this; simp only [zmax]; (repeat' split) <;> omega)
def srOr : SR where
  ad a b := bz (zb a ||| zb b)
  mu a b := bz (zb a &&& zb b)
  z := bz 0#64
  ac a b := by rw [BitVec.or_comm]
  aa a b c := by rw [zb_bz, zb_bz, BitVec.or_assoc]
  az a := by rw [zb_bz, BitVec.or_zero, bz_zb]
  mc a b := by rw [BitVec.and_comm]
  ma a b c := by rw [zb_bz, zb_bz, BitVec.and_assoc]
  dl a b c := by
    rw [zb_bz, zb_bz, zb_bz]
    congr 1
    ext i
    simp only [BitVec.getElem_or, BitVec.getElem_and]
    cases (zb a)[i] <;> cases (zb b)[i] <;> cases (zb c)[i] <;> rfl
  zr a := by rw [zb_bz, BitVec.and_zero]
def srAnd : SR where
  ad a b := bz (zb a &&& zb b)
  mu a b := bz (zb a ||| zb b)
  z := bz (BitVec.allOnes 64)
  ac a b := by rw [BitVec.and_comm]
  aa a b c := by rw [zb_bz, zb_bz, BitVec.and_assoc]
  az a := by rw [zb_bz, BitVec.and_allOnes, bz_zb]
  mc a b := by rw [BitVec.or_comm]
  ma a b c := by rw [zb_bz, zb_bz, BitVec.or_assoc]
  dl a b c := by
    rw [zb_bz, zb_bz, zb_bz]
    congr 1
    ext i
    simp only [BitVec.getElem_or, BitVec.getElem_and]
    cases (zb a)[i] <;> cases (zb b)[i] <;> cases (zb c)[i] <;> rfl
  zr a := by
    rw [zb_bz, BitVec.or_allOnes]

theorem bz_0 : (bz 0#64).1 = 0 := by show wrap64 _ = _; exact wrap_id (by unfold I64; decide)
theorem bz_1 : (bz (BitVec.allOnes 64)).1 = -1 := by
  show wrap64 (((BitVec.allOnes 64).toNat : Nat) : Int) = -1
  rw [BitVec.toNat_allOnes]; unfold wrap64; decide
theorem srAdd_of : srAdd.Of 1 3 := ⟨fun _ _ => rfl, fun _ _ => rfl, rfl, rfl⟩
theorem srMax_of : srMax.Of 6 7 := ⟨fun _ _ => rfl, fun _ _ => rfl, rfl, rfl⟩
theorem srMin_of : srMin.Of 7 6 := ⟨fun _ _ => rfl, fun _ _ => rfl, rfl, rfl⟩
theorem srOr_of : srOr.Of 15 14 := ⟨fun a b => congrArg Except.ok (bits_bz_or a b), fun a b => congrArg Except.ok (bits_bz_and a b), congrArg Except.ok bz_0.symm, rfl⟩
theorem srAnd_of : srAnd.Of 14 15 := ⟨fun a b => congrArg Except.ok (bits_bz_and a b), fun a b => congrArg Except.ok (bits_bz_or a b), congrArg Except.ok bz_1.symm, rfl⟩

namespace M
/-- Do two functions go together like sums and products? -/
def semi (f g : Int) : Bool := if f = 1 then g == 3 else if f = 6 then g == 7 else if f = 7 then g == 6 else if f = 15 then g == 14 else f == 14 && g == 15
end M
theorem semi_sr {f g : Int} (h : M.semi f g = true) : ∃ R : SR, R.Of f g := by
  unfold M.semi at h
  split at h
  · rename_i e; rw [beq_iff_eq] at h; subst e; subst h; exact ⟨_, srAdd_of⟩
  · split at h
    · rename_i e; rw [beq_iff_eq] at h; subst e; subst h; exact ⟨_, srMax_of⟩
    · split at h
      · rename_i e; rw [beq_iff_eq] at h; subst e; subst h; exact ⟨_, srMin_of⟩
      · split at h
        · rename_i e; rw [beq_iff_eq] at h; subst e; subst h; exact ⟨_, srOr_of⟩
        · simp only [Bool.and_eq_true, beq_iff_eq] at h
          obtain ⟨rfl, rfl⟩ := h
          exact ⟨_, srAnd_of⟩

/-- Whichever two come first. -/
theorem inner_chain {R : SR} {f g : Int} (h : R.Of f g) {m p q n : Nat} (hm : m ≤ 64) (hp : p ≤ 64) (hq : q ≤ 64) (hn : n ≤ 64) {a b c : List Int} (ha : All64 a) (hb : All64 b) (hc : All64 c) (la : a.length = m * p) (lb : b.length = p * q) (lc : c.length = q * n) :
    ∃ X Y Z, M.inner f g ⟨false, [(m : Int), (p : Int)], a⟩ ⟨false, [(p : Int), (q : Int)], b⟩ = .ok ⟨false, [(m : Int), (q : Int)], X⟩ ∧ M.inner f g ⟨false, [(m : Int), (q : Int)], X⟩ ⟨false, [(q : Int), (n : Int)], c⟩ = .ok ⟨false, [(m : Int), (n : Int)], Z⟩ ∧
      M.inner f g ⟨false, [(p : Int), (q : Int)], b⟩ ⟨false, [(q : Int), (n : Int)], c⟩ = .ok ⟨false, [(p : Int), (n : Int)], Y⟩ ∧ M.inner f g ⟨false, [(m : Int), (p : Int)], a⟩ ⟨false, [(p : Int), (n : Int)], Y⟩ = .ok ⟨false, [(m : Int), (n : Int)], Z⟩ ∧
      (All64 X ∧ X.length = m * q) ∧ (All64 Y ∧ Y.length = p * n) ∧ All64 Z ∧ Z.length = m * n := by
  refine ⟨matL m q (R.mm p (matA p ha) (matA q hb)), matL p n (R.mm q (matA q hb) (matA n hc)), matL m n (R.mm q (R.mm p (matA p ha) (matA q hb)) (matA n hc)), inner_sr R h hm hp hq ha hb la lb, ?_, inner_sr R h hp hq hn hb hc lb lc, ?_, ⟨matL_i64 _ _ _, matL_length _ _ _⟩, ⟨matL_i64 _ _ _, matL_length _ _ _⟩, matL_i64 _ _ _, matL_length _ _ _⟩
  · rw [inner_sr R h hm hq hn (matL_i64 _ _ _) hc (matL_length _ _ _) lc]
    congr 2
    exact matL_congr fun i l hi hl => R.mm_congr (fun k hk => matA_L _ _ hi hk) fun k hk => rfl
  · rw [inner_sr R h hm hp hn ha (matL_i64 _ _ _) la (matL_length _ _ _)]
    congr 2
    exact matL_congr fun i l hi hl => (R.mm_congr (fun j _ => rfl) fun j hj => matA_L _ _ hj hl).trans (R.mm_chain p q _ _ _ i l).symm

end Go.Proofs.YtaplaoelamnoiaaGreatDoor

/- Plain facts for the walk of prod.Outer. Condition: rows that lie as lists of ints of 64 bits. -/
namespace Go.Proofs.YtaplaoelamnoiaaGreatDoor
open Go.RowKit

theorem OutAt.drewN {w wB wr : World} {N B : Nat} {ch : Bool} {sv dv : Value} {ys : List Int} (h : OutAt w wB N B ch sv dv ys wr) (n : Nat) : OutAt w wB N B ch sv dv ys (wr.drewN n) :=
  ⟨h.1, h.2.1, below_drewN h.2.2.1 n, h.2.2.2.1, h.2.2.2.2⟩
theorem own_ltR {w : World} {B l c : Nat} {a : Option Addr} {ys : List Int} (h : Own w B (.slice a l c) ys) : ∀ p, a = some p → B ≤ p.block ∧ p.block < w.heap.size := fun p e => by
  rcases h.2 with ⟨hv, _⟩ | ⟨g, cap, cur, hv, hg, hh, _⟩
  · rw [e] at hv; cases hv
  · rw [e] at hv; cases hv; exact ⟨hg, (Array.getElem?_eq_some_iff.1 hh).1⟩
theorem flaws_parts {x y : Arr} (hf : M.flaws x y = 0) : M.flaw x.ch x.s x.d = 0 ∧ M.flaw y.ch y.s y.d = 0 := by
  have h1 : M.flaw x.ch x.s x.d = 0 := by unfold M.flaws at hf; split at hf <;> first | assumption | (rename_i h; exact absurd hf h)
  exact ⟨h1, by unfold M.flaws at hf; rw [if_pos h1] at hf; exact hf⟩

end Go.Proofs.YtaplaoelamnoiaaGreatDoor
