/- Relations of at most 24 things, bit by bit, as cells; plain facts on their bits. No condition. -/
import Derived.Test.YtiebknfmmanbiaaDoorRe1
import Derived.Test.YtiebknfmmanbiaaDoorBdA
import Derived.Laws.Rows
import Derived.Laws.Tables
namespace Go.Proofs.YtiebknfmmanbiaaDoor
open Go.RowKit

/-- 24 masks, as cells. -/
def maskCells (T : List Nat) : Array Value := (T.map fun (m : Nat) => Value.int .u32 (m : Int)).toArray

def Masks (T : List Nat) : Prop := T.length = 24 ∧ ∀ m ∈ T, m < 4294967296

/-- Does i lead to j? -/
def bitE (T : List Nat) (i j : Nat) : Bool := (T.getD i 0).testBit j

theorem mask_cell {W : World} {b : Nat} {e : TypeId} {T : List Nat} (h : W.heap[b]? = some (.cells (maskCells T) e (0, 0))) {k : Nat} (hk : k < T.length) :
    W.cell? ⟨b, k, none⟩ = some (.int .u32 ((T.getD k 0 : Nat) : Int)) := by
  rw [cell_of_row W b k _ e (0, 0) h]
  simp [maskCells, hk]

theorem mask_set {W : World} {b : Nat} {e : TypeId} {T : List Nat} (h : W.heap[b]? = some (.cells (maskCells T) e (0, 0))) (k v : Nat) :
    (W.setCell ⟨b, k, none⟩ (.int .u32 (v : Int))).heap[b]? = some (.cells (maskCells (T.set k v)) e (0, 0)) := by
  rw [heap_setCell_same W b k _ e _ h]
  congr 2
  apply Array.toList_inj.1
  simp [maskCells]

theorem mask_size (T : List Nat) : (maskCells T).size = T.length := by simp [maskCells]
theorem mask_one (T : List Nat) : (maskCells T).all (·.oneCell') = true := by simp [maskCells, Value.oneCell']

def zeros24 : List Nat := List.replicate 24 0
theorem masks_zero : Masks zeros24 := ⟨rfl, fun m hm => by rw [List.eq_of_mem_replicate hm]; decide⟩
theorem bitE_zero (i j : Nat) : bitE zeros24 i j = false := by
  unfold bitE zeros24
  rw [List.getD_eq_getElem?_getD]
  rcases Nat.lt_or_ge i 24 with h | h
  · rw [List.getElem?_replicate_of_lt h]; simp
  · rw [List.getElem?_eq_none (by simpa using h)]; simp

theorem Tryd.infoThings : (Tryd.prog.info? 79).map (·.size) = some 24 := by kernel_rfl

theorem Masks.get {T : List Nat} (h : Masks T) (k : Nat) : T.getD k 0 < 4294967296 := by
  rw [List.getD_eq_getElem?_getD]
  rcases Nat.lt_or_ge k T.length with hk | hk
  · rw [List.getElem?_eq_getElem hk]; exact h.2 _ (List.getElem_mem hk)
  · rw [List.getElem?_eq_none hk]; decide

theorem Masks.set {T : List Nat} (h : Masks T) (k v : Nat) (hv : v < 4294967296) : Masks (T.set k v) :=
  ⟨by rw [List.length_set]; exact h.1, fun m hm => by
    rcases List.mem_or_eq_of_mem_set hm with h1 | h1
    · exact h.2 m h1
    · rw [h1]; exact hv⟩

theorem getD_set {T : List Nat} {k : Nat} (hk : k < T.length) (v i : Nat) : (T.set k v).getD i 0 = if i = k then v else T.getD i 0 := by
  rw [List.getD_eq_getElem?_getD, List.getElem?_set]
  by_cases e : k = i
  · subst e; rw [if_pos rfl, if_pos rfl, if_pos hk]; rfl
  · rw [if_neg e, if_neg (fun h => e h.symm), List.getD_eq_getElem?_getD]

theorem or_lt32 {a b : Nat} (ha : a < 4294967296) (hb : b < 4294967296) : a ||| b < 4294967296 := Nat.or_lt_two_pow (n := 32) ha hb

theorem u32_in (n : Nat) (h : n < 4294967296) : IntKind.u32.wrap (n : Int) = n := by
  rw [IntKind.wrap_u32]; omega

theorem bits_or32 {a b : Nat} (ha : a < 4294967296) (hb : b < 4294967296) : bits .or .u32 (a : Int) (b : Int) = ((a ||| b : Nat) : Int) := by
  have e1 : (BitVec.ofInt IntKind.u32.bits (a : Int)).toNat = a := by rw [BitVec.toNat_ofInt]; simp only [IntKind.bits]; omega
  have e2 : (BitVec.ofInt IntKind.u32.bits (b : Int)).toNat = b := by rw [BitVec.toNat_ofInt]; simp only [IntKind.bits]; omega
  simp only [bits]
  rw [BitVec.toNat_or, e1, e2]
  exact u32_in _ (or_lt32 ha hb)

theorem bits_and32 {a b : Nat} (ha : a < 4294967296) (hb : b < 4294967296) : bits .and .u32 (a : Int) (b : Int) = ((a &&& b : Nat) : Int) := by
  have e1 : (BitVec.ofInt IntKind.u32.bits (a : Int)).toNat = a := by rw [BitVec.toNat_ofInt]; simp only [IntKind.bits]; omega
  have e2 : (BitVec.ofInt IntKind.u32.bits (b : Int)).toNat = b := by rw [BitVec.toNat_ofInt]; simp only [IntKind.bits]; omega
  simp only [bits]
  rw [BitVec.toNat_and, e1, e2]
  exact u32_in _ (Nat.lt_of_le_of_lt Nat.and_le_left ha)

/-- 'm >> k & 1'. -/
theorem shr_and {m : Nat} (h : m < 4294967296) (k : Nat) : bits .and .u32 ((m : Int) / 2 ^ k) 1 = if m.testBit k then 1 else 0 := by
  have e : ((m : Int) / 2 ^ k) = ((m / 2 ^ k : Nat) : Int) := by simp
  have h2 : m / 2 ^ k < 4294967296 := Nat.lt_of_le_of_lt (Nat.div_le_self _ _) h
  rw [e]
  have := bits_and32 h2 (show 1 < 4294967296 by decide)
  rw [show (1 : Int) = ((1 : Nat) : Int) from rfl, this, Nat.and_one_is_mod, Nat.testBit_eq_decide_div_mod_eq]
  by_cases h3 : m / 2 ^ k % 2 = 1
  · rw [h3]; simp
  · have h4 : m / 2 ^ k % 2 = 0 := by omega
    rw [h4]; simp

theorem shr_test {m : Nat} (h : m < 4294967296) (k : Nat) : (bits .and .u32 ((m : Int) / 2 ^ k) 1 == 1) = m.testBit k := by
  rw [shr_and h]; cases m.testBit k <;> rfl

/-- One thing's step of one round of Warshall's. -/
theorem wars_step {E : Nat → Nat → Bool} {n k m : Nat} {T : List Nat} (hT : T.length = 24) (hn : n ≤ 24) (hm : m < n) (hk : k < n)
    (h : ∀ i j, i < n → bitE T i j = if i < m then Re.wars E (k + 1) i j else Re.wars E k i j) :
    (bitE T m k = true → ∀ i j, i < n → bitE (T.set m (T.getD m 0 ||| T.getD k 0)) i j = if i < m + 1 then Re.wars E (k + 1) i j else Re.wars E k i j) ∧
    (bitE T m k = false → ∀ i j, i < n → bitE T i j = if i < m + 1 then Re.wars E (k + 1) i j else Re.wars E k i j) := by
  have hmk := h m k hm
  rw [if_neg (Nat.lt_irrefl m)] at hmk
  have hkj : ∀ j, bitE T k j = Re.wars E k k j := by
    intro j
    rw [h k j hk]
    split
    · simp only [Re.wars]; cases Re.wars E k k j <;> simp
    · rfl
  constructor
  · intro hb i j hi
    unfold bitE
    rw [getD_set (by omega)]
    by_cases e : i = m
    · subst e
      rw [if_pos rfl, if_pos (by omega), Nat.testBit_or]
      have h1 := h i j hi
      rw [if_neg (Nat.lt_irrefl i)] at h1
      unfold bitE at h1 hkj hb hmk
      rw [h1, hkj]
      simp only [Re.wars]
      rw [← hmk, hb, Bool.true_and]
    · rw [if_neg e]
      have h1 := h i j hi
      unfold bitE at h1
      rw [h1]
      by_cases e2 : i < m
      · rw [if_pos e2, if_pos (by omega)]
      · rw [if_neg e2, if_neg (by omega)]
  · intro hb i j hi
    rw [h i j hi]
    by_cases e2 : i < m
    · rw [if_pos e2, if_pos (by omega)]
    · rw [if_neg e2]
      by_cases e : i = m
      · subst e
        rw [if_pos (by omega)]
        simp only [Re.wars]
        rw [← hmk, hb, Bool.false_and, Bool.or_false]
      · rw [if_neg (by omega)]

end Go.Proofs.YtiebknfmmanbiaaDoor
