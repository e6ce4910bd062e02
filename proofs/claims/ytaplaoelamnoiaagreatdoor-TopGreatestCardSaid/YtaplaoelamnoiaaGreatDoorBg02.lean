/- Texts that lie in one file: what is plain, rows, boxes, squares, and what is known of a world. No condition. -/
import Derived.Test.YtaplaoelamnoiaaGreatDoorBg00
import Derived.Deep.RegionHeld
/- Small words on arrays that lie in boxes, on short rows written out, and on worlds that only grow. -/
namespace Go.Proofs.YtaplaoelamnoiaaGreatDoor
open Go.RowKit

/-- Three cells of a box hold an array. -/
abbrev Box (w : World) (N : Nat) (ch : Bool) (a : Option Addr) (m c : Nat) (b : Option Addr) (n z : Nat) : Prop :=
  w.cell? ⟨N, 0, none⟩ = some (.bool ch) ∧ w.cell? ⟨N, 1, none⟩ = some (.slice a m c) ∧ w.cell? ⟨N, 2, none⟩ = some (.slice b n z)

theorem row_one {w : World} {n : Nat} {x : Int} (h : w.cell? ⟨n, 0, none⟩ = some (.int .i64 x)) : Row w (some ⟨n, 0, none⟩) [x] := by
  intro i hi
  obtain rfl : i = 0 := by simpa using hi
  exact ⟨_, _, rfl, h⟩

theorem row_two {w : World} {n : Nat} {x y : Int} (h : w.cell? ⟨n, 0, none⟩ = some (.int .i64 x)) (k : w.cell? ⟨n, 1, none⟩ = some (.int .i64 y)) : Row w (some ⟨n, 0, none⟩) [x, y] := by
  intro i hi
  have hi' : i < 2 := hi
  match i, hi' with
  | 0, _ => exact ⟨_, _, rfl, h⟩
  | 1, _ => exact ⟨_, _, rfl, k⟩

theorem row_three {w : World} {n : Nat} {x y z : Int} (h : w.cell? ⟨n, 0, none⟩ = some (.int .i64 x)) (k : w.cell? ⟨n, 1, none⟩ = some (.int .i64 y)) (l : w.cell? ⟨n, 2, none⟩ = some (.int .i64 z)) : Row w (some ⟨n, 0, none⟩) [x, y, z] := by
  intro i hi
  have hi' : i < 3 := hi
  match i, hi' with
  | 0, _ => exact ⟨_, _, rfl, h⟩
  | 1, _ => exact ⟨_, _, rfl, k⟩
  | 2, _ => exact ⟨_, _, rfl, l⟩

theorem push {w w' : World} (h : Below w.heap.size w w') (o : Obj) : Below w.heap.size w (w'.alloc o) := h.alloc h.size o
theorem start (w : World) : Below w.heap.size w w := Below.refl _ w

theorem alloc3 {w : World} {N : Nat} {x y z : Value} (h : w.cell? ⟨N, 0, none⟩ = some x ∧ w.cell? ⟨N, 1, none⟩ = some y ∧ w.cell? ⟨N, 2, none⟩ = some z) (o : Obj) :
    (w.alloc o).cell? ⟨N, 0, none⟩ = some x ∧ (w.alloc o).cell? ⟨N, 1, none⟩ = some y ∧ (w.alloc o).cell? ⟨N, 2, none⟩ = some z :=
  held3 (push (start w) o) h
theorem falloc3 {w : World} {N : Nat} (hN : N < w.heap.size) (h : w.frozen? ⟨N, 0, none⟩ = false ∧ w.frozen? ⟨N, 1, none⟩ = false ∧ w.frozen? ⟨N, 2, none⟩ = false) (o : Obj) :
    (w.alloc o).frozen? ⟨N, 0, none⟩ = false ∧ (w.alloc o).frozen? ⟨N, 1, none⟩ = false ∧ (w.alloc o).frozen? ⟨N, 2, none⟩ = false :=
  frozen3 (push (start w) o) hN h

theorem Row.setFar {w : World} {b o : Nat} {s : List Int} (h : Row w (some ⟨b, o, none⟩) s) (p : Addr) (v : Value) (hp : p.block ≠ b) : Row (w.setCell p v) (some ⟨b, o, none⟩) s := by
  intro i hi
  obtain ⟨b', o', e, hc⟩ := h i hi
  cases e
  exact ⟨_, _, rfl, (World.cell?_setCell_far _ _ _ _ hp).trans hc⟩

theorem set3 {w w' : World} (h : Below w.heap.size w w') {N : Nat} (hN : w.heap.size ≤ N) (x y z : Value) : Below w.heap.size w (((w'.setCell ⟨N, 0, none⟩ x).setCell ⟨N, 1, none⟩ y).setCell ⟨N, 2, none⟩ z) :=
  ((h.setCell hN _).setCell hN _).setCell hN _

end Go.Proofs.YtaplaoelamnoiaaGreatDoor

/- What is known of a world, in one list: rows of ints, arrays in boxes, cells; kept while only new memory is written. -/
namespace Go.Proofs.YtaplaoelamnoiaaGreatDoor
open Go.RowKit

/-- An array's three cells, none of them frozen. -/
def BoxF (w : World) (N : Nat) (ch : Bool) (a : Option Addr) (m c : Nat) (b : Option Addr) (n z : Nat) : Prop :=
  Box w N ch a m c b n z ∧ (w.frozen? ⟨N, 0, none⟩ = false ∧ w.frozen? ⟨N, 1, none⟩ = false ∧ w.frozen? ⟨N, 2, none⟩ = false)

theorem BoxF.lt {w : World} {N : Nat} {ch : Bool} {a : Option Addr} {m c : Nat} {b : Option Addr} {n z : Nat} (h : BoxF w N ch a m c b n z) : N < w.heap.size := World.block_lt_of_cell? w _ h.1.1

theorem BoxF.below {w w' : World} {N : Nat} {ch : Bool} {a : Option Addr} {m c : Nat} {b : Option Addr} {n z : Nat} (h : BoxF w N ch a m c b n z) (hb : Below w.heap.size w w') : BoxF w' N ch a m c b n z :=
  ⟨held3 hb h.1, frozen3 hb h.lt h.2⟩

theorem boxF_new (w : World) (ch : Bool) (a : Option Addr) (m c : Nat) (b : Option Addr) (n z : Nat) : BoxF (w.alloc (.cells #[.bool ch, .slice a m c, .slice b n z] 24)) w.heap.size ch a m c b n z :=
  ⟨⟨by simp, by simp, by simp⟩, by simp, by simp, by simp⟩

inductive Fact
  | row (a : Option Addr) (xs : List Int)
  | box (N : Nat) (ch : Bool) (a : Option Addr) (m c : Nat) (b : Option Addr) (n z : Nat)
  | word (a : Addr) (T : TypeId) (v : Value)

def Fact.holds (w : World) : Fact → Prop
  | .row a xs => Row w a xs
  | .box N ch a m c b n z => BoxF w N ch a m c b n z
  | .word a T v => w.cell? a = some (.iface T v)

theorem Fact.holds.below {w w' : World} {f : Fact} (h : f.holds w) (hb : Below w.heap.size w w') : f.holds w' := by
  cases f with
  | row a xs => exact Row.below h hb
  | box N ch a m c b n z => exact BoxF.below h hb
  | word a T v => exact (hb.cell (World.block_lt_of_cell? w _ h)).trans h

/-- All of a list holds, and nothing that was there at w0 has turned. -/
def Env (w0 w : World) (L : List Fact) : Prop := Below w0.heap.size w0 w ∧ ∀ (i : Nat) (f : Fact), L[i]? = some f → f.holds w

theorem Env.start (w : World) : Env w w [] := ⟨Below.refl _ _, fun i f h => by simp at h⟩
theorem Env.base {w0 w : World} (h : Below w0.heap.size w0 w) : Env w0 w [] := ⟨h, fun i f h => by simp at h⟩
theorem Env.bel {w0 w : World} {L : List Fact} (h : Env w0 w L) : Below w0.heap.size w0 w := h.1
theorem Env.step {w0 w w' : World} {L : List Fact} (h : Env w0 w L) (hb : Below w.heap.size w w') : Env w0 w' L :=
  ⟨below_trans h.1 hb, fun i f hf => (h.2 i f hf).below hb⟩
theorem Env.add {w0 w : World} {L : List Fact} (h : Env w0 w L) {f : Fact} (hf : f.holds w) : Env w0 w (f :: L) :=
  ⟨h.1, fun i g hg => by
    cases i with
    | zero => rw [List.getElem?_cons_zero] at hg; rw [← Option.some.inj hg]; exact hf
    | succ i => exact h.2 i g hg⟩
theorem Env.alloc {w0 w : World} {L : List Fact} (h : Env w0 w L) (o : Obj) : Env w0 (w.alloc o) L := h.step (push (Go.Proofs.YtaplaoelamnoiaaGreatDoor.start w) o)
theorem Env.drew {w0 w : World} {L : List Fact} (h : Env w0 w L) (n : Nat) : Env w0 (w.drewN n) L := h.step (below_drewN (Below.refl _ w) n)
theorem Env.box {w0 w : World} {L : List Fact} (h : Env w0 w L) (ch : Bool) (a : Option Addr) (m c : Nat) (b : Option Addr) (n z : Nat) :
    Env w0 (w.alloc (.cells #[.bool ch, .slice a m c, .slice b n z] 24)) (.box w.heap.size ch a m c b n z :: L) :=
  (h.alloc _).add (f := .box w.heap.size ch a m c b n z) (boxF_new w ch a m c b n z)
theorem Env.addRow {w0 w : World} {L : List Fact} (h : Env w0 w L) {a : Option Addr} {xs : List Int} (hr : Row w a xs) : Env w0 w (.row a xs :: L) := h.add (f := .row a xs) hr

theorem Env.drop1 {w0 w : World} {L : List Fact} {f : Fact} (h : Env w0 w (f :: L)) : Env w0 w L := ⟨h.1, fun i g hg => h.2 (i + 1) g hg⟩

theorem Env.getRow {w0 w : World} {L : List Fact} (h : Env w0 w L) (i : Nat) {a : Option Addr} {xs : List Int} (hi : L[i]? = some (.row a xs)) : Row w a xs := h.2 i _ hi
theorem Env.getBox {w0 w : World} {L : List Fact} (h : Env w0 w L) (i : Nat) {N : Nat} {ch : Bool} {a : Option Addr} {m c : Nat} {b : Option Addr} {n z : Nat} (hi : L[i]? = some (.box N ch a m c b n z)) : BoxF w N ch a m c b n z := h.2 i _ hi
theorem Env.getWord {w0 w : World} {L : List Fact} (h : Env w0 w L) (i : Nat) {a : Addr} {T : TypeId} {v : Value} (hi : L[i]? = some (.word a T v)) : w.cell? a = some (.iface T v) := h.2 i _ hi

/-- A store where something else than what is read lies. -/
theorem cell_set_ne {w : World} {p q : Addr} {u v x : Value} (hq : w.cell? q = some v) (hp : w.cell? p = some u) (hne : u ≠ v) : (w.setCell p x).cell? q = some v := by
  rw [World.cell?_setCell_other _ _ _ _ (fun e => hne (by rw [e, hq] at hp; exact (Option.some.inj hp).symm))]
  exact hq

theorem Row.set_ne {w : World} {a : Option Addr} {xs : List Int} (h : Row w a xs) {p : Addr} {u x : Value} (hp : w.cell? p = some u) (hu : ∀ n, u ≠ .int .i64 n) : Row (w.setCell p x) a xs := by
  intro i hi
  obtain ⟨b, o, rfl, hc⟩ := h i hi
  exact ⟨b, o, rfl, cell_set_ne hc hp (hu _)⟩

theorem cell_set_same {w : World} {p : Addr} {u x : Value} (hp : w.cell? p = some u) : (w.setCell p x).cell? p = some x := cell?_set_same _ _ _ (by rw [hp]; rfl)

/-- A box written anew: the other facts stay. -/
theorem Env.store {w0 w : World} {L : List Fact} {N : Nat} {ch : Bool} {a : Option Addr} {m c : Nat} {b : Option Addr} {n z : Nat} (h : Env w0 w (Fact.box N ch a m c b n z :: L)) (hN : w0.heap.size ≤ N)
    (hd : ∀ (i : Nat) N' ch' a' m' c' b' n' z', L[i]? = some (Fact.box N' ch' a' m' c' b' n' z') → N' ≠ N) (ch2 : Bool) (a2 : Option Addr) (m2 c2 : Nat) (b2 : Option Addr) (n2 z2 : Nat) :
    Env w0 (((w.setCell ⟨N, 0, none⟩ (.bool ch2)).setCell ⟨N, 1, none⟩ (.slice a2 m2 c2)).setCell ⟨N, 2, none⟩ (.slice b2 n2 z2)) (Fact.box N ch2 a2 m2 c2 b2 n2 z2 :: L) := by
  have hB := h.getBox 0 rfl
  obtain ⟨⟨x0, x1, x2⟩, f0, f1, f2⟩ := hB
  have y1 : (w.setCell ⟨N, 0, none⟩ (.bool ch2)).cell? ⟨N, 1, none⟩ = some (.slice a m c) := cell_set_ne x1 x0 (by simp)
  have y2 : (w.setCell ⟨N, 0, none⟩ (.bool ch2)).cell? ⟨N, 2, none⟩ = some (.slice b n z) := cell_set_ne x2 x0 (by simp)
  have z2' : ((w.setCell ⟨N, 0, none⟩ (.bool ch2)).setCell ⟨N, 1, none⟩ (.slice a2 m2 c2)).cell? ⟨N, 2, none⟩ = some (.slice b n z) := (World.cell?_setCell_other _ _ _ _ (by simp)).trans y2
  refine ⟨set3 h.1 hN _ _ _, fun i f hf => ?_⟩
  cases i with
  | zero =>
    rw [List.getElem?_cons_zero] at hf
    rw [← Option.some.inj hf]
    show BoxF _ N ch2 a2 m2 c2 b2 n2 z2
    refine ⟨⟨?_, ?_, cell_set_same z2'⟩, by simp only [World.frozen?_setCell]; exact f0, by simp only [World.frozen?_setCell]; exact f1, by simp only [World.frozen?_setCell]; exact f2⟩
    · rw [World.cell?_setCell_other _ _ _ _ (by simp), World.cell?_setCell_other _ _ _ _ (by simp)]; exact cell_set_same x0
    · rw [World.cell?_setCell_other _ _ _ _ (by simp)]; exact cell_set_same y1
  | succ i =>
    have hh := h.2 (i + 1) f hf
    cases f with
    | row a' xs => exact ((Row.set_ne hh x0 (by simp)).set_ne y1 (by simp)).set_ne z2' (by simp)
    | box N' ch' a' m' c' b' n' z' =>
      have hne := hd i N' ch' a' m' c' b' n' z' hf
      obtain ⟨⟨g0, g1, g2⟩, k0, k1, k2⟩ : BoxF w N' ch' a' m' c' b' n' z' := hh
      refine ⟨⟨?_, ?_, ?_⟩, by simp only [World.frozen?_setCell]; exact k0, by simp only [World.frozen?_setCell]; exact k1, by simp only [World.frozen?_setCell]; exact k2⟩
      · rw [World.cell?_setCell_far _ _ _ _ (by simpa using Ne.symm hne), World.cell?_setCell_far _ _ _ _ (by simpa using Ne.symm hne), World.cell?_setCell_far _ _ _ _ (by simpa using Ne.symm hne)]; exact g0
      · rw [World.cell?_setCell_far _ _ _ _ (by simpa using Ne.symm hne), World.cell?_setCell_far _ _ _ _ (by simpa using Ne.symm hne), World.cell?_setCell_far _ _ _ _ (by simpa using Ne.symm hne)]; exact g1
      · rw [World.cell?_setCell_far _ _ _ _ (by simpa using Ne.symm hne), World.cell?_setCell_far _ _ _ _ (by simpa using Ne.symm hne), World.cell?_setCell_far _ _ _ _ (by simpa using Ne.symm hne)]; exact g2
    | word p T v =>
      have hw : w.cell? p = some (.iface T v) := hh
      have h1 := cell_set_ne (x := .bool ch2) hw x0 (by simp)
      have h2 := cell_set_ne (x := .slice a2 m2 c2) h1 y1 (by simp)
      exact cell_set_ne h2 z2' (by simp)

end Go.Proofs.YtaplaoelamnoiaaGreatDoor
