/- Texts that lie in one file: what is plain, rows, boxes, squares, and what is known of a world. No condition. -/
import Derived.Test.YtaplaoelamnoiaaGreatDoorBg22
import Derived.Test.YtaplaoelamnoiaaGreatDoorBg00
import Derived.Deep.Strs
/- Opening an array of the language that comes in. -/
namespace Go.Proofs.YtaplaoelamnoiaaGreatDoor
open Go.ChangeShapes Go.WideShapes Go.ChangeAt Go.RowKit Go.Joins

set_option maxRecDepth 100000 in
theorem open_ints_cells {H : Type} {enc : TypeId × Value → H} {W : World} {base fuel : Nat} {held : Bool} {cs : List Value} {y : DataW H × List MemPlace}
    (hf : DataW.trod enc Tryz.prog W base (fun _ => true) held fuel 22 cs = some y) :
    ∃ (p : Option Addr) (x : List Int) (c : Nat), cs = [.slice p x.length c] ∧ Row W p x ∧ x.length ≤ maxLen ∧ All64 x := by
  rcases open_ints Tryz.underlying22 Tryz.underlying3 (by kernel_rfl) hf with ⟨hcs, _⟩ | ⟨x, l, c, zs, hcs, _, hl, hm, hz, _, hcell, hwz⟩
  · exact ⟨none, [], 0, hcs, Row.nil _ _, Nat.zero_le _, fun x hx => by simp at hx⟩
  · have hz' : zs.length = c := by simpa using hz
    have hlen : (zs.take l).length = l := by rw [List.length_take]; omega
    refine ⟨some x, zs.take l, c, by rw [hlen]; exact hcs, ?_, by omega, fun y hy => I64.of_wf (hwz y (List.mem_of_mem_take hy))⟩
    intro i hi
    rw [hlen] at hi
    obtain ⟨b, off, spot⟩ := x
    have hc0 := hcell 0 (by omega)
    have hspot : spot = none := by simpa [Addr.add] using World.cell?_spot hc0
    subst hspot
    have hc := hcell i (by omega)
    refine ⟨b, off, rfl, ?_⟩
    rw [Addr.add_lit] at hc
    rw [hc]
    simp [hi]

set_option maxRecDepth 100000 in
theorem open_bool_cells {H : Type} {enc : TypeId × Value → H} {W : World} {base fuel : Nat} {held : Bool} {cs : List Value} {y : DataW H × List MemPlace}
    (hf : DataW.trod enc Tryz.prog W base (fun _ => true) held fuel 4 cs = some y) : ∃ b, cs = [.bool b] := by
  cases fuel with
  | zero => simp [DataW.trod] at hf
  | succ n =>
    unfold DataW.trod at hf
    rw [Tryz.underlying4] at hf
    split at hf <;> simp_all

set_option maxRecDepth 100000 in
theorem open_array {H : Type} {enc : TypeId × Value → H} {W : World} {r : Reach} {base b0 : Nat} {held : Bool} {v : Value} {d : DataW H} {ps : List MemPlace}
    (hval : Value.okWide Tryz.prog W r b0 24 v) (hd : DataW.Trod enc Tryz.prog W base (fun _ => true) held 24 v d ps) :
    ∃ (ch : Bool) (p q : Option Addr) (x y : List Int) (c k : Nat), v = arrV ch p x.length c q y.length k ∧ Row W p x ∧ Row W q y ∧ x.length ≤ maxLen ∧ y.length ≤ maxLen ∧ All64 x ∧ All64 y := by
  obtain ⟨cs, rfl, hsz⟩ := okWide_struct Tryz.underlying24 hval
  obtain ⟨fuel, hf⟩ := hd
  obtain ⟨y0, y1, y2, n, _, hl, h0, h1, h2⟩ := Go.Deep.trod_struct3 Tryz.underlying24 hf
  have k1 : Tryz.prog.cellsOf 4 = 1 := by kernel_rfl
  have k2 : Tryz.prog.cellsOf 22 = 1 := by kernel_rfl
  have k3 : Tryz.prog.cellsOf 24 = 3 := by kernel_rfl
  rw [k3] at hl
  simp only [k1, k2] at h0 h1 h2
  obtain ⟨b, e0⟩ := open_bool_cells h0
  obtain ⟨p, x, c, e1, r1, l1, a1⟩ := open_ints_cells h1
  obtain ⟨q, y, k, e2, r2, l2, a2⟩ := open_ints_cells h2
  refine ⟨b, p, q, x, y, c, k, ?_, r1, r2, l1, l2, a1, a2⟩
  have hl' : cs.toList.length = 3 := by simpa [Value.cells] using hl
  have : cs.toList = [.bool b, .slice p x.length c, .slice q y.length k] := by
    simp only [Value.cells] at e0 e1 e2
    match hcs : cs.toList, hl' with
    | [u0, u1, u2], _ =>
      rw [hcs] at e0 e1 e2
      simp at e0 e1 e2
      rw [e0, e1, e2]
  show Value.agg cs = Value.agg _
  congr 1
  apply Array.toList_inj.1
  rw [this]

end Go.Proofs.YtaplaoelamnoiaaGreatDoor

/- Opening an array of the language that comes in, with word of the capacities. No condition. -/
namespace Go.Proofs.YtaplaoelamnoiaaGreatDoor
open Go.ChangeShapes Go.WideShapes Go.ChangeAt Go.RowKit Go.Joins

set_option maxRecDepth 100000 in
theorem open_ints_cap {H : Type} {enc : TypeId × Value → H} {W : World} {base fuel : Nat} {held : Bool} {cs : List Value} {y : DataW H × List MemPlace}
    (hf : DataW.trod enc Tryz.prog W base (fun _ => true) held fuel 22 cs = some y) :
    ∃ (p : Option Addr) (x : List Int) (c : Nat), cs = [.slice p x.length c] ∧ Row W p x ∧ x.length ≤ maxLen ∧ All64 x ∧ x.length ≤ c := by
  rcases open_ints Tryz.underlying22 Tryz.underlying3 (by kernel_rfl) hf with ⟨hcs, _⟩ | ⟨x, l, c, zs, hcs, _, hl, hm, hz, _, hcell, hwz⟩
  · exact ⟨none, [], 0, hcs, Row.nil _ _, Nat.zero_le _, fun x hx => by simp at hx, Nat.le_refl _⟩
  · have hz' : zs.length = c := by simpa using hz
    have hlen : (zs.take l).length = l := by rw [List.length_take]; omega
    refine ⟨some x, zs.take l, c, by rw [hlen]; exact hcs, ?_, by omega, fun y hy => I64.of_wf (hwz y (List.mem_of_mem_take hy)), by omega⟩
    intro i hi
    rw [hlen] at hi
    obtain ⟨b, off, spot⟩ := x
    have hc0 := hcell 0 (by omega)
    have hspot : spot = none := by simpa [Addr.add] using World.cell?_spot hc0
    subst hspot
    have hc := hcell i (by omega)
    refine ⟨b, off, rfl, ?_⟩
    rw [Addr.add_lit] at hc
    rw [hc]
    simp [hi]

set_option maxRecDepth 100000 in
theorem open_array_cap {H : Type} {enc : TypeId × Value → H} {W : World} {r : Reach} {base b0 : Nat} {held : Bool} {v : Value} {d : DataW H} {ps : List MemPlace}
    (hval : Value.okWide Tryz.prog W r b0 24 v) (hd : DataW.Trod enc Tryz.prog W base (fun _ => true) held 24 v d ps) :
    ∃ (ch : Bool) (p q : Option Addr) (x y : List Int) (c k : Nat), v = arrV ch p x.length c q y.length k ∧ Row W p x ∧ Row W q y ∧ x.length ≤ maxLen ∧ y.length ≤ maxLen ∧ All64 x ∧ All64 y ∧ x.length ≤ c ∧ y.length ≤ k := by
  obtain ⟨cs, rfl, hsz⟩ := okWide_struct Tryz.underlying24 hval
  obtain ⟨fuel, hf⟩ := hd
  obtain ⟨y0, y1, y2, n, _, hl, h0, h1, h2⟩ := Go.Deep.trod_struct3 Tryz.underlying24 hf
  have k1 : Tryz.prog.cellsOf 4 = 1 := by kernel_rfl
  have k2 : Tryz.prog.cellsOf 22 = 1 := by kernel_rfl
  have k3 : Tryz.prog.cellsOf 24 = 3 := by kernel_rfl
  rw [k3] at hl
  simp only [k1, k2] at h0 h1 h2
  obtain ⟨b, e0⟩ := open_bool_cells h0
  obtain ⟨p, x, c, e1, r1, l1, a1, z1⟩ := open_ints_cap h1
  obtain ⟨q, y, k, e2, r2, l2, a2, z2⟩ := open_ints_cap h2
  refine ⟨b, p, q, x, y, c, k, ?_, r1, r2, l1, l2, a1, a2, z1, z2⟩
  have hl' : cs.toList.length = 3 := by simpa [Value.cells] using hl
  have : cs.toList = [.bool b, .slice p x.length c, .slice q y.length k] := by
    simp only [Value.cells] at e0 e1 e2
    match hcs : cs.toList, hl' with
    | [u0, u1, u2], _ =>
      rw [hcs] at e0 e1 e2
      simp at e0 e1 e2
      rw [e0, e1, e2]
  show Value.agg cs = Value.agg _
  congr 1
  apply Array.toList_inj.1
  rw [this]

end Go.Proofs.YtaplaoelamnoiaaGreatDoor
