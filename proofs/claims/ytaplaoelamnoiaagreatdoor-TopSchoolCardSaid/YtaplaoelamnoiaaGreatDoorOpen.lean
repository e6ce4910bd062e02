/- Opening what comes in: a slice of ints, and (where the program has the type) an array of the language. -/
import Derived.Test.YtaplaoelamnoiaaGreatDoorBd00
import Derived.ProofKit
import Derived.OpenShut
import Derived.ChangeOld
import Derived.Lib.SmallJoins
namespace Go.Proofs.YtaplaoelamnoiaaGreatDoor
open Go.ChangeShapes Go.WideShapes Go.ChangeAt Go.RowKit Go.Joins

theorem own : ownKnob Tryz.prog.godebug = none := by kernel_rfl
theorem laidOut : laidOutB Tryz.prog = true := by kernel_rfl

theorem I64.of_wf {n : Int} (h : (Lit.int .i64 n).wf = true) : I64 n := by
  simp [Lit.wf, IntKind.min, IntKind.max, IntKind.signed, IntKind.bits] at h
  exact h

theorem trod_ints {H : Type} {enc : TypeId × Value → H} {W : World} {base : Nat} {held : Bool} {a : Option Addr} {len cap : Nat} {d : DataW H} {ps : List MemPlace}
    (hd : DataW.Trod enc Tryz.prog W base (fun _ => true) held 22 (.slice a len cap) d ps) :
    ∃ x, len = x.length ∧ Row W a x ∧ x.length ≤ maxLen ∧ All64 x := by
  obtain ⟨fuel, hf⟩ := hd
  rcases open_ints Tryz.underlying22 Tryz.underlying3 (by kernel_rfl) hf with ⟨hcs, _⟩ | ⟨x, l, c, zs, hcs, _, hl, hm, hz, _, hcell, hwz⟩
  · simp [Value.cells] at hcs
    obtain ⟨rfl, rfl, rfl⟩ := hcs
    exact ⟨[], rfl, Row.nil _ _, Nat.zero_le _, fun x hx => by simp at hx⟩
  · simp [Value.cells] at hcs
    obtain ⟨rfl, rfl, rfl⟩ := hcs
    have hz' : zs.length = cap := by simpa using hz
    have hlen : (zs.take len).length = len := by rw [List.length_take]; omega
    refine ⟨zs.take len, hlen.symm, ?_, by omega, fun y hy => I64.of_wf (hwz y (List.mem_of_mem_take hy))⟩
    intro i hi
    rw [hlen] at hi
    obtain ⟨b, off, spot⟩ := x
    have hc0 := hcell 0 (by omega)
    have hspot : spot = none := by simpa [Addr.add] using World.cell?_spot hc0
    subst hspot
    have hc := hcell i (by omega)
    refine ⟨b, off, rfl, ?_⟩
    rw [Addr.add_lit] at hc
    rw [hc]
    simp [hi]

set_option maxRecDepth 100000 in
theorem open_slice_ints {H : Type} {enc : TypeId × Value → H} {W : World} {r : Reach} {base b0 : Nat} {held : Bool} {v : Value} {d : DataW H} {ps : List MemPlace}
    (hval : Value.okWide Tryz.prog W r b0 22 v) (hd : DataW.Trod enc Tryz.prog W base (fun _ => true) held 22 v d ps) :
    ∃ p x c, v = .slice p (List.length x) c ∧ Row W p x ∧ x.length ≤ maxLen ∧ All64 x := by
  obtain ⟨a, len, cap, rfl⟩ := okWide_slice Tryz.underlying22 hval
  obtain ⟨x, rfl, h1, h2, h3⟩ := trod_ints hd
  exact ⟨a, x, cap, rfl, h1, h2, h3⟩

end Go.Proofs.YtaplaoelamnoiaaGreatDoor
