/- The operations 'alloc' and 'build' with their cells named by the caller. No condition. -/
import Derived.Great.BuildSlice
import Derived.Great.Ranges
import Derived.Laws.Tables
namespace Go.Proofs.YtcenhemlgapkeaaDoor

theorem wpList_allocBy {P : Program} {ops : Array Oper} {rest : List Oper} {o : Oper} {a : Act} {w : World} {Q : Exit → Act → World → Prop} (hg : o.guard = none) (t : TypeId) (ho : o.op = .alloc t)
    (d : Option Tmp) (hd : o.dst = d) (N : Nat) (hN : w.heap.size = N) (cells : Array Value) (hz : (P.info? t).bind (·.zero) = some (.agg cells))
    (h : wpList P ops Q rest (a.put d (.pointer (some ⟨N, 0, none⟩))) (w.alloc (.cells cells t))) : wpList P ops Q (o :: rest) a w := by
  subst hd hN
  refine wpList_plain hg fun K hK => ?_
  unfold Oper.wp execOp
  cases hit : P.info? t with
  | none => rw [hit] at hz; simp at hz
  | some it =>
    rw [hit] at hz
    have hz' : it.zero = some (.agg cells) := by simpa using hz
    simp [ho, Instr.alloc, zeroValue, typeInfo, hit, hz', newVar, newRow]
    exact hK _ _ h

theorem wpList_buildBy {P : Program} {ops : Array Oper} {rest : List Oper} {o : Oper} {a : Act} {w : World} {Q : Exit → Act → World → Prop} (hg : o.guard = none) (t : TypeId) (parts : Array (Nat × Operand)) (ho : o.op = .build t parts)
    (d : Option Tmp) (hd : o.dst = d) (vs : List (Nat × Value)) (hv : (parts.map fun (i, x) => (i, a.eval x)).toList = vs) (cells : Array Value) (hf : P.built t vs = some cells)
    (h : wpList P ops Q rest (a.put d (.agg cells)) w) : wpList P ops Q (o :: rest) a w :=
  wpList_buildTo hg t parts ho d hd cells (by rw [hv]; exact hf) h

end Go.Proofs.YtcenhemlgapkeaaDoor
