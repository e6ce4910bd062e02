/- The document's axes, as plain lists: whether a list is the numbers from 0 on, each once; the lengths gathered axis by axis. No condition. -/
import Derived.Test.YtldhklbpmfckcaaDoorPlainShape
namespace Go.Proofs.YtldhklbpmfckcaaDoor
open Go.RowKit
namespace M
def once (p : List Int) : Bool := decide (∀ want, want < p.length → p.count (want : Int) = 1)

/-- The lengths whose axis goes to the place to. -/
def pick : List Int → List Int → Int → List Int
  | x :: p, y :: s, to => if x = to then y :: pick p s to else pick p s to
  | _, _, _ => []

def gather (s p : List Int) (n : Nat) : List Int := (List.range n).flatMap (fun (i : Nat) => pick p s (i : Int))
end M

theorem gather_succ (s p : List Int) (n : Nat) : M.gather s p (n + 1) = M.gather s p n ++ M.pick p s (n : Int) := by
  simp [M.gather, List.range_succ, List.flatMap_append]

namespace M
/-- The document's answer: the shape, or an error. -/
def axed (s p : List Int) : Except Int (List Int) :=
  match count s with
  | .error e => .error e
  | .ok _ => if p.length ≠ s.length then .error 4 else if once p = true then .ok (gather s p s.length) else .error 5
end M

end Go.Proofs.YtldhklbpmfckcaaDoor
