/- What functions of two numbers tell (M.two), as the program reckons it. No condition. -/
import Derived.Test.YtohnimfjekemjaaKit
namespace Go.Proofs.Ytohnimfjekemjaa
open Go.RowKit
namespace M

/-- The greatest whole number not above a / b (b not 0); it runs round at the least number by -1. -/
def floor (a b : Int) : Int :=
  if b = -1 then wrap64 (-a)
  else if a.tmod b ≠ 0 ∧ (decide (a.tmod b < 0) != decide (b < 0)) = true then a.tdiv b - 1 else a.tdiv b

def pow (a b : Int) : Int := wrap64 (a ^ b.toNat)

def bit (p : Bool) : Int := if p then 1 else 0

def two (f a b : Int) : Except Int Int :=
  if f = 1 then .ok (wrap64 (a + b))
  else if f = 2 then .ok (wrap64 (a - b))
  else if f = 3 then .ok (wrap64 (a * b))
  else if f = 4 then (if b = 0 then .error 6 else .ok (floor a b))
  else if f = 5 then (if a = 0 then .ok b else .ok (wrap64 (b - wrap64 (a * floor b a))))
  else if f = 6 then .ok (if a < b then b else a)
  else if f = 7 then .ok (if b < a then b else a)
  else if f = 8 then .ok (bit (a == b))
  else if f = 9 then .ok (bit (a != b))
  else if f = 10 then .ok (bit (decide (a < b)))
  else if f = 11 then .ok (bit (decide (a ≤ b)))
  else if f = 12 then .ok (bit (decide (b ≤ a)))
  else if f = 13 then .ok (bit (decide (b < a)))
  else if f = 14 then .ok (bits .and .i64 a b)
  else if f = 15 then .ok (bits .or .i64 a b)
  else if f = 16 then (if b < 0 then .error 6 else .ok (pow a b))
  else .error 1

end M
end Go.Proofs.Ytohnimfjekemjaa
