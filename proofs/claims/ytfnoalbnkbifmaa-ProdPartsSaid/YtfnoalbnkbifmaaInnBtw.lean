/- The closures of prod.between, for numbers and characters. Condition: rows that lie as lists of ints of 64 bits, within their capacities. -/
import Derived.Test.YtfnoalbnkbifmaaInnKit
namespace Go.Proofs.Ytfnoalbnkbifmaa
open Go.RowKit

set_option maxHeartbeats 1000000 in
theorem between_smf (g : Int) (a b a' b' : Option Addr) (m c n z m' c' n' z' : Nat) (w : World) :
    Calls Try.prog 21 #[.int .i64 g, arrV false a m c b n z, arrV false a' m' c' b' n' z'] w fun e w' =>
      e = .returned (.func (.func 35) #[] #[.pointer (some ⟨w.heap.size, 0, none⟩)]) ∧ w'.cell? ⟨w.heap.size, 0, none⟩ = some (.int .i64 g) ∧ Below w.heap.size w w' := by
  go_enter Try.func21, Try.ntmps21
  go_wp2
  go_ret
  exact ⟨rfl, by simp [go_sem], push (push (push (start w) _) _) _⟩

set_option maxHeartbeats 1000000 in
theorem between_smt (g : Int) (a b a' b' : Option Addr) (m c n z m' c' n' z' : Nat) (w : World) :
    Calls Try.prog 21 #[.int .i64 g, arrV true a m c b n z, arrV true a' m' c' b' n' z'] w fun e w' =>
      e = .returned (.func (.func 35) #[] #[.pointer (some ⟨w.heap.size, 0, none⟩)]) ∧ w'.cell? ⟨w.heap.size, 0, none⟩ = some (.int .i64 g) ∧ Below w.heap.size w w' := by
  go_enter Try.func21, Try.ntmps21
  go_wp2
  go_ret
  exact ⟨rfl, by simp [go_sem], push (push (push (start w) _) _) _⟩

set_option maxHeartbeats 1000000 in
theorem between_ft (g : Int) (a b a' b' : Option Addr) (m c n z m' c' n' z' : Nat) (w : World) :
    Calls Try.prog 21 #[.int .i64 g, arrV false a m c b n z, arrV true a' m' c' b' n' z'] w fun e w' =>
      e = .returned (.func (.func 36) #[] #[.pointer (some ⟨w.heap.size + 1 + 1 + 1, 0, none⟩)]) ∧ w'.cell? ⟨w.heap.size + 1 + 1 + 1, 0, none⟩ = some (.int .i64 (if g = 9 then 1 else 0)) ∧ Below w.heap.size w w' := by
  by_cases e : g = 9
  · have e1 : (g == 9) = true := by rw [beq_iff_eq]; exact e
    rw [if_pos e]
    replace e := Lib.hid e
    go_enter Try.func21, Try.ntmps21
    go_wp2
    go_ret
    exact ⟨rfl, by simp [go_sem], push (push (push (push (start w) _) _) _) _⟩
  · have e1 : (g == 9) = false := by rw [beq_eq_false_iff_ne]; exact e
    rw [if_neg e]
    replace e := Lib.hid e
    go_enter Try.func21, Try.ntmps21
    go_wp2
    go_ret
    exact ⟨rfl, by simp [go_sem, cell?_set_same], push (push (push (push (start w) _) _) _) _⟩

set_option maxHeartbeats 1000000 in
theorem between_tf (g : Int) (a b a' b' : Option Addr) (m c n z m' c' n' z' : Nat) (w : World) :
    Calls Try.prog 21 #[.int .i64 g, arrV true a m c b n z, arrV false a' m' c' b' n' z'] w fun e w' =>
      e = .returned (.func (.func 36) #[] #[.pointer (some ⟨w.heap.size + 1 + 1 + 1, 0, none⟩)]) ∧ w'.cell? ⟨w.heap.size + 1 + 1 + 1, 0, none⟩ = some (.int .i64 (if g = 9 then 1 else 0)) ∧ Below w.heap.size w w' := by
  by_cases e : g = 9
  · have e1 : (g == 9) = true := by rw [beq_iff_eq]; exact e
    rw [if_pos e]
    replace e := Lib.hid e
    go_enter Try.func21, Try.ntmps21
    go_wp2
    go_ret
    exact ⟨rfl, by simp [go_sem], push (push (push (push (start w) _) _) _) _⟩
  · have e1 : (g == 9) = false := by rw [beq_eq_false_iff_ne]; exact e
    rw [if_neg e]
    replace e := Lib.hid e
    go_enter Try.func21, Try.ntmps21
    go_wp2
    go_ret
    exact ⟨rfl, by simp [go_sem, cell?_set_same], push (push (push (push (start w) _) _) _) _⟩

theorem between_same (g : Int) (ch : Bool) (a b a' b' : Option Addr) (m c n z m' c' n' z' : Nat) (w : World) :
    Calls Try.prog 21 #[.int .i64 g, arrV ch a m c b n z, arrV ch a' m' c' b' n' z'] w fun e w' =>
      e = .returned (.func (.func 35) #[] #[.pointer (some ⟨w.heap.size, 0, none⟩)]) ∧ w'.cell? ⟨w.heap.size, 0, none⟩ = some (.int .i64 g) ∧ Below w.heap.size w w' := by
  cases ch
  · exact between_smf g a b a' b' m c n z m' c' n' z' w
  · exact between_smt g a b a' b' m c n z m' c' n' z' w

theorem betwT_ff (g a b : Int) (B : Nat) (w : World) (hc : w.cell? ⟨B, 0, none⟩ = some (.int .i64 g)) (ha : I64 a) (hb : I64 b) :
    Calls Try.prog 35 #[.int .i64 a, .int .i64 b, .pointer (some ⟨B, 0, none⟩)] w fun e w' => e = .returned (resI (M.tw g false false a b)) ∧ ∃ n, w' = w.drewN n := betw1_any g a b B w hc ha hb

theorem betwT_ft (g a b : Int) (B : Nat) (w : World) (hc : w.cell? ⟨B, 0, none⟩ = some (.int .i64 (if g = 9 then 1 else 0))) (ha : I64 a) (hb : I64 b) :
    Calls Try.prog 36 #[.int .i64 a, .int .i64 b, .pointer (some ⟨B, 0, none⟩)] w fun e w' => e = .returned (resI (M.tw g false true a b)) ∧ ∃ n, w' = w.drewN n := (betw2_any _ a b B w hc).mono fun e w' h => ⟨h.1, 0, h.2.symm⟩

theorem betwT_tf (g a b : Int) (B : Nat) (w : World) (hc : w.cell? ⟨B, 0, none⟩ = some (.int .i64 (if g = 9 then 1 else 0))) (ha : I64 a) (hb : I64 b) :
    Calls Try.prog 36 #[.int .i64 a, .int .i64 b, .pointer (some ⟨B, 0, none⟩)] w fun e w' => e = .returned (resI (M.tw g true false a b)) ∧ ∃ n, w' = w.drewN n := (betw2_any _ a b B w hc).mono fun e w' h => ⟨h.1, 0, h.2.symm⟩

theorem betwT_tt (g a b : Int) (B : Nat) (w : World) (hc : w.cell? ⟨B, 0, none⟩ = some (.int .i64 g)) (ha : I64 a) (hb : I64 b) :
    Calls Try.prog 35 #[.int .i64 a, .int .i64 b, .pointer (some ⟨B, 0, none⟩)] w fun e w' => e = .returned (resI (M.tw g true true a b)) ∧ ∃ n, w' = w.drewN n := betw1_any g a b B w hc ha hb

end Go.Proofs.Ytfnoalbnkbifmaa
