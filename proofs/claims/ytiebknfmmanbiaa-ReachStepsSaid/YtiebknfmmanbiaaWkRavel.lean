/- The call arr.Ravel. Condition: rows that lie as lists of ints. -/
import Derived.Test.YtiebknfmmanbiaaBdA
import Derived.Test.YtiebknfmmanbiaaWkArr
import Derived.Test.YtiebknfmmanbiaaWkClone
import Derived.Deep.RegionHeld3
import Derived.Test.YtiebknfmmanbiaaBdB
namespace Go.Proofs.Ytiebknfmmanbiaa
open Go.RowKit

namespace M
def ravel (x : Arr) : Except Int Arr := if flaw x.ch x.s x.d = 0 then .ok ⟨x.ch, [(x.d.length : Int)], x.d⟩ else .error (flaw x.ch x.s x.d)
end M

set_option maxHeartbeats 4000000 in
theorem ravel_any (ch : Bool) (a b : Option Addr) (s d : List Int) (m c n z : Nat) (w : World)
    (hs : Row w a s) (hd : Row w b d) (ls : s.length ≤ maxLen) (ld : d.length ≤ maxLen) (em : m = s.length) (en : n = d.length) :
    Calls Try.prog 18 #[arrV ch a m c b n z] w fun e w' => ArrPost (M.ravel ⟨ch, s, d⟩) w e w' := by
  subst em
  subst en
  have bel0 : Below w.heap.size w ((w.alloc (.cells #[.bool ch, .slice a s.length c, .slice b d.length z] 24)).alloc (.cells #[.bool false, .slice none 0 0, .slice none 0 0] 24)) := push (push (start w) _) _
  go_enter Try.func18, Try.ntmps18
  go_wp2_with fail
  refine (check_any ch a b s d _ c _ z _ (hs.below bel0) (hd.below bel0) ls ld rfl rfl).mono ?_
  rintro e w2 ⟨rfl, b02⟩
  have n0 : ((w.alloc (.cells #[.bool ch, .slice a s.length c, .slice b d.length z] 24)).alloc (.cells #[.bool false, .slice none 0 0, .slice none 0 0] 24)).heap.size = w.heap.size + 2 := by simp
  have c2 := held3 (N := w.heap.size) (x := .bool ch) (y := .slice a s.length c) (z := .slice b d.length z) b02 ⟨by simp, by simp, by simp⟩
  have z2 := held3 (N := w.heap.size + 1) (x := .bool false) (y := .slice none 0 0) (z := .slice none 0 0) b02 ⟨by simp, by simp, by simp⟩
  have f2 := frozen3 (N := w.heap.size + 1) b02 (by omega) ⟨by simp, by simp, by simp⟩
  have s2 : w.heap.size + 2 ≤ w2.heap.size := by have := b02.size; omega
  have b2 : Below w.heap.size w w2 := below_trans bel0 b02
  clear b02 bel0 n0
  by_cases hf : M.flaw ch s d = 0
  · have hr : M.ravel ⟨ch, s, d⟩ = .ok ⟨ch, [(d.length : Int)], d⟩ := if_pos hf
    have hlen := (flaw_len hf).1
    rw [hf, errV_zero]
    replace hr := Lib.hid hr
    replace hf := Lib.hid hf
    obtain ⟨c20, c21, c22⟩ := c2
    have rd' : Row w2 b d := hd.below b2
    have rd : Row w2.drew b d := rd'
    clear rd'
    have zA : w2.drew.cell? ⟨w.heap.size + 1, 0, none⟩ = some (.bool false) ∧ w2.drew.cell? ⟨w.heap.size + 1, 1, none⟩ = some (.slice none 0 0) ∧ w2.drew.cell? ⟨w.heap.size + 1, 2, none⟩ = some (.slice none 0 0) := z2
    have fA : w2.drew.frozen? ⟨w.heap.size + 1, 0, none⟩ = false ∧ w2.drew.frozen? ⟨w.heap.size + 1, 1, none⟩ = false ∧ w2.drew.frozen? ⟨w.heap.size + 1, 2, none⟩ = false := f2
    have sA : w.heap.size + 1 < w2.drew.heap.size := s2
    clear z2 f2
    have ld' : d.length < 17592186044416 := by omega
    go_wp2_with fail
    go_region_held3 (fun w' => w'.cell? ⟨w.heap.size, 0, none⟩ = some (.bool ch) ∧ w'.cell? ⟨w.heap.size, 1, none⟩ = some (.slice a s.length c) ∧ w'.cell? ⟨w.heap.size, 2, none⟩ = some (.slice b d.length z))
      (first | (exact held3 hb3 (by assumption)) | (exact alloc3 (by assumption) _) | go_keep)
      (first
        | (go_at_call 38; refine (clone_any b d _ z _ rd ld' rfl).mono ?_; rintro e w3 ⟨v3, rfl, o3, hb3⟩; obtain ⟨a3, k3, rfl, -, -, r3⟩ := o3.view; obtain ⟨z50, z51, z52⟩ := held3 hb3 zA; obtain ⟨f50, f51, f52⟩ := frozen3 (N := w.heap.size + 1) hb3 sA fA; obtain ⟨z60, z61, z62⟩ := alloc3 ⟨z50, z51, z52⟩ (.cells #[.int .i64 d.length] 3); obtain ⟨f60, f61, f62⟩ := falloc3 (Nat.lt_of_lt_of_le sA hb3.size) ⟨f50, f51, f52⟩ (.cells #[.int .i64 d.length] 3))
        | (go_at_call 38; refine (clone_any b d _ z _ (rd.alloc _) ld' rfl).mono ?_; rintro e w3 ⟨v3, rfl, o3, hb3⟩; obtain ⟨a3, k3, rfl, -, -, r3⟩ := o3.view; obtain ⟨z50, z51, z52⟩ := held3 hb3 (alloc3 zA _); obtain ⟨f50, f51, f52⟩ := frozen3 (N := w.heap.size + 1) hb3 (Nat.lt_of_lt_of_le sA (by simp)) (falloc3 sA fA _)))
    all_goals go_wp2
    · have rs : Row w3 (some ⟨w2.heap.size, 0, none⟩) [(d.length : Int)] := row_one ((hb3.cell (by simp)).trans (by simp [go_sem]))
      have hne : w.heap.size + 1 ≠ w2.heap.size := by omega
      have b3 : Below w.heap.size w w3 := below_trans (push (below_drewN b2 1) _) ⟨hb3.os, hb3.tape, hb3.output, hb3.size, hb3.block⟩
      have p3 : w.heap.size + 1 < (w2.drew.alloc (.cells #[.int .i64 d.length] 3)).heap.size := Nat.lt_of_lt_of_le sA (by simp)
      refine bodyPost_ret (v := .tuple #[arrV ch (some ⟨w2.heap.size, 0, none⟩) 1 1 a3 d.length k3, .nilIface]) (by simp [results, Try.results18, go_sem, cell?_set_same, z50, z51, z52]) rfl ?_
      exact .ok (x := ⟨ch, [(d.length : Int)], d⟩) hr.out rfl (((rs.setFar _ _ hne).setFar _ _ hne).setFar _ _ hne) (((o3.setCell _ _ p3).setCell _ _ p3).setCell _ _ p3).row (set3 b3 (by omega) _ _ _)
    · have hlt3 : w.heap.size + 1 < w3.heap.size := Nat.lt_of_lt_of_le sA hb3.size
      have rs : Row (w3.alloc (.cells #[.int .i64 d.length] 3)) (some ⟨w3.heap.size, 0, none⟩) [(d.length : Int)] := row_one (by simp [go_sem])
      have hne : w.heap.size + 1 ≠ w3.heap.size := Nat.ne_of_lt hlt3
      have b3 : Below w.heap.size w (w3.alloc (.cells #[.int .i64 d.length] 3)) := push (below_trans (below_drewN b2 1) ⟨hb3.os, hb3.tape, hb3.output, hb3.size, hb3.block⟩) _
      refine bodyPost_ret (v := .tuple #[arrV ch (some ⟨w3.heap.size, 0, none⟩) 1 1 a3 d.length k3, .nilIface]) (by simp [results, Try.results18, go_sem, cell?_set_same, z60, z61, z62]) rfl ?_
      exact .ok (x := ⟨ch, [(d.length : Int)], d⟩) hr.out rfl (((rs.setFar _ _ hne).setFar _ _ hne).setFar _ _ hne) ((((o3.below (push (start w3) _)).setCell _ _ sA).setCell _ _ sA).setCell _ _ sA).row (set3 b3 (by omega) _ _ _)
  · have hr : M.ravel ⟨ch, s, d⟩ = .error (M.flaw ch s d) := if_neg hf
    rw [errV_ne hf]
    replace hr := Lib.hid hr
    replace hf := Lib.hid hf
    obtain ⟨c20, c21, c22⟩ := c2
    obtain ⟨z20, z21, z22⟩ := z2
    obtain ⟨f20, f21, f22⟩ := f2
    go_wp2
    refine bodyPost_ret (v := .tuple #[arrV false none 0 0 none 0 0, .iface 62 (.int .i64 (M.flaw ch s d))]) (by simp [results, Try.results18, go_sem, cell?_set_same, z20, z21, z22]) rfl ?_
    exact .error hr.out rfl (((b2.setCell (by simp) _).setCell (by simp) _).setCell (by simp) _)

end Go.Proofs.Ytiebknfmmanbiaa
