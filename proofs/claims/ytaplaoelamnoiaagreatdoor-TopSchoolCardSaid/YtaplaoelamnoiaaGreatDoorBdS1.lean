/- Texts that lie in one file: what is plain, rows, boxes, squares, and what is known of a world. No condition. -/
import Derived.Test.YtaplaoelamnoiaaGreatDoorBd04
import Derived.Test.YtaplaoelamnoiaaGreatDoorBd00
import Derived.Test.YtaplaoelamnoiaaGreatDoorBd01
import Derived.Test.YtaplaoelamnoiaaGreatDoorWkClone
import Derived.Deep.RegionHeld3
/- The call arr.cycled. Condition: rows shorter than 2^44. -/
namespace Go.Proofs.YtaplaoelamnoiaaGreatDoor
open Go.RowKit

set_option maxHeartbeats 400000 in
theorem cycled_any (a : Option Addr) (d : List Int) (m c n : Nat) (z : Int) (w : World) (hd : Row w a d) (hm : d.length ≤ maxLen) (hn : n < 17592186044416) (em : m = d.length) :
    Calls Tryz.prog 196 #[.slice a m c, .int .i64 n, .int .i64 z] w fun e w' => ∃ v, e = .returned v ∧ Own w' w.heap.size v (M.cycle d n z) ∧ Below w.heap.size w w' := by
  subst em
  unfold maxLen at hm
  have hmk := run_make_room0 n hn
  go_enter Tryz.func196, Tryz.ntmps196
  go_wp2
  go_loopw [7, 12] (fun v i wr => ∃ k : Nat, k ≤ n ∧ i = .int .i64 k ∧ Own wr w.heap.size v (M.cycle d k z) ∧ Below w.heap.size w wr) (fun _ i _ => n - (intOf i).toNat)
  case atStart => exact ⟨0, Nat.zero_le _, rfl, own_room w n _ (Nat.le_refl _) (by unfold maxLen; omega), (Below.refl _ w).alloc (Nat.le_refl _) _⟩
  case round =>
    obtain ⟨k, hk, rfl, hown, hbel⟩ := hrel
    have hB := hbel.size
    have hlen : (M.cycle d k z).length < 17592186044416 := by rw [cycle_length]; omega
    by_cases hlt : k < n
    · have hcs := cycle_succ d k z
      by_cases h0 : d.length = 0
      · rw [if_pos h0] at hcs
        replace hcs := Lib.hid hcs
        have h0' : (((d.length : Nat) : Int) == 0) = true := by rw [beq_iff_eq]; omega
        replace h0 := Lib.hid h0
        go_wp2_with (at_builtin; refine app_int rfl (.tmp 18) (.tmp 20) rfl w.heap.size _ (M.cycle d k z) z rfl hown rfl hlen hB ?_; intro v' w' ho' hb' hl')
        go_roundw
        case rel => exact ⟨k + 1, by omega, by go_num, by rw [hcs.out]; exact ho', hbel.trans hb'⟩
        case measure => simp [intOf]; omega
      · rw [if_neg h0] at hcs
        have h0' : (((d.length : Nat) : Int) == 0) = false := by rw [beq_eq_false_iff_ne]; omega
        have hmod : k % d.length < d.length := Nat.mod_lt _ (by omega)
        obtain ⟨b1, o1, rfl, hc⟩ := hd.below hbel (k % d.length) hmod
        have hrem : ((k : Int).tmod ((d.length : Nat) : Int)) = ((k % d.length : Nat) : Int) := by
          rw [Int.tmod_eq_emod_of_nonneg (by omega)]; rfl
        replace hcs := Lib.hid hcs
        replace h0 := Lib.hid h0
        generalize k % d.length = j at *
        have hcs' : M.cycle d (k + 1) z = M.cycle d k z ++ [d[j]] := by rw [hcs.out]; simp [hmod]
        clear hcs
        replace hcs := Lib.hid hcs'
        clear hcs'
        go_wp2_with (at_builtin; refine app_int rfl (.tmp 22) (.tmp 30) rfl w.heap.size _ (M.cycle d k z) d[j] rfl hown rfl hlen hB ?_; intro v' w' ho' hb' hl')
        go_roundw
        case rel => exact ⟨k + 1, by omega, by go_num, by rw [hcs.out]; exact ho', hbel.trans hb'⟩
        case measure => simp [intOf]; omega
    · obtain rfl : k = n := by omega
      go_wp2
      go_ret
      exact ⟨_, rfl, hown, hbel⟩

end Go.Proofs.YtaplaoelamnoiaaGreatDoor

/- The library's slices.Equal and slices.Clone on ints, and arr's cycled. -/
namespace Go.Proofs.YtaplaoelamnoiaaGreatDoor
open Go.RowKit

theorem wkList_here : True := trivial

end Go.Proofs.YtaplaoelamnoiaaGreatDoor

/- The calls arr.fill and arr.Reshape. Condition: rows that lie as lists of ints. -/
namespace Go.Proofs.YtaplaoelamnoiaaGreatDoor
open Go.RowKit

set_option maxHeartbeats 400000 in
theorem fill_any (ch : Bool) (a b : Option Addr) (m c n z : Nat) (w : World) :
    Calls Tryz.prog 197 #[arrV ch a m c b n z] w fun e w' => e = .returned (.int .i64 (M.fill ch)) ∧ Below w.heap.size w w' := by
  cases ch
  · go_enter Tryz.func197, Tryz.ntmps197
    go_wp2
    go_ret
    exact ⟨rfl, (Below.refl _ w).alloc (Nat.le_refl _) _⟩
  · go_enter Tryz.func197, Tryz.ntmps197
    go_wp2
    go_ret
    exact ⟨rfl, (Below.refl _ w).alloc (Nat.le_refl _) _⟩

set_option maxHeartbeats 1000000 in
theorem reshape_any (a0 : Option Addr) (s0 : List Int) (m0 c0 : Nat) (ch : Bool) (a b : Option Addr) (s d : List Int) (m c n z : Nat) (w : World) (h0 : Row w a0 s0) (l0 : s0.length ≤ maxLen) (e0 : m0 = s0.length)
    (hs : Row w a s) (hd : Row w b d) (ls : s.length ≤ maxLen) (ld : d.length ≤ maxLen) (em : m = s.length) (en : n = d.length) :
    Calls Tryz.prog 147 #[.slice a0 m0 c0, arrV ch a m c b n z] w fun e w' => ArrPost (M.reshape s0 ⟨ch, s, d⟩) w e w' := by
  subst em
  subst en
  subst e0
  have bel0 : Below w.heap.size w ((w.alloc (.cells #[.bool ch, .slice a s.length c, .slice b d.length z] 24)).alloc (.cells #[.bool false, .slice none 0 0, .slice none 0 0] 24)) := ((Below.refl _ w).alloc (Nat.le_refl _) _).alloc (by simp) _
  go_enter Tryz.func147, Tryz.ntmps147
  go_wp2_with fail
  refine (count_any a0 s0 _ c0 _ (h0.below bel0) l0 rfl).mono ?_
  rintro e w' ⟨rfl, rfl⟩
  cases hc : M.count s0 with
  | error e =>
    have hr : M.reshape s0 ⟨ch, s, d⟩ = .error e := by unfold M.reshape; rw [hc]
    replace hr := Lib.hid hr
    replace hc := Lib.hid hc
    dsimp only [resI]
    go_wp2
    refine bodyPost_ret (v := .tuple #[arrV false none 0 0 none 0 0, .iface 46 (.int .i64 e)]) (by simp [results, Tryz.results147, go_sem]) rfl ?_
    exact .error hr.out rfl bel0
  | ok q =>
    have q0 := (M.count_ok hc).2.2.2.1
    have q1 := (M.count_ok hc).2.2.2.2
    have q6 := (M.count_ok hc).1
    dsimp only [resI]
    go_wp2_with fail
    refine (check_any ch a b s d _ c _ z _ (hs.below bel0) (hd.below bel0) ls ld rfl rfl).mono ?_
    rintro e w2 ⟨rfl, b02⟩
    have n0 : ((w.alloc (.cells #[.bool ch, .slice a s.length c, .slice b d.length z] 24)).alloc (.cells #[.bool false, .slice none 0 0, .slice none 0 0] 24)).heap.size = w.heap.size + 2 := by simp
    have c2 := held3 (N := w.heap.size) (x := .bool ch) (y := .slice a s.length c) (z := .slice b d.length z) b02 ⟨by simp, by simp, by simp⟩
    have z2 := held3 (N := w.heap.size + 1) (x := .bool false) (y := .slice none 0 0) (z := .slice none 0 0) b02 ⟨by simp, by simp, by simp⟩
    have f2 := frozen3 (N := w.heap.size + 1) b02 (by omega) ⟨by simp, by simp, by simp⟩
    have s2 : w.heap.size + 2 ≤ w2.heap.size := by have := b02.size; omega
    have b2 : Below w.heap.size w w2 := below_trans bel0 b02
    clear b02 bel0 n0
    by_cases hf : M.flaw ch s d = 0
    · have hr : M.reshape s0 ⟨ch, s, d⟩ = .ok ⟨ch, s0, M.cycle d q.toNat (M.fill ch)⟩ := by unfold M.reshape; rw [hc]; exact if_pos hf
      obtain ⟨n, rfl⟩ : ∃ n : Nat, q = n := ⟨q.toNat, by omega⟩
      rw [hf, errV_zero]
      rw [Int.toNat_natCast] at hr
      replace hr := Lib.hid hr
      replace hc := Lib.hid hc
      replace hf := Lib.hid hf
      obtain ⟨c20, c21, c22⟩ := c2
      have r0' : Row w2 a0 s0 := h0.below b2
      have rd' : Row w2 b d := hd.below b2
      have r0 : Row w2.drew a0 s0 := r0'
      have rd : Row w2.drew b d := rd'
      clear r0' rd'
      have ln : n < 17592186044416 := by omega
      have l0' : s0.length < 17592186044416 := by omega
      go_wp2_with fail
      go_region_held3 (fun w' => w'.cell? ⟨w.heap.size, 0, none⟩ = some (.bool ch) ∧ w'.cell? ⟨w.heap.size, 1, none⟩ = some (.slice a s.length c) ∧ w'.cell? ⟨w.heap.size, 2, none⟩ = some (.slice b d.length z))
        (first | go_keep | (exact held3 hb3 (by assumption)) | (exact held3 hb4 (by assumption)) | (exact held3 hb5 (by assumption)))
        (first
          | (go_at_call 72; refine (clone_any a0 s0 _ c0 _ r0 l0' rfl).mono ?_; rintro e w3 ⟨v3, rfl, o3, hb3⟩; obtain ⟨a3, k3, rfl, -, -, r3⟩ := o3.view)
          | (go_at_call 197; refine (fill_any _ _ _ _ _ _ _ _).mono ?_; rintro e w4 ⟨rfl, hb4⟩)
          | (go_at_call 196; refine (cycled_any b d _ z n (M.fill ch) _ ((rd.below hb3).below hb4) ld ln rfl).mono ?_; rintro e w5 ⟨v5, rfl, o5, hb5⟩; obtain ⟨a5, k5, rfl, -, -, r5⟩ := o5.view; obtain ⟨z50, z51, z52⟩ := held3 hb5 (held3 hb4 (held3 hb3 z2)); obtain ⟨f50, f51, f52⟩ := frozen3 (N := w.heap.size + 1) hb5 (by have h1 := hb3.size; have h2 := hb4.size; exact Nat.lt_of_lt_of_le s2 (Nat.le_trans h1 h2)) (frozen3 hb4 (by have h1 := hb3.size; exact Nat.lt_of_lt_of_le s2 h1) (frozen3 hb3 s2 f2))))
      go_wp2
      refine bodyPost_ret (v := .tuple #[arrV ch a3 s0.length k3 a5 (M.cycle d n (M.fill ch)).length k5, .nilIface]) (by simp [results, Tryz.results147, go_sem, cell?_set_same, z50, z51, z52]) rfl ?_
      have b3 : Below w.heap.size w w3 := below_trans b2 ⟨hb3.os, hb3.tape, hb3.output, hb3.size, hb3.block⟩
      have b5 := below_trans (below_trans b3 hb4) hb5
      have p3 : w.heap.size + 1 < w2.drew.heap.size := s2
      have p5 : w.heap.size + 1 < w4.heap.size := Nat.lt_of_lt_of_le s2 (Nat.le_trans hb3.size hb4.size)
      exact .ok hr.out rfl (((((o3.below hb4).below hb5).setCell _ _ p3).setCell _ _ p3).setCell _ _ p3).row (((o5.setCell _ _ p5).setCell _ _ p5).setCell _ _ p5).row (((b5.setCell (by simp) _).setCell (by simp) _).setCell (by simp) _)
    · have hr : M.reshape s0 ⟨ch, s, d⟩ = .error (M.flaw ch s d) := by unfold M.reshape; rw [hc]; exact if_neg hf
      rw [errV_ne hf]
      replace hr := Lib.hid hr
      replace hc := Lib.hid hc
      replace hf := Lib.hid hf
      obtain ⟨c20, c21, c22⟩ := c2
      obtain ⟨z20, z21, z22⟩ := z2
      obtain ⟨f20, f21, f22⟩ := f2
      go_wp2
      refine bodyPost_ret (v := .tuple #[arrV false none 0 0 none 0 0, .iface 46 (.int .i64 (M.flaw ch s d))]) (by simp [results, Tryz.results147, go_sem, cell?_set_same, z20, z21, z22]) rfl ?_
      exact .error hr.out rfl (((b2.setCell (by simp) _).setCell (by simp) _).setCell (by simp) _)

end Go.Proofs.YtaplaoelamnoiaaGreatDoor

/- The call arr.Reshape: its array lies in new memory. Condition: rows that lie as lists of ints. -/
namespace Go.Proofs.YtaplaoelamnoiaaGreatDoor
open Go.RowKit

set_option maxHeartbeats 1000000 in
theorem reshapeF_any (a0 : Option Addr) (s0 : List Int) (m0 c0 : Nat) (ch : Bool) (a b : Option Addr) (s d : List Int) (m c n z : Nat) (w : World) (h0 : Row w a0 s0) (l0 : s0.length ≤ maxLen) (e0 : m0 = s0.length)
    (hs : Row w a s) (hd : Row w b d) (ls : s.length ≤ maxLen) (ld : d.length ≤ maxLen) (em : m = s.length) (en : n = d.length) :
    Calls Tryz.prog 147 #[.slice a0 m0 c0, arrV ch a m c b n z] w fun e w' => ArrPostF (M.reshape s0 ⟨ch, s, d⟩) w e w' := by
  subst em
  subst en
  subst e0
  have bel0 : Below w.heap.size w ((w.alloc (.cells #[.bool ch, .slice a s.length c, .slice b d.length z] 24)).alloc (.cells #[.bool false, .slice none 0 0, .slice none 0 0] 24)) := ((Below.refl _ w).alloc (Nat.le_refl _) _).alloc (by simp) _
  go_enter Tryz.func147, Tryz.ntmps147
  go_wp2_with fail
  refine (count_any a0 s0 _ c0 _ (h0.below bel0) l0 rfl).mono ?_
  rintro e w' ⟨rfl, rfl⟩
  cases hc : M.count s0 with
  | error e =>
    have hr : M.reshape s0 ⟨ch, s, d⟩ = .error e := by unfold M.reshape; rw [hc]
    replace hr := Lib.hid hr
    replace hc := Lib.hid hc
    dsimp only [resI]
    go_wp2
    refine bodyPost_ret (v := .tuple #[arrV false none 0 0 none 0 0, .iface 46 (.int .i64 e)]) (by simp [results, Tryz.results147, go_sem]) rfl ?_
    exact .error hr.out rfl bel0
  | ok q =>
    have q0 := (M.count_ok hc).2.2.2.1
    have q1 := (M.count_ok hc).2.2.2.2
    have q6 := (M.count_ok hc).1
    dsimp only [resI]
    go_wp2_with fail
    refine (check_any ch a b s d _ c _ z _ (hs.below bel0) (hd.below bel0) ls ld rfl rfl).mono ?_
    rintro e w2 ⟨rfl, b02⟩
    have n0 : ((w.alloc (.cells #[.bool ch, .slice a s.length c, .slice b d.length z] 24)).alloc (.cells #[.bool false, .slice none 0 0, .slice none 0 0] 24)).heap.size = w.heap.size + 2 := by simp
    have c2 := held3 (N := w.heap.size) (x := .bool ch) (y := .slice a s.length c) (z := .slice b d.length z) b02 ⟨by simp, by simp, by simp⟩
    have z2 := held3 (N := w.heap.size + 1) (x := .bool false) (y := .slice none 0 0) (z := .slice none 0 0) b02 ⟨by simp, by simp, by simp⟩
    have f2 := frozen3 (N := w.heap.size + 1) b02 (by omega) ⟨by simp, by simp, by simp⟩
    have s2 : w.heap.size + 2 ≤ w2.heap.size := by have := b02.size; omega
    have b2 : Below w.heap.size w w2 := below_trans bel0 b02
    clear b02 bel0 n0
    by_cases hf : M.flaw ch s d = 0
    · have hr : M.reshape s0 ⟨ch, s, d⟩ = .ok ⟨ch, s0, M.cycle d q.toNat (M.fill ch)⟩ := by unfold M.reshape; rw [hc]; exact if_pos hf
      obtain ⟨n, rfl⟩ : ∃ n : Nat, q = n := ⟨q.toNat, by omega⟩
      rw [hf, errV_zero]
      rw [Int.toNat_natCast] at hr
      replace hr := Lib.hid hr
      replace hc := Lib.hid hc
      replace hf := Lib.hid hf
      obtain ⟨c20, c21, c22⟩ := c2
      have r0' : Row w2 a0 s0 := h0.below b2
      have rd' : Row w2 b d := hd.below b2
      have r0 : Row w2.drew a0 s0 := r0'
      have rd : Row w2.drew b d := rd'
      clear r0' rd'
      have ln : n < 17592186044416 := by omega
      have l0' : s0.length < 17592186044416 := by omega
      go_wp2_with fail
      go_region_held3 (fun w' => w'.cell? ⟨w.heap.size, 0, none⟩ = some (.bool ch) ∧ w'.cell? ⟨w.heap.size, 1, none⟩ = some (.slice a s.length c) ∧ w'.cell? ⟨w.heap.size, 2, none⟩ = some (.slice b d.length z))
        (first | go_keep | (exact held3 hb3 (by assumption)) | (exact held3 hb4 (by assumption)) | (exact held3 hb5 (by assumption)))
        (first
          | (go_at_call 72; refine (clone_any a0 s0 _ c0 _ r0 l0' rfl).mono ?_; rintro e w3 ⟨v3, rfl, o3, hb3⟩; obtain ⟨a3, k3, rfl, hk3, -, r3⟩ := o3.view)
          | (go_at_call 197; refine (fill_any _ _ _ _ _ _ _ _).mono ?_; rintro e w4 ⟨rfl, hb4⟩)
          | (go_at_call 196; refine (cycled_any b d _ z n (M.fill ch) _ ((rd.below hb3).below hb4) ld ln rfl).mono ?_; rintro e w5 ⟨v5, rfl, o5, hb5⟩; obtain ⟨a5, k5, rfl, -, -, r5⟩ := o5.view; obtain ⟨z50, z51, z52⟩ := held3 hb5 (held3 hb4 (held3 hb3 z2)); obtain ⟨f50, f51, f52⟩ := frozen3 (N := w.heap.size + 1) hb5 (by have h1 := hb3.size; have h2 := hb4.size; exact Nat.lt_of_lt_of_le s2 (Nat.le_trans h1 h2)) (frozen3 hb4 (by have h1 := hb3.size; exact Nat.lt_of_lt_of_le s2 h1) (frozen3 hb3 s2 f2))))
      go_wp2
      refine bodyPost_ret (v := .tuple #[arrV ch a3 s0.length k3 a5 (M.cycle d n (M.fill ch)).length k5, .nilIface]) (by simp [results, Tryz.results147, go_sem, cell?_set_same, z50, z51, z52]) rfl ?_
      have b3 : Below w.heap.size w w3 := below_trans b2 ⟨hb3.os, hb3.tape, hb3.output, hb3.size, hb3.block⟩
      have b5 := below_trans (below_trans b3 hb4) hb5
      have p3 : w.heap.size + 1 < w2.drew.heap.size := s2
      have p5 : w.heap.size + 1 < w4.heap.size := Nat.lt_of_lt_of_le s2 (Nat.le_trans hb3.size hb4.size)
      exact .ok hr.out rfl (((((o3.below hb4).below hb5).setCell _ _ p3).setCell _ _ p3).setCell _ _ p3).row (((o5.setCell _ _ p5).setCell _ _ p5).setCell _ _ p5).row (fun p e => by have h : w2.heap.size ≤ p.block := own_fresh o3 p e; omega) (fun p e => by have h := own_fresh o5 p e; have h2 : w2.heap.size ≤ w3.heap.size := hb3.size; have h3 := hb4.size; omega) hk3 (((b5.setCell (by simp) _).setCell (by simp) _).setCell (by simp) _)
    · have hr : M.reshape s0 ⟨ch, s, d⟩ = .error (M.flaw ch s d) := by unfold M.reshape; rw [hc]; exact if_neg hf
      rw [errV_ne hf]
      replace hr := Lib.hid hr
      replace hc := Lib.hid hc
      replace hf := Lib.hid hf
      obtain ⟨c20, c21, c22⟩ := c2
      obtain ⟨z20, z21, z22⟩ := z2
      obtain ⟨f20, f21, f22⟩ := f2
      go_wp2
      refine bodyPost_ret (v := .tuple #[arrV false none 0 0 none 0 0, .iface 46 (.int .i64 (M.flaw ch s d))]) (by simp [results, Tryz.results147, go_sem, cell?_set_same, z20, z21, z22]) rfl ?_
      exact .error hr.out rfl (((b2.setCell (by simp) _).setCell (by simp) _).setCell (by simp) _)

end Go.Proofs.YtaplaoelamnoiaaGreatDoor
