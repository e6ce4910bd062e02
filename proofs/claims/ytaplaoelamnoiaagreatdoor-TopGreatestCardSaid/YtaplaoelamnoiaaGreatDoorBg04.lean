/- Texts that lie in one file: what is plain, rows, boxes, squares, and what is known of a world. No condition. -/
import Derived.Test.YtaplaoelamnoiaaGreatDoorBg00
/- New rows of ints: made by make with room, and one row appended to an own one. Condition: fewer than 2^44 cells. -/
namespace Go.Proofs.YtaplaoelamnoiaaGreatDoor
open Go.RowKit

/-- The cells that make([]int, 0, n) lays. -/
def roomCells (n : Nat) : Array Value := (List.replicate n (Value.int .i64 0)).toArray

theorem run_make_room (l n : Nat) (hl : l ≤ n) (hb : n < 17592186044416) (W : World) :
    (Instr.makeSlice 22 (.int .i64 (l : Int)) (.int .i64 (n : Int))).run Tryz.prog W = .ok (.slice (some ⟨W.heap.size, 0, none⟩) l n) (W.alloc (.cells (roomCells n) 3)) := by
  obtain ⟨i0, hi, hz0, hz1, hz2⟩ := info_parts Tryz.infoInt
  have h := run_make (P := Tryz.prog) W 22 3 i0 (.int .i64 0) Tryz.underlying22 hi hz0 .i64 .i64 l n (by omega) (by omega) (by rw [hz2]; omega) (by omega)
  rw [hz1, Int.toNat_natCast, Int.toNat_natCast, Nat.mul_one] at h
  rw [h]
  have e : madeCells (Value.int .i64 0).cells n = roomCells n := by
    apply Array.toList_inj.1
    exact (toList_madeCells_one _ _).trans rfl
  rw [e]

theorem run_make_room0 (n : Nat) (hb : n < 17592186044416) (W : World) :
    (Instr.makeSlice 22 (.int .i64 0) (.int .i64 (n : Int))).run Tryz.prog W = .ok (.slice (some ⟨W.heap.size, 0, none⟩) 0 n) (W.alloc (.cells (roomCells n) 3)) :=
  run_make_room 0 n (Nat.zero_le _) hb W

theorem own_room (W : World) (n B : Nat) (hB : B ≤ W.heap.size) (hn : n ≤ maxLen) : Own (W.alloc (.cells (roomCells n) 3)) B (.slice (some ⟨W.heap.size, 0, none⟩) 0 n) [] :=
  ⟨rfl, .inr ⟨W.heap.size, n, roomCells n, rfl, hB, heap_alloc_new _ _, Nat.zero_le _, hn, by simp [roomCells], by simp⟩⟩

/-- out = append(out, s...), out the call's own, s any row that is there. -/
theorem app_row {w : World} {ops : Array Oper} {rest : List Oper} {o : Oper} {a : Act} {Q : Exit → Act → World → Prop} (hgd : o.guard = none) (s x : Operand)
    (ho : o.op = .call { callee := .builtin .append, args := #[s, x], argTypes := #[22, 22] })
    (B : Nat) (v : Value) (ys zs : List Int) (b : Addr) (c : Nat) (hs : a.eval s = v) (hown : Own w B v ys) (hx : a.eval x = .slice (some b) zs.length c) (hrow : Row w (some b) zs)
    (hlen : ys.length + zs.length < 17592186044416) (hB : B ≤ w.heap.size)
    (h : ∀ v' w', Own w' B v' (ys ++ zs) → Below B w w' → w.heap.size ≤ w'.heap.size → wpList Tryz.prog ops Q rest (a.put o.dst v') w') :
    wpList Tryz.prog ops Q (o :: rest) a w := by
  obtain ⟨i0, hi, hz0, hz1, hz2⟩ := info_parts Tryz.infoInt
  refine wpList_append_own _ hgd s x 22 ho B 3 i0 (.int .i64 0) 1 8 Tryz.underlying22 hi hz0 hz1 hz2 rfl (by decide) v _ _ hs hown
    b zs.length c (zs.map (Value.int .i64)) hx (by simp) ?_ ?_ (by simp only [maxLen]; omega) (by omega) hB ?_
  · intro j u hj
    have hjl : j < zs.length := by
      have h1 := (List.getElem?_eq_some_iff.1 hj).1
      simpa using h1
    obtain ⟨b1, o1, hb, hc⟩ := hrow j hjl
    cases hb
    rw [Addr.add_lit, hc]
    rw [← hj]
    simp [hjl]
  · intro u hu
    obtain ⟨n, _, rfl⟩ := List.mem_map.1 hu
    rfl
  · intro v' w' h1 h2 _
    refine h v' w' (by unfold Own; simpa using h1) ?_ h2.size
    exact (Below.refl B w).grown h2 hB (fun k hk => by
        rcases hown.2 with ⟨rfl, _⟩ | ⟨g, cap, cur, rfl, hg, _⟩
        · simp [Value.ownBlock] at hk
        · simp [Value.ownBlock] at hk; omega)

theorem Own.row {w : World} {B : Nat} {a : Option Addr} {ys : List Int} {n c : Nat} (h : Own w B (.slice a n c) ys) : Row w a ys := by
  obtain ⟨a', c', he, _, _, hr⟩ := h.view
  cases he
  exact hr

/-- A store into an elder block. -/
theorem Own.setCell {w : World} {B : Nat} {v : Value} {ys : List Int} (h : Own w B v ys) (p : Addr) (x : Value) (hp : p.block < B) : Own (w.setCell p x) B v ys := by
  refine ⟨h.1, ?_⟩
  rcases h.2 with h2 | ⟨g, cap, cur, hv, hg, hh, r⟩
  · exact .inl h2
  · exact .inr ⟨g, cap, cur, hv, hg, by rw [Below.heap_setCell _ _ _ _ (by omega)]; exact hh, r⟩

end Go.Proofs.YtaplaoelamnoiaaGreatDoor

/- What functions of two numbers tell (M.two), as the program reckons it. No condition. -/
namespace Go.Proofs.YtaplaoelamnoiaaGreatDoor
open Go.RowKit
namespace M

/-- The greatest whole number not above a / b (b not 0); it runs round at the least number by -1. -/
def floor (a b : Int) : Int :=
  if b = -1 then wrap64 (-a)
  else if a.tmod b ≠ 0 ∧ (decide (a.tmod b < 0) != decide (b < 0)) = true then a.tdiv b - 1 else a.tdiv b

def pow (a b : Int) : Int := wrap64 (a ^ b.toNat)

def bit (p : Bool) : Int := if p then 1 else 0

def two (f a b : Int) : Except Int Int :=
  if f = 1 then .ok (wrap64 (a + b))
  else if f = 2 then .ok (wrap64 (a - b))
  else if f = 3 then .ok (wrap64 (a * b))
  else if f = 4 then (if b = 0 then .error 6 else .ok (floor a b))
  else if f = 5 then (if a = 0 then .ok b else .ok (wrap64 (b - wrap64 (a * floor b a))))
  else if f = 6 then .ok (if a < b then b else a)
  else if f = 7 then .ok (if b < a then b else a)
  else if f = 8 then .ok (bit (a == b))
  else if f = 9 then .ok (bit (a != b))
  else if f = 10 then .ok (bit (decide (a < b)))
  else if f = 11 then .ok (bit (decide (a ≤ b)))
  else if f = 12 then .ok (bit (decide (b ≤ a)))
  else if f = 13 then .ok (bit (decide (b < a)))
  else if f = 14 then .ok (bits .and .i64 a b)
  else if f = 15 then .ok (bits .or .i64 a b)
  else if f = 16 then (if b < 0 then .error 6 else .ok (pow a b))
  else .error 1

end M
end Go.Proofs.YtaplaoelamnoiaaGreatDoor

/- Plain facts on numbers that run round at 64 bits: wraps inside a wrap may go. No condition. -/
namespace Go.Proofs.YtaplaoelamnoiaaGreatDoor
open Go.RowKit

theorem I64_wrap (n : Int) : I64 (wrap64 n) := by unfold I64 wrap64; omega
theorem wrap_id {n : Int} (h : I64 n) : wrap64 n = n := IntWalk.wrap64_in n h
theorem wrap_iff (a b : Int) : wrap64 a = wrap64 b ↔ a % 18446744073709551616 = b % 18446744073709551616 := by unfold wrap64; omega
theorem wrap_mod (a : Int) : wrap64 a % 18446744073709551616 = a % 18446744073709551616 := by unfold wrap64; omega
theorem wrap_wrap (a : Int) : wrap64 (wrap64 a) = wrap64 a := wrap_id (I64_wrap a)
theorem wrap_add_l (a b : Int) : wrap64 (wrap64 a + b) = wrap64 (a + b) := by unfold wrap64; omega
theorem wrap_add_r (a b : Int) : wrap64 (a + wrap64 b) = wrap64 (a + b) := by unfold wrap64; omega
theorem wrap_sub_l (a b : Int) : wrap64 (wrap64 a - b) = wrap64 (a - b) := by unfold wrap64; omega
theorem wrap_sub_r (a b : Int) : wrap64 (a - wrap64 b) = wrap64 (a - b) := by unfold wrap64; omega
theorem wrap_neg (a : Int) : wrap64 (-wrap64 a) = wrap64 (-a) := by unfold wrap64; omega
theorem wrap_mul_l (a b : Int) : wrap64 (wrap64 a * b) = wrap64 (a * b) := by
  rw [wrap_iff, Int.mul_emod, wrap_mod, ← Int.mul_emod]
theorem wrap_mul_r (a b : Int) : wrap64 (a * wrap64 b) = wrap64 (a * b) := by
  rw [wrap_iff, Int.mul_emod, wrap_mod, ← Int.mul_emod]
theorem wrap_pow (a : Int) (n : Nat) : wrap64 (wrap64 a ^ n) = wrap64 (a ^ n) := by
  induction n with
  | zero => rw [Int.pow_zero, Int.pow_zero]
  | succ n ih => rw [Int.pow_succ, Int.pow_succ, wrap_mul_r, ← wrap_mul_l, ih, wrap_mul_l]
theorem wrap_congr_mul {a b c d : Int} (h : wrap64 a = wrap64 b) (k : wrap64 c = wrap64 d) : wrap64 (a * c) = wrap64 (b * d) := by
  rw [← wrap_mul_l, h, wrap_mul_l, ← wrap_mul_r, k, wrap_mul_r]
theorem wrap_congr_add {a b c d : Int} (h : wrap64 a = wrap64 b) (k : wrap64 c = wrap64 d) : wrap64 (a + c) = wrap64 (b + d) := by
  rw [← wrap_add_l, h, wrap_add_l, ← wrap_add_r, k, wrap_add_r]
theorem wrap_congr_sub {a b c d : Int} (h : wrap64 a = wrap64 b) (k : wrap64 c = wrap64 d) : wrap64 (a - c) = wrap64 (b - d) := by
  rw [← wrap_sub_l, h, wrap_sub_l, ← wrap_sub_r, k, wrap_sub_r]

theorem wraps_i64 (n : Int) (h₀ : 0 ≤ n) (h₁ : n < 2 ^ 63) : IntKind.i64.wrap n = n := by rw [IntKind.wrap_i64]; omega
theorem and_one {y : Int} (h0 : 0 ≤ y) (h : I64 y) : bits .and .i64 y 1 = y % 2 := by
  have := bits_mask .i64 63 (by decide) wraps_i64 1 (by decide) y h0 (by have := h.2; omega)
  simpa using this

end Go.Proofs.YtaplaoelamnoiaaGreatDoor

/- The call cell.Neutral: what it returns is M.neutral; nothing in memory turns. Condition: none. -/
namespace Go.Proofs.YtaplaoelamnoiaaGreatDoor
open Go.RowKit
namespace M

def neutral (f : Int) : Except Int Int :=
  if f = 1 ∨ f = 2 ∨ f = 5 ∨ f = 15 then .ok 0
  else if f = 3 ∨ f = 4 ∨ f = 16 then .ok 1
  else if f = 6 then .ok (-9223372036854775808)
  else if f = 7 then .ok 9223372036854775807
  else if f = 14 then .ok (-1)
  else if 8 ≤ f ∧ f ≤ 13 then .error 6
  else .error 1
end M

set_option maxHeartbeats 1000000 in
theorem neutral_any (f : Int) (w : World) : Calls Tryz.prog 139 #[.int .i64 f] w fun e w' => e = .returned (resI (M.neutral f)) ∧ w = w' := by
  by_cases hr : 1 ≤ f ∧ f ≤ 16
  · have hs : f = 1 ∨ f = 2 ∨ f = 3 ∨ f = 4 ∨ f = 5 ∨ f = 6 ∨ f = 7 ∨ f = 8 ∨ f = 9 ∨ f = 10 ∨ f = 11 ∨ f = 12 ∨ f = 13 ∨ f = 14 ∨ f = 15 ∨ f = 16 := by omega
    clear hr
    rcases hs with rfl | rfl | rfl | rfl | rfl | rfl | rfl | rfl | rfl | rfl | rfl | rfl | rfl | rfl | rfl | rfl
    all_goals
      go_enter Tryz.func139, Tryz.ntmps139
      go_wp2
      go_ret2
      exact ⟨rfl, rfl⟩
  have hf := Lib.hid (show M.neutral f = .error 1 by unfold M.neutral; rw [if_neg (by omega), if_neg (by omega), if_neg (by omega), if_neg (by omega), if_neg (by omega), if_neg (by omega)])
  have e1 : (f == 1) = false := by rw [beq_eq_false_iff_ne]; omega
  have e2 : (f == 2) = false := by rw [beq_eq_false_iff_ne]; omega
  have e3 : (f == 3) = false := by rw [beq_eq_false_iff_ne]; omega
  have e4 : (f == 4) = false := by rw [beq_eq_false_iff_ne]; omega
  have e5 : (f == 5) = false := by rw [beq_eq_false_iff_ne]; omega
  have e6 : (f == 6) = false := by rw [beq_eq_false_iff_ne]; omega
  have e7 : (f == 7) = false := by rw [beq_eq_false_iff_ne]; omega
  have e8 : (f == 8) = false := by rw [beq_eq_false_iff_ne]; omega
  have e9 : (f == 9) = false := by rw [beq_eq_false_iff_ne]; omega
  have e10 : (f == 10) = false := by rw [beq_eq_false_iff_ne]; omega
  have e11 : (f == 11) = false := by rw [beq_eq_false_iff_ne]; omega
  have e12 : (f == 12) = false := by rw [beq_eq_false_iff_ne]; omega
  have e13 : (f == 13) = false := by rw [beq_eq_false_iff_ne]; omega
  have e14 : (f == 14) = false := by rw [beq_eq_false_iff_ne]; omega
  have e15 : (f == 15) = false := by rw [beq_eq_false_iff_ne]; omega
  have e16 : (f == 16) = false := by rw [beq_eq_false_iff_ne]; omega
  clear hr
  go_enter Tryz.func139, Tryz.ntmps139
  go_wp2
  go_ret2
  exact ⟨by rw [hf.out]; rfl, rfl⟩

end Go.Proofs.YtaplaoelamnoiaaGreatDoor

/- What a call that tells an array alone leaves. No condition. -/
namespace Go.Proofs.YtaplaoelamnoiaaGreatDoor
open Go.RowKit

/-- What a call that tells an array alone leaves. -/
def VecPost (x : Arr) (w : World) (e : Ending) (w' : World) : Prop :=
  ∃ a c b k, e = .returned (arrV x.ch a x.s.length c b x.d.length k) ∧ Row w' a x.s ∧ Row w' b x.d ∧ Below w.heap.size w w'
/-- In a block from here on. -/
def Fresh (w : World) (a : Option Addr) : Prop := ∀ p, a = some p → w.heap.size ≤ p.block
theorem Fresh.none (w : World) : Fresh w none := fun p h => by cases h
theorem Fresh.mono {w w' : World} {a : Option Addr} (h : Fresh w' a) (hs : w.heap.size ≤ w'.heap.size) : Fresh w a := fun p e => Nat.le_trans hs (h p e)
theorem own_fresh {w : World} {B : Nat} {a : Option Addr} {n c : Nat} {ys : List Int} (h : Own w B (.slice a n c) ys) : ∀ p, a = some p → B ≤ p.block := by
  intro p e
  subst e
  rcases h.2 with ⟨e, _⟩ | ⟨g, cap, cur, e, hb, _⟩
  · simp at e
  · simp at e
    rw [e.1]; exact hb
/-- .. and both its rows in new blocks. -/
def VecPostF (x : Arr) (w : World) (e : Ending) (w' : World) : Prop :=
  ∃ a c b k, e = .returned (arrV x.ch a x.s.length c b x.d.length k) ∧ Row w' a x.s ∧ Row w' b x.d ∧ Fresh w a ∧ Fresh w b ∧ x.s.length ≤ c ∧ Below w.heap.size w w'
/-- What a call that tells an array in new memory, or an error, leaves. -/
def ArrPostF (r : Except Int Arr) (w : World) (e : Ending) (w' : World) : Prop :=
  (∀ n, r = .error n → e = .returned (.tuple #[arrV false none 0 0 none 0 0, .iface 46 (.int .i64 n)])) ∧
  (∀ x, r = .ok x → ∃ a c b k, e = .returned (.tuple #[arrV x.ch a x.s.length c b x.d.length k, .nilIface]) ∧ Row w' a x.s ∧ Row w' b x.d ∧ Fresh w a ∧ Fresh w b ∧ x.s.length ≤ c) ∧
  Below w.heap.size w w'
theorem ArrPostF.error {r : Except Int Arr} {w w' : World} {e : Ending} {n : Int} (h : r = .error n) (he : e = .returned (.tuple #[arrV false none 0 0 none 0 0, .iface 46 (.int .i64 n)])) (hb : Below w.heap.size w w') : ArrPostF r w e w' := by
  subst h; exact ⟨fun m hm => by cases hm; exact he, fun x hx => (by cases hx), hb⟩
theorem ArrPostF.ok {r : Except Int Arr} {w w' : World} {e : Ending} {x : Arr} {a b : Option Addr} {c k : Nat} (h : r = .ok x) (he : e = .returned (.tuple #[arrV x.ch a x.s.length c b x.d.length k, .nilIface])) (h1 : Row w' a x.s) (h2 : Row w' b x.d)
    (f1 : Fresh w a) (f2 : Fresh w b) (hcap : x.s.length ≤ c) (hb : Below w.heap.size w w') : ArrPostF r w e w' := by
  subst h; exact ⟨fun m hm => (by cases hm), fun y hy => by cases hy; exact ⟨a, c, b, k, he, h1, h2, f1, f2, hcap⟩, hb⟩
theorem ArrPostF.is_error {r : Except Int Arr} {w w' : World} {e : Ending} {n : Int} (h : ArrPostF r w e w') (hr : r = .error n) : e = .returned (.tuple #[arrV false none 0 0 none 0 0, .iface 46 (.int .i64 n)]) ∧ Below w.heap.size w w' := ⟨h.1 n hr, h.2.2⟩
theorem ArrPostF.is_ok {r : Except Int Arr} {w w' : World} {e : Ending} {x : Arr} (h : ArrPostF r w e w') (hr : r = .ok x) :
    ∃ a c b k, e = .returned (.tuple #[arrV x.ch a x.s.length c b x.d.length k, .nilIface]) ∧ Row w' a x.s ∧ Row w' b x.d ∧ Fresh w a ∧ Fresh w b ∧ x.s.length ≤ c ∧ Below w.heap.size w w' := by
  obtain ⟨a, c, b, k, h1, h2, h3, h4, h5, h6⟩ := h.2.1 x hr; exact ⟨a, c, b, k, h1, h2, h3, h4, h5, h6, h.2.2⟩

end Go.Proofs.YtaplaoelamnoiaaGreatDoor

/- The call shape.Count returns M.count of the lengths; nothing in memory turns. Condition: the slice reads as a list of ints. -/
namespace Go.Proofs.YtaplaoelamnoiaaGreatDoor
open Go.RowKit

set_option maxHeartbeats 400000 in
theorem count_any (a : Option Addr) (s : List Int) (n c : Nat) (w : World) (hs : Row w a s) (hm : s.length ≤ maxLen) (hn : n = s.length) :
    Calls Tryz.prog 18 #[.slice a n c] w fun e w' => e = .returned (resI (M.count s)) ∧ w = w' := by
  subst hn
  unfold maxLen at hm
  go_enter Tryz.func18, Tryz.ntmps18
  by_cases h6 : 6 < s.length
  · have hf := Lib.hid (show M.count s = .error 3 from if_pos h6)
    go_wp2
    go_ret2
    exact ⟨by rw [hf.out]; rfl, rfl⟩
  · go_wp2
    go_loop [17] (fun i => ∃ k : Nat, k ≤ s.length ∧ i = .int .i64 k ∧ M.badLen s = M.badLen (s.drop k)) (fun i => s.length - (intOf i).toNat)
    case atStart => exact ⟨0, Nat.zero_le _, rfl, rfl⟩
    case round =>
      obtain ⟨k, hk, rfl, hb⟩ := hrel
      replace hb := Lib.hid hb
      by_cases hlt : k < s.length
      · obtain ⟨b, off, rfl, hc⟩ := hs k hlt
        have hd := Lib.hid (badLen_drop hlt)
        go_wp2
        · go_ret2
          have h0 : s.getD k 0 < 0 := by simpa [hlt] using ‹s[k] < 0›
          rw [hd.out, if_pos h0] at hb
          have hf : M.count s = .error 4 := by rw [M.count, if_neg h6, hb.out, if_pos (by decide)]
          exact ⟨by rw [hf]; rfl, rfl⟩
        · go_ret2
          have h0 : ¬ s.getD k 0 < 0 := by simpa [hlt] using ‹0 ≤ s[k]›
          have h1 : 4096 < s.getD k 0 := by simpa [hlt] using ‹4096 < s[k]›
          rw [hd.out, if_neg h0, if_pos h1] at hb
          have hf : M.count s = .error 7 := by rw [M.count, if_neg h6, hb.out, if_pos (by decide)]
          exact ⟨by rw [hf]; rfl, rfl⟩
        · have h0 : ¬ s.getD k 0 < 0 := by simpa [hlt] using ‹0 ≤ s[k]›
          have h1 : ¬ 4096 < s.getD k 0 := by simpa [hlt] using ‹s[k] ≤ 4096›
          rw [hd.out, if_neg h0, if_neg h1] at hb
          go_round
          case rel => exact ⟨k + 1, by omega, by go_num, hb.out⟩
          case measure => simp [intOf]; omega
      · have hz : M.badLen s = 0 := by rw [hb.out, List.drop_eq_nil_of_le (by omega)]; rfl
        have hr := badLen_zero hz
        have hz := Lib.hid hz
        clear hb
        replace hr := Lib.hid hr
        go_wp2
        go_loop [30] (fun i => ∃ k : Nat, k ≤ s.length ∧ i = .int .i64 k ∧ 0 ∉ s.take k) (fun i => s.length - (intOf i).toNat)
        case atStart => exact ⟨0, Nat.zero_le _, rfl, by simp⟩
        case round =>
          obtain ⟨k, hk, rfl, hb⟩ := hrel
          replace hb := Lib.hid hb
          by_cases hlt : k < s.length
          · obtain ⟨b, off, rfl, hc⟩ := hs k hlt
            go_wp2
            · go_ret2
              have h0 : (0 : Int) ∈ s := by have h : s[k] = 0 := by simpa using ‹(s[k] == 0) = true›
                                            rw [← h]; exact List.getElem_mem _
              have hf : M.count s = .ok 0 := by rw [M.count, if_neg h6, hz.out, if_neg (by decide), if_pos h0]
              exact ⟨by rw [hf]; rfl, rfl⟩
            · go_round
              case rel =>
                refine ⟨k + 1, by omega, by go_num, ?_⟩
                have h : ¬ s[k] = 0 := by simpa using ‹(s[k] == 0) = false›
                rw [List.take_succ_eq_append_getElem hlt, List.mem_append]
                rintro (hm' | hm')
                · exact hb.out hm'
                · simp at hm'; omega
              case measure => simp [intOf]; omega
          · have h0 := hb.out
            rw [List.take_of_length_le (by omega)] at h0
            have hcn : M.count s = M.mulUp 1 s := by rw [M.count, if_neg h6, hz.out, if_neg (by decide), if_neg h0]
            replace hcn := Lib.hid hcn
            replace h0 := Lib.hid h0
            clear hb
            go_wp2
            go_loop [6, 39] (fun p i => ∃ k : Nat, k ≤ s.length ∧ i = .int .i64 k ∧ ∃ q : Int, 1 ≤ q ∧ q ≤ 4096 ∧ p = .int .i64 q ∧ M.mulUp 1 s = M.mulUp q (s.drop k)) (fun _ i => s.length - (intOf i).toNat)
            case atStart => exact ⟨0, Nat.zero_le _, rfl, 1, by omega, by omega, rfl, rfl⟩
            case round =>
              obtain ⟨k, hk, rfl, q, hq1, hq2, rfl, hb⟩ := hrel
              replace hb := Lib.hid hb
              by_cases hlt : k < s.length
              · obtain ⟨b, off, rfl, hc⟩ := hs k hlt
                have hd := Lib.hid (mulUp_drop q hlt)
                have hx := hr.out s[k] (List.getElem_mem _)
                have hx0 : s[k] ≠ 0 := fun h => h0.out (h ▸ List.getElem_mem _)
                have hp1 : q * s[k] ≤ 4096 * 4096 := Int.mul_le_mul hq2 hx.2 (by omega) (by omega)
                have hp0 : 1 ≤ q * s[k] := Int.mul_pos (by omega) (by omega)
                obtain ⟨hx1, hx2⟩ := hx
                go_wp2
                · go_ret2
                  have h1 : 4096 < q * s.getD k 0 := by simpa [hlt] using ‹4096 < q * s[k]›
                  rw [hd.out, if_pos h1] at hb
                  exact ⟨by rw [hcn.out, hb.out]; rfl, rfl⟩
                · have h1 : ¬ 4096 < q * s.getD k 0 := by simpa [hlt] using ‹q * s[k] ≤ 4096›
                  rw [hd.out, if_neg h1] at hb
                  go_round
                  case rel => exact ⟨k + 1, by omega, by go_num, q * s[k], hp0, by assumption, rfl, by rw [hb.out]; simp [hlt]⟩
                  case measure => simp [intOf]; omega
              · go_wp2
                go_ret2
                have h1 := hb.out
                rw [List.drop_eq_nil_of_le (by omega)] at h1
                exact ⟨by rw [hcn.out, h1]; rfl, rfl⟩

end Go.Proofs.YtaplaoelamnoiaaGreatDoor

/- The calls arr.Check, slices.Equal. -/
namespace Go.Proofs.YtaplaoelamnoiaaGreatDoor
open Go.RowKit

set_option maxHeartbeats 400000 in
theorem check_any (ch : Bool) (a b : Option Addr) (s d : List Int) (m c n z : Nat) (w : World) (hs : Row w a s) (hd : Row w b d) (ls : s.length ≤ maxLen) (ld : d.length ≤ maxLen) (em : m = s.length) (en : n = d.length) :
    Calls Tryz.prog 10 #[arrV ch a m c b n z] w fun e w' => e = .returned (errV (M.flaw ch s d)) ∧ Below w.heap.size w w' := by
  subst em
  subst en
  unfold maxLen at ld
  go_enter Tryz.func10, Tryz.ntmps10
  go_wp2_with fail
  refine (count_any a s _ c _ (hs.alloc _) ls rfl).mono ?_
  rintro e w' ⟨rfl, rfl⟩
  have bel := (Below.refl w.heap.size w).alloc (Nat.le_refl _) (.cells #[.bool ch, .slice a s.length c, .slice b d.length z] 24)
  cases hc : M.count s with
  | error e =>
    have hn := Lib.hid (count_ne hc)
    replace hc := Lib.hid hc
    dsimp only [resI]
    go_wp2
    go_ret
    exact ⟨by rw [flaw_error hc.out, errV_ne hn.out]; rfl, bel⟩
  | ok q =>
    replace hc := Lib.hid hc
    dsimp only [resI]
    by_cases hl : (d.length : Int) = q
    · subst hl
      have hbne : (((d.length : Nat) : Int) != ((d.length : Nat) : Int)) = false := by rw [bne_eq_false_iff_eq]
      cases ch with
      | false =>
        go_wp2
        go_ret
        exact ⟨by rw [flaw_num hc.out rfl]; rfl, bel⟩
      | true =>
        go_wp2
        go_loop [27] (fun i => ∃ k : Nat, k ≤ d.length ∧ i = .int .i64 k ∧ d.any M.noChar = (d.drop k).any M.noChar) (fun i => d.length - (intOf i).toNat)
        case atStart => exact ⟨0, Nat.zero_le _, rfl, rfl⟩
        case round =>
          obtain ⟨k, hk, rfl, hb⟩ := hrel
          replace hb := Lib.hid hb
          by_cases hlt : k < d.length
          · obtain ⟨b1, o1, rfl, hcell⟩ := hd.alloc (.cells #[.bool true, .slice a s.length c, .slice b d.length z] 24) k hlt
            have hdr := Lib.hid (anyChar_drop hlt)
            have hx : ∀ (p1 p2 p3 p4 : Bool), decide (d[k] < 0) = p1 → decide (1114111 < d[k]) = p2 → decide (55296 ≤ d[k]) = p3 → decide (d[k] ≤ 57343) = p4 → M.noChar d[k] = (p1 || (p2 || (p3 && p4))) := by
              intro p1 p2 p3 p4 e1 e2 e3 e4; unfold M.noChar; rw [e1, e2, e3, e4]
            replace hx := Lib.hid hx
            have bad : M.noChar d[k] = true → d.any M.noChar = true := fun h => by rw [hb.out, hdr.out, h]; rfl
            have good : M.noChar d[k] = false → d.any M.noChar = (d.drop (k + 1)).any M.noChar := fun h => by rw [hb.out, hdr.out, h]; rfl
            cases e1 : decide (d[k] < 0) with
            | true =>
              go_wp2
              go_ret
              exact ⟨by rw [flaw_char hc.out rfl (bad (by rw [hx.out _ _ _ _ e1 rfl rfl rfl]; rfl))]; rfl, bel⟩
            | false =>
              cases e2 : decide (1114111 < d[k]) with
              | true =>
                go_wp2
                go_ret
                exact ⟨by rw [flaw_char hc.out rfl (bad (by rw [hx.out _ _ _ _ e1 e2 rfl rfl]; rfl))]; rfl, bel⟩
              | false =>
                cases e3 : decide (55296 ≤ d[k]) with
                | true =>
                  cases e4 : decide (d[k] ≤ 57343) with
                  | true =>
                    go_wp2
                    go_ret
                    exact ⟨by rw [flaw_char hc.out rfl (bad (by rw [hx.out _ _ _ _ e1 e2 e3 e4]; rfl))]; rfl, bel⟩
                  | false =>
                    replace hx := good (by rw [hx.out _ _ _ _ e1 e2 e3 e4]; rfl)
                    clear good bad hb hdr
                    replace hx := Lib.hid hx
                    go_wp2
                    go_round
                    case rel => exact ⟨k + 1, by omega, by go_num, hx.out⟩
                    case measure => simp [intOf]; omega
                | false =>
                  replace hx := good (by rw [hx.out _ _ _ _ e1 e2 e3 rfl]; rfl)
                  clear good bad hb hdr
                  replace hx := Lib.hid hx
                  go_wp2
                  go_round
                  case rel => exact ⟨k + 1, by omega, by go_num, hx.out⟩
                  case measure => simp [intOf]; omega
          · have hz := Lib.hid (show d.any M.noChar = false by rw [hb.out, List.drop_eq_nil_of_le (by omega)]; rfl)
            go_wp2
            go_ret
            exact ⟨by rw [flaw_chars hc.out rfl hz.out]; rfl, bel⟩
    · have hbne : (((d.length : Nat) : Int) != q) = true := by rw [bne_iff_ne]; exact hl
      go_wp2
      go_ret
      exact ⟨by rw [flaw_length hc.out hl]; rfl, bel⟩

end Go.Proofs.YtaplaoelamnoiaaGreatDoor

/- Functions of two numbers on the cells of two arrays, in plain data. No condition. -/
namespace Go.Proofs.YtaplaoelamnoiaaGreatDoor
open Go.RowKit

namespace M
/-- A function of two numbers? -/
def fn2 (f : Int) : Bool := decide (1 ≤ f ∧ f ≤ 16)
/-- 1 where one of the two is no such function. -/
def unk (f g : Int) : Int := if (fn2 f && fn2 g) = true then 0 else 1
def cmp (f : Int) : Bool := f == 8 || f == 9
def flaws (x y : Arr) : Int := if flaw x.ch x.s x.d = 0 then flaw y.ch y.s y.d else flaw x.ch x.s x.d
/-- Two arrays' cells. -/
def tw (g : Int) (c1 c2 : Bool) (a b : Int) : Except Int Int := if c1 = c2 then two g a b else .ok (if g = 9 then 1 else 0)
end M

theorem two_known {f : Int} (h : M.fn2 f = true) : ∃ v, M.two f 0 1 = .ok v := by
  have h1 : 1 ≤ f ∧ f ≤ 16 := of_decide_eq_true h
  have hs : f = 1 ∨ f = 2 ∨ f = 3 ∨ f = 4 ∨ f = 5 ∨ f = 6 ∨ f = 7 ∨ f = 8 ∨ f = 9 ∨ f = 10 ∨ f = 11 ∨ f = 12 ∨ f = 13 ∨ f = 14 ∨ f = 15 ∨ f = 16 := by omega
  rcases hs with rfl | rfl | rfl | rfl | rfl | rfl | rfl | rfl | rfl | rfl | rfl | rfl | rfl | rfl | rfl | rfl <;> exact ⟨_, rfl⟩
theorem two_unknown {f : Int} (h : M.fn2 f = false) (a b : Int) : M.two f a b = .error 1 := by
  have h1 : ¬ (1 ≤ f ∧ f ≤ 16) := of_decide_eq_false h
  unfold M.two
  repeat rw [if_neg (by omega)]

end Go.Proofs.YtaplaoelamnoiaaGreatDoor

/- Plain facts on arrays: what a sound one is; all its cells in its own shape are it. No condition. -/
namespace Go.Proofs.YtaplaoelamnoiaaGreatDoor
open Go.RowKit

theorem flaw_ok {ch : Bool} {s d : List Int} (h : M.flaw ch s d = 0) : M.count s = .ok (d.length : Int) ∧ (ch = true → d.any M.noChar = false) := by
  unfold M.flaw at h
  split at h
  · rename_i e he; exact absurd h (count_ne he)
  · rename_i n hn
    split at h
    · cases h
    · rename_i hl
      have hl : (d.length : Int) = n := Decidable.of_not_not hl
      split at h
      · cases h
      · rename_i hc
        refine ⟨by rw [hn, hl], fun hch => ?_⟩
        cases ha : d.any M.noChar with
        | false => rfl
        | true => exact absurd ⟨hch, ha⟩ hc

theorem flaw_mk {ch : Bool} {s d : List Int} (h : M.count s = .ok (d.length : Int)) (hc : ch = true → d.any M.noChar = false) : M.flaw ch s d = 0 := by
  cases ch with
  | false => exact flaw_num h rfl
  | true => exact flaw_chars h rfl (hc rfl)

theorem count_one {n : Nat} (h : n ≤ 4096) : M.count [(n : Int)] = .ok (n : Int) := by
  have := M.count_mk (s := [(n : Int)]) (by simp) (by intro x hx; simp at hx; omega) (by simp [M.prod]; omega)
  simpa [M.prod] using this

theorem cycle_self (d : List Int) (z : Int) : M.cycle d d.length z = d := by
  apply List.ext_getElem
  · exact cycle_length _ _ _
  · intro i h1 h2
    have h0 : d.length ≠ 0 := by omega
    simp [M.cycle, h0, Nat.mod_eq_of_lt h2, h2]

/-- All its cells, on one axis. -/
theorem ravel_sound {ch : Bool} {s d : List Int} (h : M.flaw ch s d = 0) : M.flaw ch [(d.length : Int)] d = 0 :=
  flaw_mk (count_one (flaw_len h).1) (flaw_ok h).2

theorem reshape_self {ch : Bool} {s d t : List Int} (h : M.flaw ch s d = 0) (ht : M.count t = .ok (d.length : Int)) : M.reshape t ⟨ch, s, d⟩ = .ok ⟨ch, t, d⟩ := by
  unfold M.reshape
  rw [ht]
  dsimp only
  rw [if_pos h, Int.toNat_natCast, cycle_self]

end Go.Proofs.YtaplaoelamnoiaaGreatDoor
