/- Texts that lie in one file: what is plain, rows, boxes, squares, and what is known of a world. No condition. -/
import Derived.Test.YtaplaoelamnoiaaGreatDoorLxAll
import Derived.Tactics
import Derived.Tactics2
import Derived.Defers
import Derived.Recover
import Derived.Laws.Pointers
import Derived.BigQuiet
import Derived.Test.YtaplaoelamnoiaaGreatDoorBg05
/- The call lex.Read of a line whose words are told by M.lexFrom. Condition: the tables of utf8 are laid; the line is not too long. -/
namespace Go.Proofs.YtaplaoelamnoiaaGreatDoor
open Go.RowKit

theorem lexIdle (a b c : Value) (w : World) :
    CallsD Tryz.prog 22 #[a, b, c] .returning w fun e u' w' => e = .returned (.tuple #[]) ∧ u' = .returning ∧ w' = w := by
  refine callsD_of_wpS Tryz.func22 rfl fun c₀ cs hu => ?_
  apply wpS_seq
  generalize hy : (Code.block 0 _) = y
  apply wpS_region
  simp [wpOpsS, go_sem, recoverD, hu, Tryz.ntmps22, Exit.thenS]
  rw [show (#[a, b, c] ++ (Array.replicate 14 undef).setIfInBounds 3 Value.nilIface : Array Value) = #[a, b, c, undef, undef, undef, .nilIface, undef, undef, undef, undef, undef, undef, undef, undef, undef, undef] from rfl]
  subst hy
  refine wpS_of_wp ?_
  go_wp2
  cases c₀
  simp_all [bodyPostS, results, Tryz.results22]

set_option maxRecDepth 20000 in
set_option maxHeartbeats 4000000 in
theorem lexRead_any (s : ByteArray) (w : World) (n : Nat) (ts : List Tok) (hs : s.size ≤ 1000) (hT : Lib.Utf8Tabs 0 1 w) (h2 : 2 ≤ w.heap.size) (hl : M.lexFrom s n 0 = some ts) (h200 : ts.length < 200) :
    Calls Tryz.prog 19 #[.string s] w fun e w' => ∃ v, e = .returned (.tuple #[v, .int .i64 0, .nilIface]) ∧ w'.ownsRow w.heap.size 82 5 v ts.length (ts.flatMap Tok.cells) ∧ Below w.heap.size w w' := by
  have hmf : ∀ (fn : Fn) (first cap : Array Value) (w : World), (Instr.makeFunc fn first cap).run Tryz.prog w = .ok (.func fn first cap) w := fun _ _ _ _ => rfl
  have hA := boxC_alloc w #[.slice none 0 0] 47
  have hB := boxC_alloc (w.alloc (.cells #[.slice none 0 0] 47)) #[.int .i64 0] 3
  have hC := boxC_alloc ((w.alloc (.cells #[.slice none 0 0] 47)).alloc (.cells #[.int .i64 0] 3)) #[.nilIface] 29
  have hD := boxC_alloc (((w.alloc (.cells #[.slice none 0 0] 47)).alloc (.cells #[.int .i64 0] 3)).alloc (.cells #[.nilIface] 29)) #[.string s, .int .i64 0, .slice none 0 0] 59
  simp only [World.size_alloc] at hB hC hD
  obtain ⟨W, hW⟩ : ∃ W : World, W = (((w.alloc (.cells #[.slice none 0 0] 47)).alloc (.cells #[.int .i64 0] 3)).alloc (.cells #[.nilIface] 29)).alloc (.cells #[.string s, .int .i64 0, .slice none 0 0] 59) := ⟨_, rfl⟩
  have hb0 : Below w.heap.size w W := by rw [hW]; exact ((((Below.refl _ w).alloc (Nat.le_refl _) _).alloc (by simp) _).alloc (by simp; omega) _).alloc (by simp; omega) _
  have hA4 : BoxC w.heap.size [.slice none 0 0] W := hA.same (by rw [hW]; exact (heap_alloc_old _ _ (by simp; omega)).trans ((heap_alloc_old _ _ (by simp; omega)).trans (heap_alloc_old _ _ (by simp))))
  have hB4 : BoxC (w.heap.size + 1) [.int .i64 0] W := hB.same (by rw [hW]; exact (heap_alloc_old _ _ (by simp)).trans (heap_alloc_old _ _ (by simp)))
  have hC4 : BoxC (w.heap.size + 1 + 1) [.nilIface] W := hC.same (by rw [hW]; exact heap_alloc_old _ _ (by simp))
  rw [← hW] at hD
  have hR : Rd (w.heap.size + 1 + 1 + 1) s 0 (.slice none 0 0) W := ⟨⟨(hD 0 _ rfl).1, (hD 1 _ rfl).1, (hD 2 _ rfl).1⟩, (hD 1 _ rfl).2, (hD 2 _ rfl).2⟩
  have ka := all_any _ s W n ts hR hs (utf8_same hT fun b hb => hb0.block b (by omega)) (by omega) hl h200
  have e1 : decide (1000 < ((s.size : Nat) : Int)) = false := decide_eq_false (by omega)
  have hW' := hW.symm
  replace ka := Lib.hid ka
  replace hW := Lib.hid hW
  replace hl := Lib.hid hl
  clear hA hB hC hD hR hT
  go_enter_defers Tryz.func19, Tryz.ntmps19
  go_wp2_with fail
  refine ka.out.mono ?_
  rintro e w5 ⟨rfl, v, p, hR5, hO5, hB5⟩
  obtain ⟨av, cv, hv, hle, -⟩ := ownE_view hO5
  subst hv
  obtain ⟨⟨c0, c1, c2⟩, f1, f2⟩ := hR5
  obtain ⟨a0, y0⟩ := (hA4.same (hB5.block _ (by omega))) 0 _ rfl
  obtain ⟨a1, y1⟩ := (hB4.same (hB5.block _ (by omega))) 0 _ rfl
  obtain ⟨a2, y2⟩ := (hC4.same (hB5.block _ (by omega))) 0 _ rfl
  have hsz := hb0.size
  have hb5 := hb0.trans (hB5.mono (by omega))
  replace hO5 := Lib.hid hO5
  clear hA4 hB4 hC4 ka
  go_wp2
  refine leaves_cons (f := 22) (args := #[.pointer (some ⟨w.heap.size, 0, none⟩), .pointer (some ⟨w.heap.size + 1, 0, none⟩), .pointer (some ⟨w.heap.size + 1 + 1, 0, none⟩)]) (by simp) (by simp [go_sem]) ?_
  refine (lexIdle _ _ _ _).mono ?_
  rintro e u' w'' ⟨rfl, rfl, rfl⟩
  have s0 : (((w5.setCell ⟨w.heap.size, 0, none⟩ (.slice av ts.length cv)).setCell ⟨w.heap.size + 1, 0, none⟩ (.int .i64 0)).setCell ⟨w.heap.size + 1 + 1, 0, none⟩ .nilIface).cell? ⟨w.heap.size, 0, none⟩ = some (.slice av ts.length cv) := by
    rw [World.cell?_setCell_other _ _ _ _ (by simp), World.cell?_setCell_other _ _ _ _ (by simp)]; exact World.cell?_setCell_same' _ _ _ (by rw [a0]; rfl)
  have s1 : (((w5.setCell ⟨w.heap.size, 0, none⟩ (.slice av ts.length cv)).setCell ⟨w.heap.size + 1, 0, none⟩ (.int .i64 0)).setCell ⟨w.heap.size + 1 + 1, 0, none⟩ .nilIface).cell? ⟨w.heap.size + 1, 0, none⟩ = some (.int .i64 0) := by
    rw [World.cell?_setCell_other _ _ _ _ (by simp)]; exact World.cell?_setCell_same' _ _ _ (by rw [World.cell?_setCell_other _ _ _ _ (by simp), a1]; rfl)
  have s2 : (((w5.setCell ⟨w.heap.size, 0, none⟩ (.slice av ts.length cv)).setCell ⟨w.heap.size + 1, 0, none⟩ (.int .i64 0)).setCell ⟨w.heap.size + 1 + 1, 0, none⟩ .nilIface).cell? ⟨w.heap.size + 1 + 1, 0, none⟩ = some .nilIface :=
    World.cell?_setCell_same' _ _ _ (by rw [World.cell?_setCell_other _ _ _ _ (by simp), World.cell?_setCell_other _ _ _ _ (by simp), a2]; rfl)
  have hfin : (((w5.setCell ⟨w.heap.size, 0, none⟩ (.slice av ts.length cv)).setCell ⟨w.heap.size + 1, 0, none⟩ (.int .i64 0)).setCell ⟨w.heap.size + 1 + 1, 0, none⟩ .nilIface).ownsRow w.heap.size 82 5 (.slice av ts.length cv) ts.length (ts.flatMap Tok.cells) ∧ Below w.heap.size w (((w5.setCell ⟨w.heap.size, 0, none⟩ (.slice av ts.length cv)).setCell ⟨w.heap.size + 1, 0, none⟩ (.int .i64 0)).setCell ⟨w.heap.size + 1 + 1, 0, none⟩ .nilIface) := by
    refine ⟨?_, ((hb5.setCell (Nat.le_refl _) _).setCell (Nat.le_succ _) _).setCell (by show w.heap.size ≤ w.heap.size + 1 + 1; omega) _⟩
    have h := ownE_same (w' := ((w5.setCell ⟨w.heap.size, 0, none⟩ (.slice av ts.length cv)).setCell ⟨w.heap.size + 1, 0, none⟩ (.int .i64 0)).setCell ⟨w.heap.size + 1 + 1, 0, none⟩ .nilIface) hO5.out fun b h1 h2 => by
      rw [Below.heap_setCell _ _ _ b (by show b ≠ w.heap.size + 1 + 1; omega), Below.heap_setCell _ _ _ b (by show b ≠ w.heap.size + 1; omega), Below.heap_setCell _ _ _ b (by show b ≠ w.heap.size; omega)]
    obtain ⟨hl, h⟩ := h
    refine ⟨hl, ?_⟩
    rcases h with h | ⟨g, cap, cur, hv, hB, hrest⟩
    · exact .inl h
    · exact .inr ⟨g, cap, cur, hv, by omega, hrest⟩
  clear a0 a1 a2 y0 y1 y2 c0 c1 c2 f1 f2 hO5 hb5
  generalize ((w5.setCell ⟨w.heap.size, 0, none⟩ (.slice av ts.length cv)).setCell ⟨w.heap.size + 1, 0, none⟩ (.int .i64 0)).setCell ⟨w.heap.size + 1 + 1, 0, none⟩ .nilIface = w9 at *
  simp only [Leaves, settle]
  refine ⟨.tuple #[.slice av ts.length cv, .int .i64 0, .nilIface], by simp [results, Tryz.results19, go_sem, s0, s1, s2], _, rfl, hfin.1, hfin.2⟩
end Go.Proofs.YtaplaoelamnoiaaGreatDoor

/- The call lex.spelt of words that are told to be good. Condition: the library's tables are laid. -/
namespace Go.Proofs.YtaplaoelamnoiaaGreatDoor
open Go.RowKit

/-- The library's tables, as its text lays them. -/
def Tz (w : World) : Prop := Lib.Utf8Tabs 0 1 w ∧ Lib.TabIs Tryz.prog w "internal/strconv.uint64pow10" .u64 Lib.pow10Tab
theorem Tz.same {w w' : World} (h : Tz w) (e : ∀ b, b < 8 → w'.heap[b]? = w.heap[b]?) : Tz w' := by
  refine ⟨utf8_same h.1 fun b hb => e b (by omega), ?_⟩
  have hg : Tryz.prog.globalNamed "internal/strconv.uint64pow10" = some 5 := by kernel_rfl
  have h2 := h.2
  unfold Lib.TabIs World.var? at h2 ⊢
  rw [hg] at h2 ⊢
  simp only [Option.bind_some] at h2 ⊢
  rw [e 5 (by omega)]
  exact h2
theorem Tz.below {w w' : World} {B : Nat} (h : Tz w) (hb : Below B w w') (h8 : 8 ≤ B) : Tz w' := h.same fun b hb' => hb.block b (by omega)
theorem grow_below (w : World) (k : Nat) (os : Array Obj) : Below w.heap.size w (Go.Sort.grow (w.drewN k) os) := by
  have h := below_drewN (Below.refl w.heap.size w) k
  refine ⟨h.os, h.tape, h.output, ?_, fun b hb => ?_⟩
  · show w.heap.size ≤ (w.heap ++ os).size
    simp
  · show (w.heap ++ os)[b]? = w.heap[b]?
    exact Array.getElem?_append_left hb
/-- The two variables of spelt: the word without its place, the bare one. -/
theorem two_boxes (w : World) (A B : Array Value) (t : TypeId) {W : World} (hb : Below (w.heap.size + 1 + 1) ((w.alloc (.cells A t)).alloc (.cells B t)) W) : BoxC w.heap.size A.toList W ∧ BoxC (w.heap.size + 1) B.toList W ∧ Below w.heap.size w W := by
  have hA := boxC_alloc w A t
  have hB := boxC_alloc (w.alloc (.cells A t)) B t
  rw [World.size_alloc] at hB
  refine ⟨hA.same ((hb.block _ (by omega)).trans (heap_alloc_old _ _ (by simp))), hB.same (hb.block _ (by omega)), ?_⟩
  exact (((Below.refl _ w).alloc (Nat.le_refl _) _).alloc (by simp) _).trans (hb.mono (by omega))

set_option maxRecDepth 20000 in
set_option maxHeartbeats 4000000 in
theorem spelt_num (v a : Int) (w : World) (h0 : 0 ≤ v) (h1 : v ≤ 9223372036854775807) (hT : Tz w) (h8 : 8 ≤ w.heap.size) :
    Calls Tryz.prog 36 #[.agg #[.int .i64 1, .int .i64 0, .int .i64 v, .string noText, .int .i64 a]] w fun e w' => e = .returned (.tuple #[.string ⟨(Lib.itoa v).toArray⟩, .nilIface]) ∧ Below w.heap.size w w' := by
  have e1 : decide (v < 0) = false := decide_eq_false (by omega)
  have ki := fun W hW => Tryz.strconv_Itoa v (by omega) h1 W hW
  replace ki := Lib.hid ki
  go_enter Tryz.func36, Tryz.ntmps36
  go_wp2_with fail
  refine (ki.out _ ((hT.same fun b hb => (heap_alloc_old _ _ (by simp; omega)).trans (heap_alloc_old _ _ (by omega))).2)).mono ?_
  rintro e w3 ⟨rfl, k, os, hw3⟩
  have hb3 := grow_below ((w.alloc (.cells #[.int .i64 1, .int .i64 0, .int .i64 v, .string noText, .int .i64 0] 82)).alloc (.cells #[.int .i64 1, .int .i64 0, .int .i64 v, .string ⟨#[]⟩, .int .i64 0] 82)) k os
  rw [← hw3] at hb3
  simp only [World.size_alloc] at hb3
  obtain ⟨x1, x2, x3⟩ := two_boxes w _ _ _ hb3
  clear hw3 hb3 ki hT
  have a0 := (x1 0 _ rfl).1
  have a1 := (x1 1 _ rfl).1
  have a2 := (x1 2 _ rfl).1
  have a3 := (x1 3 _ rfl).1
  have a4 := (x1 4 _ rfl).1
  have b0 := (x2 0 _ rfl).1
  have b1 := (x2 1 _ rfl).1
  have b2 := (x2 2 _ rfl).1
  have b3 := (x2 3 _ rfl).1
  have b4 := (x2 4 _ rfl).1
  go_wp2
  go_ret2
  exact ⟨rfl, x3⟩

theorem size_ite {c : Prop} [Decidable c] {a b : ByteArray} {n : Nat} (ha : a.size ≤ n) (hb : b.size ≤ n) : (if c then a else b).size ≤ n := by split <;> assumption
theorem encode_size (n : Int) : (Utf8.encode n).size ≤ 4 := by
  unfold Utf8.encode
  exact size_ite (Nat.le_of_lt_succ (by decide : 1 < 5)) (size_ite (Nat.le_of_lt_succ (by decide : 2 < 5)) (size_ite (Nat.le_of_lt_succ (by decide : 3 < 5)) (Nat.le_refl 4)))

set_option maxRecDepth 20000 in
set_option maxHeartbeats 4000000 in
theorem spelt_fn (f a : Int) (w : World) (h1 : 1 ≤ f) (h2 : f ≤ 34) :
    Calls Tryz.prog 36 #[.agg #[.int .i64 4, .int .i64 f, .int .i64 0, .string noText, .int .i64 a]] w fun e w' => e = .returned (.tuple #[.string (Utf8.encode (M.glyph f)), .nilIface]) ∧ Below w.heap.size w w' := by
  have kg := fun W => glyphOf_any f h1 h2 W
  have hz : (M.glyph f == 0) = false := by
    have hs : ∃ k : Nat, f = (k : Int) + 1 ∧ k < 34 := ⟨(f - 1).toNat, by omega, by omega⟩
    obtain ⟨k, rfl, hk⟩ := hs
    have hd : ∀ k, k < 34 → (M.glyph ((k : Nat) + 1) == 0) = false := by decide
    exact hd k hk
  generalize M.glyph f = c at *
  replace kg := Lib.hid kg
  clear h1 h2
  have hb3 := Below.refl (w.heap.size + 1 + 1) ((w.alloc (.cells #[.int .i64 4, .int .i64 f, .int .i64 0, .string noText, .int .i64 0] 82)).alloc (.cells #[.int .i64 4, .int .i64 f, .int .i64 0, .string ⟨#[]⟩, .int .i64 0] 82))
  obtain ⟨x1, x2, x3⟩ := two_boxes w _ _ _ hb3
  have a0 := (x1 0 _ rfl).1
  have a1 := (x1 1 _ rfl).1
  have a2 := (x1 2 _ rfl).1
  have a3 := (x1 3 _ rfl).1
  have a4 := (x1 4 _ rfl).1
  have b0 := (x2 0 _ rfl).1
  have b1 := (x2 1 _ rfl).1
  have b2 := (x2 2 _ rfl).1
  have b3 := (x2 3 _ rfl).1
  have b4 := (x2 4 _ rfl).1
  clear hb3 x1 x2
  go_enter Tryz.func36, Tryz.ntmps36
  go_wp2_with fail
  refine (kg.out _).mono ?_
  rintro e w3 ⟨rfl, rfl⟩
  go_wp2
  go_ret2
  exact ⟨rfl, x3⟩

set_option maxRecDepth 20000 in
set_option maxHeartbeats 4000000 in
theorem spelt_sign (k a : Int) (w : World) (h1 : 5 ≤ k) (h2 : k ≤ 20) :
    Calls Tryz.prog 36 #[.agg #[.int .i64 k, .int .i64 0, .int .i64 0, .string noText, .int .i64 a]] w fun e w' => e = .returned (.tuple #[.string (Utf8.encode (M.sign k)), .nilIface]) ∧ Below w.heap.size w w' := by
  have kg := fun W => signOf_any k h1 h2 W
  have q1 : (k == 1) = false := by rw [beq_eq_false_iff_ne]; omega
  have q2 : (k == 2) = false := by rw [beq_eq_false_iff_ne]; omega
  have q3 : (k == 3) = false := by rw [beq_eq_false_iff_ne]; omega
  have q4 : (k == 4) = false := by rw [beq_eq_false_iff_ne]; omega
  have q5 : decide (k < 5) = false := decide_eq_false (by omega)
  have q6 : decide (20 < k) = false := decide_eq_false (by omega)
  generalize M.sign k = c at *
  replace kg := Lib.hid kg
  clear h1 h2
  have hb3 := Below.refl (w.heap.size + 1 + 1) ((w.alloc (.cells #[.int .i64 k, .int .i64 0, .int .i64 0, .string noText, .int .i64 0] 82)).alloc (.cells #[.int .i64 k, .int .i64 0, .int .i64 0, .string ⟨#[]⟩, .int .i64 0] 82))
  obtain ⟨x1, x2, x3⟩ := two_boxes w _ _ _ hb3
  have a0 := (x1 0 _ rfl).1
  have a1 := (x1 1 _ rfl).1
  have a2 := (x1 2 _ rfl).1
  have a3 := (x1 3 _ rfl).1
  have a4 := (x1 4 _ rfl).1
  have b0 := (x2 0 _ rfl).1
  have b1 := (x2 1 _ rfl).1
  have b2 := (x2 2 _ rfl).1
  have b3 := (x2 3 _ rfl).1
  have b4 := (x2 4 _ rfl).1
  clear hb3 x1 x2
  go_enter Tryz.func36, Tryz.ntmps36
  go_wp2_with fail
  refine (kg.out _).mono ?_
  rintro e w3 ⟨rfl, rfl⟩
  go_wp2
  go_ret2
  exact ⟨rfl, x3⟩

namespace M
/-- A name that may be. -/
def nameOk (x : ByteArray) : Prop := 0 < x.size ∧ x.size ≤ 12 ∧ lett (byteAt x 0) = true ∧ ∀ i, i < x.size → inn (byteAt x i) = true
end M
set_option maxRecDepth 20000 in
set_option maxHeartbeats 4000000 in
theorem named_any (x : ByteArray) (w : World) (h : M.nameOk x) :
    Calls Tryz.prog 56 #[.string x] w fun e w' => e = .returned .nilIface ∧ w = w' := by
  obtain ⟨h0, h12, hl, hi⟩ := h
  have hie : x.toList.isEmpty = false := by
    cases hx : x.toList with
    | nil =>
      have e1 := Lib.toList_data x
      rw [hx] at e1
      have e2 := Lib.size_eq x
      rw [← e1] at e2
      rw [e2] at h0
      exact absurd h0 (by decide)
    | cons _ _ => rfl
  have hb : M.byteAt x 0 = (((x[0]'h0).toNat : Nat) : Int) := by unfold M.byteAt; rw [dif_pos h0]
  rw [hb] at hl
  have kl := letter_any (((x[0]'h0).toNat : Nat) : Int)
  rw [hl] at kl
  have z0 : (0 : Int) < ((x.size : Nat) : Int) := by omega
  have z12 : decide (12 < ((x.size : Nat) : Int)) = false := decide_eq_false (by omega)
  replace kl := Lib.hid kl
  replace hl := Lib.hid hl
  replace hi := Lib.hid hi
  replace hb := Lib.hid hb
  go_enter Tryz.func56, Tryz.ntmps56
  go_wp2_with fail
  refine (kl.out _).mono ?_
  rintro e w3 ⟨rfl, rfl⟩
  go_wp2
  go_loop [15] (fun v => ∃ j : Nat, j ≤ x.size ∧ v = .int .i64 j) (fun v => 40 - (intOf v).toNat)
  case atStart => exact ⟨0, Nat.zero_le _, rfl⟩
  case round =>
    obtain ⟨j, hj, rfl⟩ := hrel
    by_cases hlt : j < x.size
    · have hij := hi.out j hlt
      have hbj : M.byteAt x j = (((x[j]'hlt).toNat : Nat) : Int) := by unfold M.byteAt; rw [dif_pos hlt]
      rw [hbj] at hij
      have kw := within_any (((x[j]'hlt).toNat : Nat) : Int) w
      rw [hij] at kw
      have zj : ((j : Nat) : Int) < ((x.size : Nat) : Int) := by omega
      replace kw := Lib.hid kw
      replace hij := Lib.hid hij
      replace hbj := Lib.hid hbj
      go_wp2_with fail
      refine kw.out.mono ?_
      rintro e w3 ⟨rfl, rfl⟩
      go_wp2
      go_round
      case rel => exact ⟨j + 1, by omega, by go_num⟩
      case measure => simp [intOf]; omega
    · obtain rfl : j = x.size := by omega
      go_wp2
      go_ret
      exact ⟨rfl, rfl⟩
set_option maxRecDepth 20000 in
set_option maxHeartbeats 4000000 in
theorem spelt_name (x : ByteArray) (a : Int) (w : World) (hx : M.nameOk x) :
    Calls Tryz.prog 36 #[.agg #[.int .i64 3, .int .i64 0, .int .i64 0, .string x, .int .i64 a]] w fun e w' => e = .returned (.tuple #[.string x, .nilIface]) ∧ Below w.heap.size w w' := by
  have kg := fun W => named_any x W hx
  have hxx : (x.toList == x.toList) = true := by simp
  replace kg := Lib.hid kg
  clear hx
  have hb3 := Below.refl (w.heap.size + 1 + 1) ((w.alloc (.cells #[.int .i64 3, .int .i64 0, .int .i64 0, .string x, .int .i64 0] 82)).alloc (.cells #[.int .i64 3, .int .i64 0, .int .i64 0, .string x, .int .i64 0] 82))
  obtain ⟨x1, x2, x3⟩ := two_boxes w _ _ _ hb3
  clear hb3
  have a0 := (x1 0 _ rfl).1
  have a1 := (x1 1 _ rfl).1
  have a2 := (x1 2 _ rfl).1
  have a3 := (x1 3 _ rfl).1
  have a4 := (x1 4 _ rfl).1
  have b0 := (x2 0 _ rfl).1
  have b1 := (x2 1 _ rfl).1
  have b2 := (x2 2 _ rfl).1
  have b3 := (x2 3 _ rfl).1
  have b4 := (x2 4 _ rfl).1
  clear x1 x2
  go_enter Tryz.func36, Tryz.ntmps36
  go_wp2_with fail
  go_quiet ((go_at_call 56; refine Calls.quiet_of_same ((kg.out _).mono fun e w' h => ⟨h.1, h.2.symm⟩)))
  go_wp2
  go_ret2
  exact ⟨rfl, below_drewN x3 _⟩
end Go.Proofs.YtaplaoelamnoiaaGreatDoor

/- The call lex.Spell of one good word. Condition: the library's tables are laid; the word lies. -/
namespace Go.Proofs.YtaplaoelamnoiaaGreatDoor
open Go.RowKit

/-- A word that may be spelt. -/
def Tok.good (t : Tok) : Prop :=
  (t.kind = 1 ∧ t.fn = 0 ∧ t.text = noText ∧ 0 ≤ t.num ∧ t.num ≤ 9223372036854775807 ∧ (Lib.itoa t.num).length ≤ 1000) ∨
  (t.kind = 3 ∧ t.fn = 0 ∧ t.num = 0 ∧ M.nameOk t.text) ∨
  (t.kind = 4 ∧ 1 ≤ t.fn ∧ t.fn ≤ 34 ∧ t.num = 0 ∧ t.text = noText) ∨
  (5 ≤ t.kind ∧ t.kind ≤ 20 ∧ t.fn = 0 ∧ t.num = 0 ∧ t.text = noText)

theorem spelt_good (t : Tok) (w : World) (h : t.good) (hT : Tz w) (h8 : 8 ≤ w.heap.size) :
    Calls Tryz.prog 36 #[t.val] w fun e w' => ∃ x, e = .returned (.tuple #[.string x, .nilIface]) ∧ x.size ≤ 1000 ∧ Below w.heap.size w w' := by
  obtain ⟨k, f, n, x, a⟩ := t
  unfold Tok.val
  dsimp only
  rcases h with ⟨h1, h2, h3, h4, h5, h6⟩ | ⟨h1, h2, h3, h4⟩ | ⟨h1, h2, h3, h4, h5⟩ | ⟨h1, h2, h3, h4, h5⟩
  · dsimp only at h1 h2 h3 h4 h5 h6
    subst h1; subst h2; subst h3
    exact (spelt_num n a w h4 h5 hT h8).mono fun e w' h => ⟨_, h.1, h6, h.2⟩
  · dsimp only at h1 h2 h3 h4
    subst h1; subst h2; subst h3
    exact (spelt_name x a w h4).mono fun e w' h => ⟨_, h.1, by have := h4.2.1; omega, h.2⟩
  · dsimp only at h1 h2 h3 h4 h5
    subst h1; subst h4; subst h5
    exact (spelt_fn f a w h2 h3).mono fun e w' h => ⟨_, h.1, by have := encode_size (M.glyph f); omega, h.2⟩
  · dsimp only at h1 h2 h3 h4 h5
    subst h3; subst h4; subst h5
    exact (spelt_sign k a w h1 h2).mono fun e w' h => ⟨_, h.1, by have := encode_size (M.sign k); omega, h.2⟩

theorem Tryz.infoStr : (Tryz.prog.info? 9).map (fun i => (i.zero, i.size, i.bytes)) = some (some (.string ⟨#[]⟩), 1, 16) := by kernel_rfl

set_option maxRecDepth 20000 in
set_option maxHeartbeats 4000000 in
theorem spell_any (t : Tok) (b o c : Nat) (w : World) (h : t.good) (hT : Tz w) (h8 : 8 ≤ w.heap.size) (hc : ∀ j u, t.cells[j]? = some u → w.cell? ⟨b, o + j, none⟩ = some u) :
    Calls Tryz.prog 24 #[.slice (some ⟨b, o, none⟩) 1 c] w fun e w' => ∃ x, e = .returned (.tuple #[.string x, .nilIface]) ∧ Below w.heap.size w w' := by
  have ks := fun W hW h => spelt_good t W h hW
  have c0 := hc 0 _ rfl
  have c1 := hc 1 _ rfl
  have c2 := hc 2 _ rfl
  have c3 := hc 3 _ rfl
  have c4 := hc 4 _ rfl
  rw [Nat.add_zero] at c0
  replace ks := Lib.hid ks
  go_enter Tryz.func24, Tryz.ntmps24
  go_wp2
  go_loopw [4, 16] (fun l v wr => (v = .int .i64 0 ∧ l = .slice none 0 0 ∧ wr = w) ∨ (v = .int .i64 1 ∧ ∃ (x : ByteArray) (B cap : Nat), l = .slice (some ⟨B, 0, none⟩) 1 cap ∧ x.size ≤ 1000 ∧ wr.cell? ⟨B, 0, none⟩ = some (.string x) ∧ Below w.heap.size w wr)) (fun _ v _ => 1 - (intOf v).toNat)
  case atStart => exact .inl ⟨rfl, rfl, rfl⟩
  case round =>
    rcases hrel with ⟨rfl, rfl, hw⟩ | ⟨rfl, x, B, cap, rfl, hx, hcx, hb⟩
    · subst hw
      have hl8 : 8 ≤ (wr.alloc (.cells #[.int .i64 t.kind, .int .i64 t.fn, .int .i64 t.num, .string t.text, .int .i64 t.place] 82)).heap.size := by simp; omega
      have hTa := hT.same (w' := wr.alloc (.cells #[.int .i64 t.kind, .int .i64 t.fn, .int .i64 t.num, .string t.text, .int .i64 t.place] 82)) fun b hb => heap_alloc_old _ _ (by omega)
      have hba := (Below.refl wr.heap.size wr).alloc (Nat.le_refl _) (.cells #[.int .i64 t.kind, .int .i64 t.fn, .int .i64 t.num, .string t.text, .int .i64 t.place] 82)
      obtain ⟨i0, hi, hz0, hz1, hz2⟩ := info_parts Tryz.infoStr
      replace hT := Lib.hid hT
      replace hTa := Lib.hid hTa
      replace hba := Lib.hid hba
      replace hi := Lib.hid hi
      replace hz0 := Lib.hid hz0
      replace hz1 := Lib.hid hz1
      replace hz2 := Lib.hid hz2
      go_wp2_with fail
      refine (ks.out _ hTa.out h hl8).mono ?_
      rintro e w2 ⟨x, rfl, hx, hb⟩
      have hb2 := Lib.hid (hba.out.trans (hb.mono (by simp)))
      have hs2 := hb2.out.size
      clear hb hba hTa hT c0 c1 c2 c3 c4
      replace hc := Lib.hid hc
      have hbx := boxC_alloc w2 #[.string x] 9
      replace hbx := Lib.hid hbx
      go_wp2_with (at_builtin; refine app_E 84 9 i0 _ 1 16 Tryz.underlying84 hi.out hz0.out hz1.out hz2.out rfl (by decide) rfl (.tmp 28) (.tmp 30) rfl wr.heap.size _ 0 [] [.string x] w2.heap.size rfl (World.ownsRow_nil _ _ _ _) rfl rfl (fun j u hj => (hbx.out j u hj).1) (by simp [Value.oneCell']) (by unfold maxLen; omega) (by omega) (by simp; omega) ?_; intro a5 c5 w5 ho5 hb5; have ho5 := Lib.hid ho5; have hb5 := Lib.hid hb5)
      go_roundw
      case rel =>
        obtain ⟨a', c', hv, hcap, hce⟩ := ownE_view ho5.out
        obtain ⟨bb, ha, hB, hcell⟩ := hce 0 (.string x) rfl
        cases hv
        subst ha
        exact .inr ⟨by go_num, x, bb, c5, rfl, hx, hcell, (hb2.out.alloc (by omega) _).trans hb5.out⟩
      case measure => simp [intOf]
    · have kj := fun W hW => Any.strings_Join_one Tryz.lays156 Tryz.Builder_Extra_156 B 0 cap x ⟨#[32]⟩ W hW
      have z1 : decide (1000 < ((x.size : Nat) : Int)) = false := decide_eq_false (by omega)
      replace kj := Lib.hid kj
      replace hb := Lib.hid hb
      clear c0 c1 c2 c3 c4
      go_wp2_with fail
      refine (kj.out _ hcx).mono ?_
      rintro e w2 ⟨rfl, hw2⟩
      subst hw2
      go_wp2
      go_ret2
      exact ⟨x, rfl, hb.out⟩
end Go.Proofs.YtaplaoelamnoiaaGreatDoor

/- What a line says: words read as an expression (M.pExpr); expressions as values in memory. No condition. -/
namespace Go.Proofs.YtaplaoelamnoiaaGreatDoor
open Go.RowKit

/-- An expression of the language: what the four laws' lines have. -/
inductive Ex where
  | nums (l : List Int)
  | name (s : ByteArray)
  | one (o f g : Int) (r : Ex)
  | two (l : Ex) (o f g : Int) (r : Ex)
  | pick (e b : Ex)

namespace M
def kindAt (ts : List Tok) (i : Nat) : Int := match ts[i]? with | some t => t.kind | none => 0
def fnOf (ts : List Tok) (i : Nat) : Int := match ts[i]? with | some t => t.fn | none => 0
def numOf (ts : List Tok) (i : Nat) : Int := match ts[i]? with | some t => t.num | none => 0
def textOf (ts : List Tok) (i : Nat) : ByteArray := match ts[i]? with | some t => t.text | none => noText
def pFun (ts : List Tok) (i : Nat) : Option ((Int × Int × Int) × Nat) :=
  if kindAt ts i = 11 then (if kindAt ts (i + 1) = 12 ∧ kindAt ts (i + 2) = 4 then some ((3, fnOf ts (i + 2), 0), i + 3) else none)
  else if kindAt ts i = 4 then
    (if kindAt ts (i + 1) = 13 ∨ kindAt ts (i + 1) = 12 then none
     else if kindAt ts (i + 1) = 4 then
       (if fnOf ts (i + 1) = 33 then some ((1, fnOf ts i, 0), i + 2) else if fnOf ts (i + 1) = 34 then none else some ((0, fnOf ts i, 0), i + 1))
     else some ((0, fnOf ts i, 0), i + 1))
  else none
def pNums (ts : List Tok) : Nat → Nat → List Int × Nat
  | 0, i => ([], i)
  | n + 1, i => if kindAt ts i = 1 then (numOf ts i :: (pNums ts n (i + 1)).1, (pNums ts n (i + 1)).2) else ([], i)
def pAtom (rc : Nat → Option (Ex × Nat)) (ts : List Tok) (i : Nat) : Option (Ex × Nat) :=
  if kindAt ts i = 1 then some (.nums (pNums ts (ts.length - i) i).1, (pNums ts (ts.length - i) i).2)
  else if kindAt ts i = 3 then some (.name (textOf ts i), i + 1)
  else if kindAt ts i = 5 then
    match rc (i + 1) with
    | some (e, j) => if kindAt ts j = 6 then some (e, j + 1) else none
    | none => none
  else none
def pPicks (rc : Nat → Option (Ex × Nat)) (ts : List Tok) : Nat → Ex → Nat → Option (Ex × Nat)
  | 0, _, _ => none
  | n + 1, e, i =>
    if kindAt ts i = 7 then
      match rc (i + 1) with
      | some (b, j) => if kindAt ts j = 8 then pPicks rc ts n (.pick e b) (j + 1) else none
      | none => none
    else some (e, i)
def pTerm (rc : Nat → Option (Ex × Nat)) (ts : List Tok) (i : Nat) : Option (Ex × Nat) :=
  match pAtom rc ts i with
  | some (e, j) => pPicks rc ts 3 e j
  | none => none
def starts (ts : List Tok) (i : Nat) : Bool := kindAt ts i == 4 || kindAt ts i == 11
def odd (ts : List Tok) (i : Nat) : Bool := kindAt ts i == 14 || kindAt ts i == 20
def pExpr (ts : List Tok) : Nat → Nat → Option (Ex × Nat)
  | 0, _ => none
  | n + 1, i =>
    if odd ts i = true then none
    else if starts ts i = true then
      match pFun ts i with
      | some ((o, f, g), j) => (match pExpr ts n j with | some (r, k) => some (.one o f g r, k) | none => none)
      | none => none
    else match pTerm (pExpr ts n) ts i with
      | none => none
      | some (e, j) =>
        if odd ts j = true then none
        else if starts ts j = true then
          match pFun ts j with
          | some ((o, f, g), k) => (match pExpr ts n k with | some (r, q) => some (.two e o f g r, q) | none => none)
          | none => none
        else some (e, j)
end M

/-- An expression as a value; its memory lies in blocks from B on. -/
def ExV (B : Nat) (w : World) : Ex → Value → Prop
  | .nums l, v => ∃ sv, v = .iface 150 (.agg #[sv]) ∧ Own w B sv l
  | .name s, v => v = .iface 88 (.agg #[.string s])
  | .one o f g r, v => ∃ vr, v = .iface 128 (.agg #[.int .i64 o, .int .i64 f, .int .i64 g, .int .i64 0, .slice none 0 0, vr]) ∧ ExV B w r vr
  | .two l o f g r, v => ∃ vl vr, v = .iface 130 (.agg #[vl, .int .i64 o, .int .i64 f, .int .i64 g, .int .i64 0, .slice none 0 0, vr]) ∧ ExV B w l vl ∧ ExV B w r vr
  | .pick e b, v => ∃ ve vb a c, v = .iface 147 (.agg #[ve, .slice (some ⟨a, 0, none⟩) 1 c]) ∧ B ≤ a ∧ w.cell? ⟨a, 0, none⟩ = some vb ∧ ExV B w e ve ∧ ExV B w b vb
theorem ExV.same {B : Nat} {w w' : World} (hh : ∀ b, B ≤ b → b < w.heap.size → w'.heap[b]? = w.heap[b]?) : ∀ {e : Ex} {v : Value}, ExV B w e v → ExV B w' e v := by
  intro e
  induction e with
  | nums l => intro v h; obtain ⟨sv, hv, ho⟩ := h; exact ⟨sv, hv, ownE_same ho hh⟩
  | name s => intro v h; exact h
  | one o f g r ih => intro v h; obtain ⟨vr, hv, hr⟩ := h; exact ⟨vr, hv, ih hr⟩
  | two l o f g r ihl ihr => intro v h; obtain ⟨vl, vr, hv, h1, h2⟩ := h; exact ⟨vl, vr, hv, ihl h1, ihr h2⟩
  | pick e b ihe ihb =>
    intro v h
    obtain ⟨ve, vb, a, c, hv, hB, hc, h1, h2⟩ := h
    exact ⟨ve, vb, a, c, hv, hB, (cell_of_eq (hh a hB (World.block_lt_of_cell? _ _ hc)) 0).trans hc, ihe h1, ihb h2⟩
/-- An expression is an interface value. -/
theorem ExV.face {B : Nat} {w : World} {e : Ex} {v : Value} (h : ExV B w e v) : ∃ T x, v = .iface T x := by
  cases e with
  | nums l => obtain ⟨sv, hv, -⟩ := h; exact ⟨_, _, hv⟩
  | name s => exact ⟨_, _, h⟩
  | one o f g r => obtain ⟨vr, hv, -⟩ := h; exact ⟨_, _, hv⟩
  | two l o f g r => obtain ⟨vl, vr, hv, -⟩ := h; exact ⟨_, _, hv⟩
  | pick e b => obtain ⟨ve, vb, a, c, hv, -⟩ := h; exact ⟨_, _, hv⟩
end Go.Proofs.YtaplaoelamnoiaaGreatDoor
