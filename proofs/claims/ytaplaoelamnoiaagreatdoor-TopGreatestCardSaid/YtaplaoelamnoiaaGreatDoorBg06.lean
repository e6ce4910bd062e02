/- Texts that lie in one file: what is plain, rows, boxes, squares, and what is known of a world. No condition. -/
import Derived.Test.YtaplaoelamnoiaaGreatDoorBg21
import Derived.Test.YtaplaoelamnoiaaGreatDoorTzShelf
import Derived.Lib.AtoiErrMem
/- The reader's method number, without a sign; the functions and the signs that runes are. Condition: the reader lies. -/
namespace Go.Proofs.YtaplaoelamnoiaaGreatDoor
open Go.RowKit

theorem set5_block (w : World) (N : Nat) (a b c d e : Value) {k : Nat} (h : k ≠ N) : (((((w.setCell ⟨N, 0, none⟩ a).setCell ⟨N, 1, none⟩ b).setCell ⟨N, 2, none⟩ c).setCell ⟨N, 3, none⟩ d).setCell ⟨N, 4, none⟩ e).heap[k]? = w.heap[k]? := by
  rw [Below.heap_setCell _ _ _ k h, Below.heap_setCell _ _ _ k h, Below.heap_setCell _ _ _ k h, Below.heap_setCell _ _ _ k h, Below.heap_setCell _ _ _ k h]
theorem set5_below {B : Nat} {w w' : World} (h : Below B w w') {N : Nat} (hN : B ≤ N) (a b c d e : Value) : Below B w (((((w'.setCell ⟨N, 0, none⟩ a).setCell ⟨N, 1, none⟩ b).setCell ⟨N, 2, none⟩ c).setCell ⟨N, 3, none⟩ d).setCell ⟨N, 4, none⟩ e) :=
  ((((h.setCell (by exact hN) _).setCell (by exact hN) _).setCell (by exact hN) _).setCell (by exact hN) _).setCell (by exact hN) _
theorem extract_le (s : ByteArray) (a b : Nat) : (s.extract a b).size ≤ s.size := by rw [ByteArray.size_extract]; omega

set_option maxRecDepth 20000 in
set_option maxHeartbeats 4000000 in
theorem number_any (g : Nat) (s : ByteArray) (p : Nat) (wv : Value) (w : World) (a v : Int) (h : Rd g s p wv w) (hp : p ≤ s.size) (hs : s.size ≤ 1000) (hv : Lib.parseIntB 64 (s.extract p (M.ends M.dig s p)).data.toList = .ok v) :
    Calls Tryz.prog 47 #[.pointer (some ⟨g, 0, none⟩), .int .i64 a, .bool false] w fun e w' =>
      e = .returned (.agg #[.int .i64 1, .int .i64 0, .int .i64 v, .string noText, .int .i64 a]) ∧ Rd g s (M.ends M.dig s p) wv w' ∧ But g w w' ∧ Below g w w' := by
  have hgl := h.lt
  have hN : Rd g s p wv (w.alloc (.cells #[.int .i64 0, .int .i64 0, .int .i64 0, .string noText, .int .i64 0] 82)) := h.same (heap_alloc_old _ _ hgl)
  have hB := boxC_alloc w #[.int .i64 0, .int .i64 0, .int .i64 0, .string noText, .int .i64 0] 82
  have kw := while_digit g s p wv _ hN hp hs
  have hq1 := (Below.refl w.heap.size w).alloc (Nat.le_refl _) (.cells #[.int .i64 0, .int .i64 0, .int .i64 0, .string noText, .int .i64 0] 82)
  have hq2 := (Below.refl g w).alloc (by omega) (.cells #[.int .i64 0, .int .i64 0, .int .i64 0, .string noText, .int .i64 0] 82)
  have hsz : w.heap.size < (w.alloc (.cells #[.int .i64 0, .int .i64 0, .int .i64 0, .string noText, .int .i64 0] 82)).heap.size := by simp
  have kp := fun W => Tryz.strconv_ParseInt_10_at64_ok (s.extract p (M.ends M.dig s p)) (by have := extract_le s p (M.ends M.dig s p); omega) v hv W
  replace kp := Lib.hid kp
  replace kw := Lib.hid kw
  replace hv := Lib.hid hv
  replace hB := Lib.hid hB
  replace hq1 := Lib.hid hq1
  replace hq2 := Lib.hid hq2
  clear h hN
  try dsimp only [noText] at *
  go_enter Tryz.func47, Tryz.ntmps47
  go_wp2_with fail
  refine kw.out.mono ?_
  rintro e w1 ⟨rfl, hR1, hBu1, hBe1, hle⟩
  have hB1 := hB.out.same (hBu1 w.heap.size hsz (by omega))
  have hs1 := hBe1.size
  have hBu := (But.of_below (g := g) hq1.out).trans hBu1 (by omega)
  have hBe := hq2.out.trans hBe1
  clear hq1 hq2 hB hBu1 hBe1
  go_wp2_with fail
  refine (kp.out w1).mono ?_
  rintro e w2 ⟨rfl, hw2⟩
  have hb2 : Below w1.heap.size w1 w2 := by
    rcases hw2 with rfl | ⟨t, rfl⟩
    · exact Below.refl _ _
    · exact Lib.bytesWorld_below _ _ _
  have hl1 := hR1.lt
  have hR2 := hR1.same (hb2.block g hl1)
  have hB2 := hB1.same (hb2.block _ (by omega))
  have hBu2 := hBu.below hb2 (by omega)
  have hBe2 := hBe.trans (hb2.mono (by omega))
  clear hw2 hb2 hB1 hR1
  obtain ⟨z0, y0⟩ := hB2 0 _ rfl
  obtain ⟨z1, y1⟩ := hB2 1 _ rfl
  obtain ⟨z2, y2⟩ := hB2 2 _ rfl
  obtain ⟨z3, y3⟩ := hB2 3 _ rfl
  obtain ⟨z4, y4⟩ := hB2 4 _ rfl
  go_wp2
  refine bodyPost_ret (v := .agg #[.int .i64 1, .int .i64 0, .int .i64 v, .string ⟨#[]⟩, .int .i64 a]) (by simp [results, Tryz.results47, go_sem, cell?_set_same, z0, z1, z2, z3, z4]) rfl ?_
  refine ⟨rfl, hR2.same (set5_block _ _ _ _ _ _ _ (by omega)), fun b hb hne => (set5_block _ _ _ _ _ _ _ (by omega)).trans (hBu2 b hb hne), set5_below hBe2 (by omega) _ _ _ _ _⟩

namespace M
/-- The function of a rune. -/
def fnAt (c : Int) : Option Nat := (List.range 34).find? fun j => glyph ((j : Int) + 1) == c
/-- The sign of a rune, less 5. -/
def signAt (c : Int) : Option Nat := (List.range 16).find? fun j => sign ((j : Int) + 5) == c
end M
theorem find_range {n : Nat} {q : Nat → Bool} {k : Nat} (h : (List.range n).find? q = some k) : k < n ∧ q k = true ∧ ∀ j, j < k → q j = false := by
  have h1 := List.find?_some h
  have h2 := List.mem_of_find?_eq_some h
  refine ⟨List.mem_range.1 h2, h1, fun j hj => ?_⟩
  rw [List.find?_eq_some_iff_getElem] at h
  obtain ⟨_, i, hi, he, hlt⟩ := h
  simp only [List.getElem_range] at he hlt
  subst he
  have := hlt j hj
  simpa using this
theorem find_none {n : Nat} {q : Nat → Bool} (h : (List.range n).find? q = none) : ∀ j, j < n → q j = false := fun j hj => by
  have := List.find?_eq_none.1 h j (List.mem_range.2 hj)
  simpa using this

set_option maxHeartbeats 4000000 in
theorem fnOf_some (c : Int) (k : Nat) (w : World) (h : M.fnAt c = some k) : Calls Tryz.prog 51 #[.int .i32 c] w fun e w' => e = .returned (.tuple #[.int .i64 ((k : Int) + 1), .bool true]) ∧ w = w' := by
  obtain ⟨hk, hq, hlt⟩ := find_range h
  have hlt := Lib.hid hlt
  replace h := Lib.hid h
  have he : M.glyph ((k : Int) + 1) = c := beq_iff_eq.1 hq
  clear hq
  go_enter Tryz.func51, Tryz.ntmps51
  go_wp2
  go_loop [4] (fun v => ∃ j : Nat, j ≤ k ∧ v = .int .i64 ((j : Int) + 1)) (fun v => 40 - (intOf v).toNat)
  case atStart => exact ⟨0, Nat.zero_le _, rfl⟩
  case round =>
    obtain ⟨j, hj, rfl⟩ := hrel
    have hg := Lib.hid (glyphOf_any ((j : Int) + 1) (by omega) (by omega) w)
    by_cases hjk : j < k
    · have hne := hlt.out j hjk
      replace hlt := 0
      go_wp2_with fail
      refine hg.out.mono ?_
      rintro e w1 ⟨rfl, rfl⟩
      go_wp2
      go_round
      case rel => exact ⟨j + 1, by omega, by go_num⟩
      case measure => simp [intOf]; omega
    · obtain rfl : j = k := by omega
      have heq : (M.glyph ((j : Int) + 1) == c) = true := by rw [he]; simp
      replace he := Lib.hid he
      go_wp2_with fail
      refine hg.out.mono ?_
      rintro e w1 ⟨rfl, rfl⟩
      go_wp2
      go_ret2
      exact ⟨rfl, rfl⟩
set_option maxHeartbeats 4000000 in
theorem fnOf_none (c : Int) (w : World) (h : M.fnAt c = none) : Calls Tryz.prog 51 #[.int .i32 c] w fun e w' => e = .returned (.tuple #[.int .i64 0, .bool false]) ∧ w = w' := by
  have hlt := Lib.hid (find_none h)
  replace h := Lib.hid h
  go_enter Tryz.func51, Tryz.ntmps51
  go_wp2
  go_loop [4] (fun v => ∃ j : Nat, j ≤ 34 ∧ v = .int .i64 ((j : Int) + 1)) (fun v => 40 - (intOf v).toNat)
  case atStart => exact ⟨0, Nat.zero_le _, rfl⟩
  case round =>
    obtain ⟨j, hj, rfl⟩ := hrel
    by_cases hjk : j < 34
    · have hg := Lib.hid (glyphOf_any ((j : Int) + 1) (by omega) (by omega) w)
      have hne := hlt.out j hjk
      replace hlt := 0
      go_wp2_with fail
      refine hg.out.mono ?_
      rintro e w1 ⟨rfl, rfl⟩
      go_wp2
      go_round
      case rel => exact ⟨j + 1, by omega, by go_num⟩
      case measure => simp [intOf]; omega
    · obtain rfl : j = 34 := by omega
      go_wp2
      go_ret2
      exact ⟨rfl, rfl⟩
end Go.Proofs.YtaplaoelamnoiaaGreatDoor

/- The reader's method word: numbers, names, signs. Condition: the reader lies; the tables of utf8 are laid. -/
namespace Go.Proofs.YtaplaoelamnoiaaGreatDoor
open Go.RowKit

theorem utf8_same {w w' : World} (h : Lib.Utf8Tabs 0 1 w) (e : ∀ b, b < 2 → w'.heap[b]? = w.heap[b]?) : Lib.Utf8Tabs 0 1 w' :=
  ⟨fun c hc => (cell_of_eq (e 0 (by omega)) c).trans (h.1 c hc), fun i hi => ⟨(cell_of_eq (e 1 (by omega)) _).trans (h.2 i hi).1, (cell_of_eq (e 1 (by omega)) _).trans (h.2 i hi).2⟩⟩
/-- How the world stands in the midst of a call of word: w at its start, W now. -/
def WSt (g : Nat) (s : ByteArray) (p : Nat) (wv : Value) (N : Nat) (vs : List Value) (w W : World) : Prop :=
  Rd g s p wv W ∧ BoxC N vs W ∧ But g w W ∧ Below g w W ∧ w.heap.size ≤ N ∧ N < W.heap.size ∧ g < w.heap.size ∧ Lib.Utf8Tabs 0 1 W ∧ 2 ≤ g
theorem WSt.step {g : Nat} {s : ByteArray} {p : Nat} {wv : Value} {N : Nat} {vs : List Value} {w W W2 : World} (h : WSt g s p wv N vs w W) (k : Below W.heap.size W W2) : WSt g s p wv N vs w W2 := by
  obtain ⟨h1, h2, h3, h4, h5, h6, h7, h8, h9⟩ := h
  have hs := h4.size
  have ks := k.size
  exact ⟨h1.same (k.block g (by omega)), h2.same (k.block N h6), h3.below k hs, h4.trans (k.mono (by omega)), h5, by omega, h7, utf8_same h8 fun b hb => k.block b (by omega), h9⟩
theorem WSt.drewN {g : Nat} {s : ByteArray} {p : Nat} {wv : Value} {N : Nat} {vs : List Value} {w W : World} (h : WSt g s p wv N vs w W) (n : Nat) : WSt g s p wv N vs w (W.drewN n) := by
  obtain ⟨h1, h2, h3, h4, h5, h6, h7, h8, h9⟩ := h
  exact ⟨h1, h2, h3, below_drewN h4 n, h5, h6, h7, h8, h9⟩
theorem WSt.pos {g : Nat} {s : ByteArray} {p q : Nat} {wv : Value} {N : Nat} {vs : List Value} {w W W2 : World} (h : WSt g s p wv N vs w W) (hR : Rd g s q wv W2) (hBu : But g W W2) (hBe : Below g W W2) : WSt g s q wv N vs w W2 := by
  obtain ⟨h1, h2, h3, h4, h5, h6, h7, h8, h9⟩ := h
  have hs := h4.size
  have ks := hBe.size
  exact ⟨hR, h2.same (hBu N h6 (by omega)), h3.trans hBu hs, h4.trans hBe, h5, by omega, h7, utf8_same h8 fun b hb => hBe.block b (by omega), h9⟩
theorem WSt.start {g : Nat} {s : ByteArray} {p : Nat} {wv : Value} {w : World} (h : Rd g s p wv w) (hT : Lib.Utf8Tabs 0 1 w) (hg : 2 ≤ g) (vs : Array Value) (t : TypeId) : WSt g s p wv w.heap.size vs.toList w (w.alloc (.cells vs t)) := by
  have hl := h.lt
  have e : ∀ b, b < w.heap.size → (w.alloc (.cells vs t)).heap[b]? = w.heap[b]? := fun b hb => heap_alloc_old _ _ hb
  exact ⟨h.same (e g hl), boxC_alloc w vs t, fun b hb _ => e b hb, (Below.refl g w).alloc (by omega) _, Nat.le_refl _, by simp, hl, utf8_same hT fun b hb => e b (by omega), hg⟩
/-- Behind the five stores of the answer. -/
theorem WSt.done {g : Nat} {s : ByteArray} {p : Nat} {wv : Value} {N : Nat} {vs : List Value} {w W : World} (h : WSt g s p wv N vs w W) (a b c d e : Value) :
    Rd g s p wv (((((W.setCell ⟨N, 0, none⟩ a).setCell ⟨N, 1, none⟩ b).setCell ⟨N, 2, none⟩ c).setCell ⟨N, 3, none⟩ d).setCell ⟨N, 4, none⟩ e) ∧
    But g w (((((W.setCell ⟨N, 0, none⟩ a).setCell ⟨N, 1, none⟩ b).setCell ⟨N, 2, none⟩ c).setCell ⟨N, 3, none⟩ d).setCell ⟨N, 4, none⟩ e) ∧
    Below g w (((((W.setCell ⟨N, 0, none⟩ a).setCell ⟨N, 1, none⟩ b).setCell ⟨N, 2, none⟩ c).setCell ⟨N, 3, none⟩ d).setCell ⟨N, 4, none⟩ e) := by
  obtain ⟨h1, h2, h3, h4, h5, h6, h7, h8, h9⟩ := h
  exact ⟨h1.same (set5_block _ _ _ _ _ _ _ (by omega)), fun k hk hne => (set5_block _ _ _ _ _ _ _ (by omega)).trans (h3 k hk hne), set5_below h4 (by omega) _ _ _ _ _⟩
theorem u8_wrap {c : Nat} (h : c < 128) : IntKind.u8.wrap ((c : Nat) : Int) = ((c : Nat) : Int) := by
  unfold IntKind.wrap
  simp only [IntKind.bits, IntKind.signed, Bool.false_and, Bool.false_eq_true, if_false]
  omega

set_option maxRecDepth 20000 in
set_option maxHeartbeats 8000000 in
theorem word_num (g : Nat) (s : ByteArray) (p : Nat) (wv : Value) (w : World) (h : Rd g s p wv w) (hp : p ≤ s.size) (hs : s.size ≤ 1000) (hT : Lib.Utf8Tabs 0 1 w) (hg : 2 ≤ g) (c k : Nat) (hd : Lib.decodeGo (s.extract p s.size) = (c, k)) (hc : c < 128) (hdig : M.dig c = true) (v : Int) (hv : Lib.parseIntB 64 (s.extract p (M.ends M.dig s p)).data.toList = .ok v) :
    Calls Tryz.prog 35 #[.pointer (some ⟨g, 0, none⟩)] w fun e w' =>
      e = .returned (.agg #[.int .i64 1, .int .i64 0, .int .i64 v, .string ⟨#[]⟩, .int .i64 p]) ∧ Rd g s (M.ends M.dig s p) wv w' ∧ But g w w' ∧ Below g w w' := by
  have W0 := WSt.start h hT hg #[.int .i64 0, .int .i64 0, .int .i64 0, .string ⟨#[]⟩, .int .i64 0] 82
  have kr := fun W hW => rest_any g s p wv W hW hp
  have kd := fun W hW => Tryz.utf8_DecodeRuneInString (s.extract p s.size) W hW
  rw [hd] at kd
  dsimp only at kd
  replace kr := Lib.hid kr
  replace kd := Lib.hid kd
  replace hd := Lib.hid hd
  obtain ⟨W1, hW1⟩ : ∃ W1 : World, W1 = w.alloc (.cells #[.int .i64 0, .int .i64 0, .int .i64 0, .string ⟨#[]⟩, .int .i64 0] 82) := ⟨_, rfl⟩
  rw [← hW1] at W0
  have hW1' := hW1.symm
  replace hW1 := Lib.hid hW1
  have e1 : (decide (((c : Nat) : Int) < 128)) = true := decide_eq_true (by omega)
  have e2 := u8_wrap hc
  have kg := digit_any ((c : Nat) : Int)
  rw [hdig] at kg
  have kn := fun W hW => number_any g s p wv W ((p : Nat) : Int) v hW hp hs hv
  replace kg := Lib.hid kg
  replace kn := Lib.hid kn
  replace hdig := Lib.hid hdig
  replace hv := Lib.hid hv
  clear h hT
  obtain ⟨⟨c0, c1, c2⟩, f1, f2⟩ := id W0.1
  replace W0 := Lib.hid W0
  go_enter Tryz.func35, Tryz.ntmps35
  go_wp2_with fail
  refine (kr.out _ W0.out.1).mono ?_
  rintro e W2 ⟨rfl, n1, rfl⟩
  have W2 := Lib.hid (W0.out.drewN n1)
  clear c0 c1 c2 f1 f2
  go_wp2_with fail
  refine (kd.out _ W2.out.2.2.2.2.2.2.2.1).mono ?_
  rintro e w3 ⟨rfl, hb3⟩
  have W3 := Lib.hid (W2.out.step hb3)
  clear hb3 kr kd
  go_wp2_with fail
  refine (kg.out _).mono ?_
  rintro e w4 ⟨rfl, rfl⟩
  go_wp2_with fail
  refine (kn.out _ W3.out.1).mono ?_
  rintro e w5 ⟨rfl, hR, hBu, hBe⟩
  have W5 := Lib.hid (W3.out.pos hR hBu hBe)
  clear hR hBu hBe
  obtain ⟨z0, y0⟩ := W5.out.2.1 0 _ rfl
  obtain ⟨z1, y1⟩ := W5.out.2.1 1 _ rfl
  obtain ⟨z2, y2⟩ := W5.out.2.1 2 _ rfl
  obtain ⟨z3, y3⟩ := W5.out.2.1 3 _ rfl
  obtain ⟨z4, y4⟩ := W5.out.2.1 4 _ rfl
  go_wp2
  refine bodyPost_ret (v := .agg #[.int .i64 1, .int .i64 0, .int .i64 v, .string ⟨#[]⟩, .int .i64 p]) (by simp [results, Tryz.results35, go_sem, cell?_set_same, z0, z1, z2, z3, z4]) rfl ?_
  obtain ⟨r1, r2, r3⟩ := W5.out.done (.int .i64 1) (.int .i64 0) (.int .i64 v) (.string ⟨#[]⟩) (.int .i64 p)
  exact ⟨rfl, r1, r2, r3⟩


set_option maxRecDepth 20000 in
set_option maxHeartbeats 8000000 in
theorem word_name (g : Nat) (s : ByteArray) (p : Nat) (wv : Value) (w : World) (h : Rd g s p wv w) (hp : p ≤ s.size) (hs : s.size ≤ 1000) (hT : Lib.Utf8Tabs 0 1 w) (hg : 2 ≤ g) (c k : Nat) (hd : Lib.decodeGo (s.extract p s.size) = (c, k)) (hc : c < 128) (hdig : M.dig c = false) (hlet : M.lett c = true) (h12 : (s.extract p (M.ends M.inn s p)).size ≤ 12) :
    Calls Tryz.prog 35 #[.pointer (some ⟨g, 0, none⟩)] w fun e w' =>
      e = .returned (.agg #[.int .i64 3, .int .i64 0, .int .i64 0, .string (s.extract p (M.ends M.inn s p)), .int .i64 p]) ∧ Rd g s (M.ends M.inn s p) wv w' ∧ But g w w' ∧ Below g w w' := by
  have W0 := WSt.start h hT hg #[.int .i64 0, .int .i64 0, .int .i64 0, .string ⟨#[]⟩, .int .i64 0] 82
  have kr := fun W hW => rest_any g s p wv W hW hp
  have kd := fun W hW => Tryz.utf8_DecodeRuneInString (s.extract p s.size) W hW
  rw [hd] at kd
  dsimp only at kd
  replace kr := Lib.hid kr
  replace kd := Lib.hid kd
  replace hd := Lib.hid hd
  obtain ⟨W1, hW1⟩ : ∃ W1 : World, W1 = w.alloc (.cells #[.int .i64 0, .int .i64 0, .int .i64 0, .string ⟨#[]⟩, .int .i64 0] 82) := ⟨_, rfl⟩
  rw [← hW1] at W0
  have hW1' := hW1.symm
  replace hW1 := Lib.hid hW1
  have e1 : (decide (((c : Nat) : Int) < 128)) = true := decide_eq_true (by omega)
  have e2 := u8_wrap hc
  have kg := digit_any ((c : Nat) : Int)
  rw [hdig] at kg
  have kl := letter_any ((c : Nat) : Int)
  rw [hlet] at kl
  have kn := fun W hW => while_within g s p wv W hW hp hs
  obtain ⟨tx, htx⟩ : ∃ tx, tx = s.extract p (M.ends M.inn s p) := ⟨_, rfl⟩
  rw [← htx] at h12 ⊢
  simp only [← htx] at kn
  replace htx := Lib.hid htx
  have e3 : decide (12 < ((tx.size : Nat) : Int)) = false := decide_eq_false (by omega)
  replace kg := Lib.hid kg
  replace kl := Lib.hid kl
  replace kn := Lib.hid kn
  replace hdig := Lib.hid hdig
  replace hlet := Lib.hid hlet
  clear h hT
  obtain ⟨⟨c0, c1, c2⟩, f1, f2⟩ := id W0.1
  replace W0 := Lib.hid W0
  go_enter Tryz.func35, Tryz.ntmps35
  go_wp2_with fail
  refine (kr.out _ W0.out.1).mono ?_
  rintro e W2 ⟨rfl, n1, rfl⟩
  have W2 := Lib.hid (W0.out.drewN n1)
  clear c0 c1 c2 f1 f2
  go_wp2_with fail
  refine (kd.out _ W2.out.2.2.2.2.2.2.2.1).mono ?_
  rintro e w3 ⟨rfl, hb3⟩
  have W3 := Lib.hid (W2.out.step hb3)
  clear hb3 kr kd
  go_wp2_with fail
  refine (kg.out _).mono ?_
  rintro e w4 ⟨rfl, rfl⟩
  go_wp2_with fail
  refine (kl.out _).mono ?_
  rintro e w4 ⟨rfl, rfl⟩
  go_wp2_with fail
  refine (kn.out _ W3.out.1).mono ?_
  rintro e w5 ⟨rfl, hR, hBu, hBe, -⟩
  have W5 := Lib.hid (W3.out.pos hR hBu hBe)
  clear hR hBu hBe
  obtain ⟨z0, y0⟩ := W5.out.2.1 0 _ rfl
  obtain ⟨z1, y1⟩ := W5.out.2.1 1 _ rfl
  obtain ⟨z2, y2⟩ := W5.out.2.1 2 _ rfl
  obtain ⟨z3, y3⟩ := W5.out.2.1 3 _ rfl
  obtain ⟨z4, y4⟩ := W5.out.2.1 4 _ rfl
  go_wp2
  refine bodyPost_ret (v := .agg #[.int .i64 3, .int .i64 0, .int .i64 0, .string tx, .int .i64 p]) (by simp [results, Tryz.results35, go_sem, cell?_set_same, z0, z1, z2, z3, z4]) rfl ?_
  obtain ⟨r1, r2, r3⟩ := W5.out.done (.int .i64 3) (.int .i64 0) (.int .i64 0) (.string tx) (.int .i64 p)
  exact ⟨rfl, r1, r2, r3⟩


set_option maxRecDepth 20000 in
set_option maxHeartbeats 8000000 in
theorem word_fn (g : Nat) (s : ByteArray) (p : Nat) (wv : Value) (w : World) (h : Rd g s p wv w) (hp : p ≤ s.size) (hs : s.size ≤ 1000) (hT : Lib.Utf8Tabs 0 1 w) (hg : 2 ≤ g) (c k : Nat) (hd : Lib.decodeGo (s.extract p s.size) = (c, k)) (hnd : c < 128 → M.dig c = false ∧ M.lett c = false) (h175 : c ≠ 175) (h39 : c ≠ 39) (hpk : p + k ≤ s.size) (q : Nat) (hf : M.fnAt c = some q) :
    Calls Tryz.prog 35 #[.pointer (some ⟨g, 0, none⟩)] w fun e w' =>
      e = .returned (.agg #[.int .i64 4, .int .i64 ((q : Int) + 1), .int .i64 0, .string ⟨#[]⟩, .int .i64 p]) ∧ Rd g s (p + k) wv w' ∧ But g w w' ∧ Below g w w' := by
  have W0 := WSt.start h hT hg #[.int .i64 0, .int .i64 0, .int .i64 0, .string ⟨#[]⟩, .int .i64 0] 82
  have kr := fun W hW => rest_any g s p wv W hW hp
  have kd := fun W hW => Tryz.utf8_DecodeRuneInString (s.extract p s.size) W hW
  rw [hd] at kd
  dsimp only at kd
  replace kr := Lib.hid kr
  replace kd := Lib.hid kd
  replace hd := Lib.hid hd
  obtain ⟨W1, hW1⟩ : ∃ W1 : World, W1 = w.alloc (.cells #[.int .i64 0, .int .i64 0, .int .i64 0, .string ⟨#[]⟩, .int .i64 0] 82) := ⟨_, rfl⟩
  rw [← hW1] at W0
  have hW1' := hW1.symm
  replace hW1 := Lib.hid hW1
  have e175 : (((c : Nat) : Int) == 175) = false := by rw [beq_eq_false_iff_ne]; omega
  have e39 : (((c : Nat) : Int) == 39) = false := by rw [beq_eq_false_iff_ne]; omega
  have kg := digit_any ((c : Nat) : Int)
  have kl := letter_any ((c : Nat) : Int)
  replace kg := Lib.hid kg
  replace kl := Lib.hid kl
  have kf := fun W => fnOf_some ((c : Nat) : Int) q W hf
  have hq34 : q < 34 := (find_range hf).1
  replace kf := Lib.hid kf
  replace hf := Lib.hid hf
  clear h hT
  obtain ⟨⟨c0, c1, c2⟩, f1, f2⟩ := id W0.1
  replace W0 := Lib.hid W0
  go_enter Tryz.func35, Tryz.ntmps35
  go_wp2_with fail
  refine (kr.out _ W0.out.1).mono ?_
  rintro e W2 ⟨rfl, n1, rfl⟩
  have W2 := Lib.hid (W0.out.drewN n1)
  clear c0 c1 c2 f1 f2
  go_wp2_with fail
  refine (kd.out _ W2.out.2.2.2.2.2.2.2.1).mono ?_
  rintro e w3 ⟨rfl, hb3⟩
  have W3 := Lib.hid (W2.out.step hb3)
  clear hb3 kr kd
  obtain ⟨⟨c0, c1, c2⟩, f1, f2⟩ := id W3.out.1
  have W4 := Lib.hid (W3.out.pos (W3.out.1.setPos (p + k) (.int .i64 ((p : Nat) + (k : Nat) : Int)) (by simp)) (fun b hb hne => Below.heap_setCell _ _ _ b hne) ((Below.refl g w3).setCell (Nat.le_refl _) _))
  by_cases hc : c < 128
  · have e1 : (decide (((c : Nat) : Int) < 128)) = true := decide_eq_true (by omega)
    have e2 := u8_wrap hc
    have kg2 := kg.out
    have kl2 := kl.out
    rw [(hnd hc).1] at kg2
    rw [(hnd hc).2] at kl2
    replace kg2 := Lib.hid kg2
    replace kl2 := Lib.hid kl2
    replace hnd := Lib.hid hnd
    go_wp2_with fail
    refine (kg2.out _).mono ?_
    rintro e w4 ⟨rfl, rfl⟩
    go_wp2_with fail
    refine (kl2.out _).mono ?_
    rintro e w4 ⟨rfl, rfl⟩
    go_wp2_with fail
    refine (kf.out _).mono ?_
    rintro e w5 ⟨rfl, rfl⟩
    obtain ⟨z0, y0⟩ := W4.out.2.1 0 _ rfl
    obtain ⟨z1, y1⟩ := W4.out.2.1 1 _ rfl
    obtain ⟨z2, y2⟩ := W4.out.2.1 2 _ rfl
    obtain ⟨z3, y3⟩ := W4.out.2.1 3 _ rfl
    obtain ⟨z4, y4⟩ := W4.out.2.1 4 _ rfl
    go_wp2
    refine bodyPost_ret (v := .agg #[.int .i64 4, .int .i64 ((q : Int) + 1), .int .i64 0, .string ⟨#[]⟩, .int .i64 p]) (by simp [results, Tryz.results35, go_sem, cell?_set_same, z0, z1, z2, z3, z4]) rfl ?_
    obtain ⟨r1, r2, r3⟩ := W4.out.done (.int .i64 4) (.int .i64 ((q : Int) + 1)) (.int .i64 0) (.string ⟨#[]⟩) (.int .i64 p)
    exact ⟨rfl, r1, r2, r3⟩
  · have e1 : (decide (((c : Nat) : Int) < 128)) = false := decide_eq_false (by omega)
    replace hnd := Lib.hid hnd
    go_wp2_with fail
    refine (kf.out _).mono ?_
    rintro e w5 ⟨rfl, rfl⟩
    obtain ⟨z0, y0⟩ := W4.out.2.1 0 _ rfl
    obtain ⟨z1, y1⟩ := W4.out.2.1 1 _ rfl
    obtain ⟨z2, y2⟩ := W4.out.2.1 2 _ rfl
    obtain ⟨z3, y3⟩ := W4.out.2.1 3 _ rfl
    obtain ⟨z4, y4⟩ := W4.out.2.1 4 _ rfl
    go_wp2
    refine bodyPost_ret (v := .agg #[.int .i64 4, .int .i64 ((q : Int) + 1), .int .i64 0, .string ⟨#[]⟩, .int .i64 p]) (by simp [results, Tryz.results35, go_sem, cell?_set_same, z0, z1, z2, z3, z4]) rfl ?_
    obtain ⟨r1, r2, r3⟩ := W4.out.done (.int .i64 4) (.int .i64 ((q : Int) + 1)) (.int .i64 0) (.string ⟨#[]⟩) (.int .i64 p)
    exact ⟨rfl, r1, r2, r3⟩


set_option maxRecDepth 20000 in
set_option maxHeartbeats 8000000 in
theorem word_sign (g : Nat) (s : ByteArray) (p : Nat) (wv : Value) (w : World) (h : Rd g s p wv w) (hp : p ≤ s.size) (hs : s.size ≤ 1000) (hT : Lib.Utf8Tabs 0 1 w) (hg : 2 ≤ g) (c k : Nat) (hd : Lib.decodeGo (s.extract p s.size) = (c, k)) (hnd : c < 128 → M.dig c = false ∧ M.lett c = false) (h175 : c ≠ 175) (h39 : c ≠ 39) (hpk : p + k ≤ s.size) (q : Nat) (hf : M.fnAt c = none) (hsg : M.signAt c = some q) :
    Calls Tryz.prog 35 #[.pointer (some ⟨g, 0, none⟩)] w fun e w' =>
      e = .returned (.agg #[.int .i64 ((q : Int) + 5), .int .i64 0, .int .i64 0, .string ⟨#[]⟩, .int .i64 p]) ∧ Rd g s (p + k) wv w' ∧ But g w w' ∧ Below g w w' := by
  have W0 := WSt.start h hT hg #[.int .i64 0, .int .i64 0, .int .i64 0, .string ⟨#[]⟩, .int .i64 0] 82
  have kr := fun W hW => rest_any g s p wv W hW hp
  have kd := fun W hW => Tryz.utf8_DecodeRuneInString (s.extract p s.size) W hW
  rw [hd] at kd
  dsimp only at kd
  replace kr := Lib.hid kr
  replace kd := Lib.hid kd
  replace hd := Lib.hid hd
  obtain ⟨W1, hW1⟩ : ∃ W1 : World, W1 = w.alloc (.cells #[.int .i64 0, .int .i64 0, .int .i64 0, .string ⟨#[]⟩, .int .i64 0] 82) := ⟨_, rfl⟩
  rw [← hW1] at W0
  have hW1' := hW1.symm
  replace hW1 := Lib.hid hW1
  have e175 : (((c : Nat) : Int) == 175) = false := by rw [beq_eq_false_iff_ne]; omega
  have e39 : (((c : Nat) : Int) == 39) = false := by rw [beq_eq_false_iff_ne]; omega
  have kg := digit_any ((c : Nat) : Int)
  have kl := letter_any ((c : Nat) : Int)
  replace kg := Lib.hid kg
  replace kl := Lib.hid kl
  have kf := fun W => fnOf_none ((c : Nat) : Int) W hf
  obtain ⟨hq16, hqe, hlt⟩ := find_range hsg
  replace hlt := Lib.hid hlt
  replace kf := Lib.hid kf
  replace hf := Lib.hid hf
  replace hsg := Lib.hid hsg
  clear h hT
  obtain ⟨⟨c0, c1, c2⟩, f1, f2⟩ := id W0.1
  replace W0 := Lib.hid W0
  go_enter Tryz.func35, Tryz.ntmps35
  go_wp2_with fail
  refine (kr.out _ W0.out.1).mono ?_
  rintro e W2 ⟨rfl, n1, rfl⟩
  have W2 := Lib.hid (W0.out.drewN n1)
  clear c0 c1 c2 f1 f2
  go_wp2_with fail
  refine (kd.out _ W2.out.2.2.2.2.2.2.2.1).mono ?_
  rintro e w3 ⟨rfl, hb3⟩
  have W3 := Lib.hid (W2.out.step hb3)
  clear hb3 kr kd
  obtain ⟨⟨c0, c1, c2⟩, f1, f2⟩ := id W3.out.1
  have W4 := Lib.hid (W3.out.pos (W3.out.1.setPos (p + k) (.int .i64 ((p : Nat) + (k : Nat) : Int)) (by simp)) (fun b hb hne => Below.heap_setCell _ _ _ b hne) ((Below.refl g w3).setCell (Nat.le_refl _) _))
  by_cases hc : c < 128
  · have e1 : (decide (((c : Nat) : Int) < 128)) = true := decide_eq_true (by omega)
    have e2 := u8_wrap hc
    have kg2 := kg.out
    have kl2 := kl.out
    rw [(hnd hc).1] at kg2
    rw [(hnd hc).2] at kl2
    replace kg2 := Lib.hid kg2
    replace kl2 := Lib.hid kl2
    replace hnd := Lib.hid hnd
    go_wp2_with fail
    refine (kg2.out _).mono ?_
    rintro e w4 ⟨rfl, rfl⟩
    go_wp2_with fail
    refine (kl2.out _).mono ?_
    rintro e w4 ⟨rfl, rfl⟩
    go_wp2_with fail
    refine (kf.out _).mono ?_
    rintro e w5 ⟨rfl, hw5⟩
    subst hw5
    clear c0 c1 c2 f1 f2
    obtain ⟨W9, hW9⟩ : ∃ W9 : World, W9 = w3.setCell ⟨g, 1, none⟩ (.int .i64 ((p : Nat) + (k : Nat) : Int)) := ⟨_, rfl⟩
    rw [← hW9] at W4
    go_wp2
    rw [← hW9]
    replace hW9 := Lib.hid hW9
    go_loop [10] (fun v => ∃ j : Nat, j ≤ q ∧ v = .int .i64 ((j : Int) + 5)) (fun v => 40 - (intOf v).toNat)
    case atStart => exact ⟨0, Nat.zero_le _, rfl⟩
    case round =>
      obtain ⟨j, hj, rfl⟩ := hrel
      have hgg := Lib.hid (signOf_any ((j : Int) + 5) (by omega) (by omega) W9)
      by_cases hjk : j < q
      · have hne := hlt.out j hjk
        replace hlt := 0
        go_wp2_with fail
        refine hgg.out.mono ?_
        rintro e w1 ⟨rfl, rfl⟩
        go_wp2
        go_round
        case rel => exact ⟨j + 1, by omega, by go_num⟩
        case measure => simp [intOf]; omega
      · obtain rfl : j = q := by omega
        go_wp2_with fail
        refine hgg.out.mono ?_
        rintro e w1 ⟨rfl, rfl⟩
        obtain ⟨z0, y0⟩ := W4.out.2.1 0 _ rfl
        obtain ⟨z1, y1⟩ := W4.out.2.1 1 _ rfl
        obtain ⟨z2, y2⟩ := W4.out.2.1 2 _ rfl
        obtain ⟨z3, y3⟩ := W4.out.2.1 3 _ rfl
        obtain ⟨z4, y4⟩ := W4.out.2.1 4 _ rfl
        go_wp2
        refine bodyPost_ret (v := .agg #[.int .i64 ((j : Int) + 5), .int .i64 0, .int .i64 0, .string ⟨#[]⟩, .int .i64 p]) (by simp [results, Tryz.results35, go_sem, cell?_set_same, z0, z1, z2, z3, z4]) rfl ?_
        obtain ⟨r1, r2, r3⟩ := W4.out.done (.int .i64 ((j : Int) + 5)) (.int .i64 0) (.int .i64 0) (.string ⟨#[]⟩) (.int .i64 p)
        exact ⟨rfl, r1, r2, r3⟩
      
  · have e1 : (decide (((c : Nat) : Int) < 128)) = false := decide_eq_false (by omega)
    replace hnd := Lib.hid hnd
    go_wp2_with fail
    refine (kf.out _).mono ?_
    rintro e w5 ⟨rfl, hw5⟩
    subst hw5
    clear c0 c1 c2 f1 f2
    obtain ⟨W9, hW9⟩ : ∃ W9 : World, W9 = w3.setCell ⟨g, 1, none⟩ (.int .i64 ((p : Nat) + (k : Nat) : Int)) := ⟨_, rfl⟩
    rw [← hW9] at W4
    go_wp2
    rw [← hW9]
    replace hW9 := Lib.hid hW9
    go_loop [10] (fun v => ∃ j : Nat, j ≤ q ∧ v = .int .i64 ((j : Int) + 5)) (fun v => 40 - (intOf v).toNat)
    case atStart => exact ⟨0, Nat.zero_le _, rfl⟩
    case round =>
      obtain ⟨j, hj, rfl⟩ := hrel
      have hgg := Lib.hid (signOf_any ((j : Int) + 5) (by omega) (by omega) W9)
      by_cases hjk : j < q
      · have hne := hlt.out j hjk
        replace hlt := 0
        go_wp2_with fail
        refine hgg.out.mono ?_
        rintro e w1 ⟨rfl, rfl⟩
        go_wp2
        go_round
        case rel => exact ⟨j + 1, by omega, by go_num⟩
        case measure => simp [intOf]; omega
      · obtain rfl : j = q := by omega
        go_wp2_with fail
        refine hgg.out.mono ?_
        rintro e w1 ⟨rfl, rfl⟩
        obtain ⟨z0, y0⟩ := W4.out.2.1 0 _ rfl
        obtain ⟨z1, y1⟩ := W4.out.2.1 1 _ rfl
        obtain ⟨z2, y2⟩ := W4.out.2.1 2 _ rfl
        obtain ⟨z3, y3⟩ := W4.out.2.1 3 _ rfl
        obtain ⟨z4, y4⟩ := W4.out.2.1 4 _ rfl
        go_wp2
        refine bodyPost_ret (v := .agg #[.int .i64 ((j : Int) + 5), .int .i64 0, .int .i64 0, .string ⟨#[]⟩, .int .i64 p]) (by simp [results, Tryz.results35, go_sem, cell?_set_same, z0, z1, z2, z3, z4]) rfl ?_
        obtain ⟨r1, r2, r3⟩ := W4.out.done (.int .i64 ((j : Int) + 5)) (.int .i64 0) (.int .i64 0) (.string ⟨#[]⟩) (.int .i64 p)
        exact ⟨rfl, r1, r2, r3⟩
      


end Go.Proofs.YtaplaoelamnoiaaGreatDoor
