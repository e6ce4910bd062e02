/- The call turn.Flip on two axes that change places. Condition: an array with two axes that may be, in rows that lie as lists of ints. -/
import Derived.Test.YtiebknfmmanbiaaWkArr
import Derived.Test.YtiebknfmmanbiaaWkAxes
import Derived.Test.YtiebknfmmanbiaaBdB
import Derived.Test.YtiebknfmmanbiaaBdA
import Derived.Test.YtiebknfmmanbiaaOwnAt
import Derived.Test.YtiebknfmmanbiaaSqRow
import Derived.Test.YtiebknfmmanbiaaOutAt
import Derived.Deep.RegionHeld3
import Derived.Deep.Cut
import Derived.BigRegion
import Derived.Deep.QuietTactic
import Derived.BigQuiet
namespace Go.Proofs.Ytiebknfmmanbiaa
open Go.RowKit

namespace M
/-- The cells with rows and columns in each other's place. -/
def turned (m n : Nat) (d : List Int) : List Int := (List.range (m * n)).map fun q => d.getD ((q % m) * n + q / m) 0
end M
theorem turned_length (m n : Nat) (d : List Int) : (M.turned m n d).length = m * n := by simp [M.turned]

theorem axes_turn {m n : Int} {N : Int} (h : M.count [m, n] = .ok N) : M.axes [m, n] [1, 0] = .ok [n, m] := by
  unfold M.axes; rw [h]; rfl

/-- The array that is to be filled, and a room for its cells. -/
def FlipAt (W : World) (N : Nat) (ch : Bool) (sv : Value) (Bo : Nat) (wx : World) : Prop :=
  ∃ gd, wx.heap[gd]? = some (.cells (roomCells N) 3 (0, 0)) ∧ gd ≠ Bo ∧ W.heap.size ≤ gd ∧ W.heap.size ≤ Bo ∧
    (wx.cell? ⟨Bo, 0, none⟩ = some (.bool ch) ∧ wx.cell? ⟨Bo, 1, none⟩ = some sv ∧ wx.cell? ⟨Bo, 2, none⟩ = some (.slice (some ⟨gd, 0, none⟩) N N)) ∧ Below W.heap.size W wx

/-- The cells after t of them. -/
def turnF (m n : Nat) (d : List Int) (t : Nat) : List Int := (List.range (m * n)).map fun q => if (q % m) * n + q / m < t then d.getD ((q % m) * n + q / m) 0 else 0
theorem turnF_length (m n : Nat) (d : List Int) (t : Nat) : (turnF m n d t).length = m * n := by simp [turnF]
theorem turnF_zero (m n : Nat) (d : List Int) : turnF m n d 0 = List.replicate (m * n) 0 := by
  apply List.ext_getElem
  · simp [turnF]
  · intro q h1 h2; simp [turnF]
theorem turn_index {m n a0 a1 : Nat} (h0 : a0 < m) (h1 : a1 < n) : a0 + a1 * m < m * n ∧ (a0 + a1 * m) % m = a0 ∧ (a0 + a1 * m) / m = a1 := by
  have hk : (a1 + 1) * m ≤ n * m := Nat.mul_le_mul_right m h1
  rw [Nat.add_mul, Nat.one_mul, Nat.mul_comm n m] at hk
  refine ⟨by omega, ?_, ?_⟩
  · rw [Nat.add_mul_mod_self_right, Nat.mod_eq_of_lt h0]
  · rw [Nat.add_mul_div_right _ _ (by omega), Nat.div_eq_of_lt h0, Nat.zero_add]
theorem turnF_step {m n a0 a1 t : Nat} (d : List Int) (h0 : a0 < m) (h1 : a1 < n) (ht : t = a0 * n + a1) : (turnF m n d t).set (a0 + a1 * m) (d.getD t 0) = turnF m n d (t + 1) := by
  obtain ⟨k1, k2, k3⟩ := turn_index h0 h1
  apply List.ext_getElem
  · simp [turnF]
  · intro q g1 g2
    have hq : q < m * n := by rw [turnF_length] at g2; exact g2
    have hm : 0 < m := by omega
    simp only [turnF, List.getElem_set, List.getElem_map, List.getElem_range]
    by_cases e : a0 + a1 * m = q
    · rw [if_pos e, ← e, k2, k3, ← ht, if_pos (by omega)]
    · rw [if_neg e]
      have hne : q % m * n + q / m ≠ t := by
        intro he
        apply e
        have hqn : q / m < n := Nat.div_lt_of_lt_mul hq
        rw [ht] at he
        have e1 : (q % m * n + q / m) / n = q % m := by rw [Nat.mul_comm, Nat.mul_add_div (by omega), Nat.div_eq_of_lt hqn, Nat.add_zero]
        have e2 : (a0 * n + a1) / n = a0 := by rw [Nat.mul_comm, Nat.mul_add_div (by omega), Nat.div_eq_of_lt h1, Nat.add_zero]
        have e3 : q % m = a0 := by rw [← e1, he, e2]
        have e4 : q / m = a1 := by rw [e3] at he; omega
        have := Nat.div_add_mod q m
        rw [e3, e4, Nat.mul_comm] at this
        omega
      by_cases h : q % m * n + q / m < t
      · rw [if_pos h, if_pos (by omega)]
      · rw [if_neg h, if_neg (by omega)]
theorem turnF_end (m n : Nat) (d : List Int) : turnF m n d (m * n) = M.turned m n d := by
  unfold turnF M.turned
  apply List.map_congr_left
  intro q hq
  have hq := List.mem_range.1 hq
  have hm : 0 < m := Nat.pos_of_ne_zero fun e => by subst e; simp at hq
  have h1 : q / m < n := Nat.div_lt_of_lt_mul hq
  have h2 : q % m < m := Nat.mod_lt _ hm
  have h3 : (q % m + 1) * n ≤ m * n := Nat.mul_le_mul_right n h2
  rw [Nat.add_mul, Nat.one_mul] at h3
  rw [if_pos (by omega)]
/-- All blocks but two are as they were. -/
def But2 (g h : Nat) (w w' : World) : Prop := ∀ b, b < w.heap.size → b ≠ g → b ≠ h → w'.heap[b]? = w.heap[b]?
theorem But2.set {g h : Nat} {w w' : World} (k : But2 g h w w') {x : Nat} (hx : x = g ∨ x = h) (o : Nat) (v : Value) : But2 g h w (w'.setCell ⟨x, o, none⟩ v) := fun b hb h1 h2 => (Below.heap_setCell w' _ _ b (by rcases hx with rfl | rfl <;> assumption)).trans (k b hb h1 h2)
theorem But2.cell {g h : Nat} {w w' : World} (k : But2 g h w w') {b o : Nat} {v : Value} (hc : w.cell? ⟨b, o, none⟩ = some v) (h1 : b ≠ g) (h2 : b ≠ h) : w'.cell? ⟨b, o, none⟩ = some v :=
  (cell_of_eq (k b (World.block_lt_of_cell? w _ hc) h1 h2) o).trans hc
theorem own_room3 {W : World} {n g B : Nat} (h : W.heap[g]? = some (.cells (roomCells n) 3 (0, 0))) (hB : B ≤ g) (hn : n ≤ maxLen) : Own W B (.slice (some ⟨g, 0, none⟩) n n) (List.replicate n 0) :=
  ⟨by simp, .inr ⟨g, n, roomCells n, by simp, hB, h, by simp, hn, by simp [roomCells], by simp [roomCells]⟩⟩

/-- What the loops keep: the two indices, the cells so far, all else. -/
def FlR (w W4 W5 : World) (Ga gd N : Nat) (L : List Int) (v0 v1 : Value) (wr : World) : Prop :=
  wr.cell? ⟨Ga, 0, none⟩ = some v0 ∧ wr.cell? ⟨Ga, 1, none⟩ = some v1 ∧ Own wr W4.heap.size (.slice (some ⟨gd, 0, none⟩) N N) L ∧ But2 Ga gd W5 wr ∧ Below w.heap.size w wr ∧ ∀ o, wr.frozen? ⟨Ga, o, none⟩ = false
theorem FlR.set0 {w W4 W5 wr : World} {Ga gd N : Nat} {L : List Int} {v0 v1 : Value} (h : FlR w W4 W5 Ga gd N L v0 v1 wr) (hG : w.heap.size ≤ Ga) (hne : gd ≠ Ga) (v : Value) : FlR w W4 W5 Ga gd N L v v1 (wr.setCell ⟨Ga, 0, none⟩ v) := by
  obtain ⟨h0, h1, h2, h3, h4, h5⟩ := h
  exact ⟨cell?_set_same _ _ _ (by rw [h0]; rfl), by rw [World.cell?_setCell_other _ _ _ _ (by simp)]; exact h1, own_other h2 _ _ hne, h3.set (.inl rfl) _ _, h4.setCell hG _, fun o => by rw [World.frozen?_setCell]; exact h5 o⟩
theorem FlR.set1 {w W4 W5 wr : World} {Ga gd N : Nat} {L : List Int} {v0 v1 : Value} (h : FlR w W4 W5 Ga gd N L v0 v1 wr) (hG : w.heap.size ≤ Ga) (hne : gd ≠ Ga) (v : Value) : FlR w W4 W5 Ga gd N L v0 v (wr.setCell ⟨Ga, 1, none⟩ v) := by
  obtain ⟨h0, h1, h2, h3, h4, h5⟩ := h
  exact ⟨by rw [World.cell?_setCell_other _ _ _ _ (by simp)]; exact h0, cell?_set_same _ _ _ (by rw [h1]; rfl), own_other h2 _ _ hne, h3.set (.inl rfl) _ _, h4.setCell hG _, fun o => by rw [World.frozen?_setCell]; exact h5 o⟩
theorem FlR.drewN {w W4 W5 wr : World} {Ga gd N : Nat} {L : List Int} {v0 v1 : Value} (h : FlR w W4 W5 Ga gd N L v0 v1 wr) (n : Nat) : FlR w W4 W5 Ga gd N L v0 v1 (wr.drewN n) :=
  ⟨h.1, h.2.1, h.2.2.1, h.2.2.2.1, below_drewN h.2.2.2.2.1 n, h.2.2.2.2.2⟩
theorem FlR.data {w W4 W5 wr : World} {Ga gd N : Nat} {L : List Int} {v0 v1 : Value} (h : FlR w W4 W5 Ga gd N L v0 v1 wr) (hG : w.heap.size ≤ gd) (hne : gd ≠ Ga) {i : Nat} (hi : i < L.length) (x : Int) : FlR w W4 W5 Ga gd N (L.set i x) v0 v1 (wr.setCell ⟨gd, i, none⟩ (.int .i64 x)) := by
  obtain ⟨h0, h1, h2, h3, h4, h5⟩ := h
  exact ⟨(World.cell?_setCell_far _ _ _ _ (by simpa using hne)).trans h0, (World.cell?_setCell_far _ _ _ _ (by simpa using hne)).trans h1, own_store h2 hi x, h3.set (.inr rfl) _ _, h4.setCell hG _, fun o => by rw [World.frozen?_setCell]; exact h5 o⟩

set_option maxRecDepth 20000 in
set_option maxHeartbeats 8000000 in
theorem flip_any (ch : Bool) (a b pa : Option Addr) (m n : Nat) (d : List Int) (c z k : Nat) (w : World) (hp : Row w pa [1, 0]) (hs : Row w a [(m : Int), (n : Int)]) (hd : Row w b d) (ld : d.length ≤ maxLen) (hf : M.flaw ch [(m : Int), (n : Int)] d = 0) :
    Calls Try.prog 28 #[.slice pa 2 k, arrV ch a 2 c b d.length z] w fun e w' => ArrPostF (.ok ⟨ch, [(n : Int), (m : Int)], M.turned m n d⟩) w e w' := by
  obtain ⟨Nc, hc, hdl⟩ := flaw_parts hf
  have hax := axes_turn hc
  obtain ⟨_, b2, b3, _, b5⟩ := M.count_ok hc
  have hmb := b2 (m : Int) (by simp)
  have hnb := b2 (n : Int) (by simp)
  have hpr : M.prod [(m : Int), (n : Int)] = ((m * n : Nat) : Int) := by simp [M.prod]
  have hN : d.length = m * n := by rw [hpr] at b3; omega
  have hl4 : d.length ≤ 4096 := by omega
  clear b2 b3 hpr hdl hc
  have E := (((((Env.start w).addRow hp).addRow hd).addRow hs).box ch a 2 c b d.length z).box false none 0 0 none 0 0
  rw [World.size_alloc] at E
  have kc := fun w h1 h2 => check_any ch a b [(m : Int), (n : Int)] d _ c _ z w h1 h2 (by simp [maxLen]) ld rfl rfl
  rw [hf, errV_zero] at kc
  have ka := fun w h1 h2 => axes_any a pa [(m : Int), (n : Int)] [1, 0] _ _ c k w h1 h2 (by simp [maxLen]) (by simp [maxLen]) rfl rfl
  rw [hax] at ka
  replace kc := Lib.hid kc
  replace ka := Lib.hid ka
  replace hf := Lib.hid hf
  replace hax := Lib.hid hax
  replace hN := Lib.hid hN
  obtain ⟨⟨u0, u1, u2⟩, -, -, -⟩ := E.getBox 1 rfl
  go_enter Try.func28, Try.ntmps28
  go_wp2_with fail
  refine (kc.out _ (E.getRow 2 rfl) (E.getRow 3 rfl)).mono ?_
  rintro e w1 ⟨rfl, hb⟩
  replace E := E.step hb
  have nb1 : w.heap.size + 1 < w1.heap.size := (E.getBox 0 rfl).lt
  clear hb u0 u1 u2 kc
  obtain ⟨⟨u0, u1, u2⟩, -, -, -⟩ := E.getBox 1 rfl
  go_wp2_with fail
  refine (ka.out _ (E.getRow 2 rfl) (E.getRow 4 rfl)).mono ?_
  intro e w2 hp2
  obtain ⟨v2, rfl, ho2⟩ := hp2.2.1 _ rfl
  have hb := hp2.2.2
  clear hp2 ka u0 u1 u2
  obtain ⟨gs, cs, rfl, g1, g2⟩ := own_slice ho2 (by simp)
  have gs1 : w.heap.size + 1 < gs := by omega
  have hcap : 2 ≤ cs := by obtain ⟨_, _, e, h, _⟩ := ho2.view; cases e; exact h
  replace E := (E.step hb).addRow ho2.row
  have s1 := E.bel.size
  clear hb ho2
  have c0 := (E.getRow 0 rfl) 0 (by simp)
  have c1 := (E.getRow 0 rfl) 1 (by simp)
  obtain ⟨_, _, e, c0⟩ := c0
  cases e
  obtain ⟨_, _, e, c1⟩ := c1
  cases e
  simp only [List.getD_cons_zero, List.getD_cons_succ, Nat.zero_add, List.length_cons, List.length_nil, Nat.reduceAdd] at c0 c1 ⊢
  have nb2 : w.heap.size + 1 < w2.heap.size := (E.getBox 1 rfl).lt
  have m46 : (m : Int) ≤ 4096 := hmb.2
  have n46 : (n : Int) ≤ 4096 := hnb.2
  have wM : wrap64 (if (m : Int) < 1 then 1 else (m : Int)) = (if (m : Int) < 1 then 1 else (m : Int)) := by split <;> exact IntWalk.wrap64_in _ (by omega)
  have c1a : (w2.alloc (.cells #[.int .i64 0, .int .i64 1, .int .i64 0, .int .i64 0, .int .i64 0, .int .i64 0] 89)).cell? ⟨gs, 1, none⟩ = some (.int .i64 (m : Int)) := ((push (start w2) _).cell (by exact g2)).trans c1
  have c0b : (w2.alloc (.cells #[.int .i64 (if (m : Int) < 1 then 1 else (m : Int)), .int .i64 1, .int .i64 0, .int .i64 0, .int .i64 0, .int .i64 0] 89)).cell? ⟨gs, 0, none⟩ = some (.int .i64 (n : Int)) := ((push (start w2) _).cell (by exact g2)).trans c0
  have y0 : (w2.alloc (.cells #[.int .i64 (if (m : Int) < 1 then 1 else (m : Int)), .int .i64 1, .int .i64 0, .int .i64 0, .int .i64 0, .int .i64 0] 89)).cell? ⟨w2.heap.size, 0, none⟩ = some (.int .i64 (if (m : Int) < 1 then 1 else (m : Int))) := by simp
  have y1 : (w2.alloc (.cells #[.int .i64 (if (m : Int) < 1 then 1 else (m : Int)), .int .i64 1, .int .i64 0, .int .i64 0, .int .i64 0, .int .i64 0] 89)).cell? ⟨w2.heap.size, 1, none⟩ = some (.int .i64 1) := by simp
  have hb2b : Below w2.heap.size w2 (w2.alloc (.cells #[.int .i64 (if (m : Int) < 1 then 1 else (m : Int)), .int .i64 1, .int .i64 0, .int .i64 0, .int .i64 0, .int .i64 0] 89)) := push (start w2) _
  replace y0 := Lib.hid y0
  replace y1 := Lib.hid y1
  replace hb2b := Lib.hid hb2b
  replace wM := Lib.hid wM
  go_wp2
  go_loopw [10, 11] (fun v10 v11 wr => (v11 = .int .i64 1 ∧ v10 = .int .i64 1 ∧ wr = (w2.alloc (.cells #[.int .i64 0, .int .i64 0, .int .i64 0, .int .i64 0, .int .i64 0, .int .i64 0] 89))) ∨ (v11 = .int .i64 0 ∧ v10 = .int .i64 (if (m : Int) < 1 then 1 else (m : Int)) ∧ wr = (w2.alloc (.cells #[.int .i64 0, .int .i64 1, .int .i64 0, .int .i64 0, .int .i64 0, .int .i64 0] 89))) ∨ (v11 = .int .i64 (-1) ∧ (∃ x, v10 = .int .i64 x) ∧ wr = (w2.alloc (.cells #[.int .i64 (if (m : Int) < 1 then 1 else (m : Int)), .int .i64 1, .int .i64 0, .int .i64 0, .int .i64 0, .int .i64 0] 89)))) (fun _ v _ => (intOf v + 1).toNat)
  case atStart => exact .inl ⟨rfl, rfl, rfl⟩
  case round =>
    rcases hrel with ⟨rfl, rfl, rfl⟩ | ⟨rfl, rfl, rfl⟩ | ⟨rfl, ⟨x, rfl⟩, hW4⟩
    · go_wp2
      go_roundw
      case rel => exact .inr (.inl ⟨by go_num, by first | trivial | rfl | simp [wM.out], by first | trivial | rfl⟩)
      case measure => simp [intOf]
    · go_wp2
      go_roundw
      case rel => exact .inr (.inr ⟨by go_num, by first | trivial | exact ⟨_, rfl⟩ | simp, by first | trivial | rfl⟩)
      case measure => simp [intOf]
    · have hb4 := hb2b.out
      have y0' := y0.out
      have y1' := y1.out
      rw [← hW4] at hb4 y0' y1'
      clear c1a c0b y0 y1 hb2b hW4 c0 c1 wM
      replace E := E.step hb4
      clear hb4
      rename World => W4
      have sG : w2.heap.size < W4.heap.size := World.block_lt_of_cell? _ _ y0'
      obtain ⟨⟨u0, u1, u2⟩, -, -, -⟩ := E.getBox 2 rfl
      have hS0 : W4.drew.cell? ⟨w.heap.size, 0, none⟩ = some (.bool ch) ∧ W4.drew.cell? ⟨w.heap.size, 1, none⟩ = some (.slice a 2 c) ∧ W4.drew.cell? ⟨w.heap.size, 2, none⟩ = some (.slice b d.length z) := ⟨u0, u1, u2⟩
      have hmk := run_make_room d.length d.length (Nat.le_refl _) (by omega)
      have lA := (E.getBox 2 rfl).lt
      clear u0 u1 u2
      go_upto_region 14 with fail
      go_cut [12] from 19 (fun s12 wx => ∃ Bo, s12 = .pointer (some ⟨Bo, 0, none⟩) ∧ FlipAt W4 d.length ch (.slice (some ⟨gs, 0, none⟩) 2 cs) Bo wx)
      case first =>
        go_region_held3 (fun w' => w'.cell? ⟨w.heap.size, 0, none⟩ = some (.bool ch) ∧ w'.cell? ⟨w.heap.size, 1, none⟩ = some (.slice a 2 c) ∧ w'.cell? ⟨w.heap.size, 2, none⟩ = some (.slice b d.length z))
          (first | assumption | (exact alloc3 (by assumption) _) | (exact alloc3 (alloc3 (by assumption) _) _) | go_keep)
          (fail)
        all_goals go_wp2
        all_goals go_meet
        · case rel =>
            refine ⟨_, rfl, W4.heap.size, ?_, by omega, Nat.le_refl _, Nat.le_succ _, ⟨by simp [go_sem], by simp [go_sem], by simp [go_sem]⟩, ?_⟩
            · exact (heap_alloc_old _ _ (by simp)).trans (heap_alloc_new W4 _)
            · exact below_drewN (push (push (start W4) _) _) 1
        · case rel =>
            refine ⟨_, rfl, W4.heap.size + 1, ?_, by omega, Nat.le_succ _, Nat.le_refl _, ⟨by simp [go_sem], by simp [go_sem], by simp [go_sem]⟩, ?_⟩
            · have h := heap_alloc_new (W4.alloc (.cells #[.bool ch, .slice (some ⟨gs, 0, none⟩) 2 cs, .slice (some ⟨W4.heap.size + 1, 0, none⟩) d.length d.length] 24)) (.cells (roomCells d.length) 3)
              rw [World.size_alloc] at h
              exact h
            · exact below_drewN (push (push (start W4) _) _) 1
      case rest =>
        obtain ⟨Bo, rfl, gd, hroom, hne, hgd, hBo, ⟨b0, b1, b2⟩, hbw⟩ := hcut
        have hb5 := hbw.alloc hbw.size (.cells #[.int .i64 0, .int .i64 0, .int .i64 0, .int .i64 0, .int .i64 0, .int .i64 0] 89)
        have E5 := E.step hb5
        have y0w := (hb5.cell (by exact sG)).trans y0'
        have y1w := (hb5.cell (by exact sG)).trans y1'
        have lgd := (Array.getElem?_eq_some_iff.1 hroom).1
        have lBo : Bo < wc.heap.size := World.block_lt_of_cell? _ _ b2
        have s4 := E.bel.size
        have sc := hbw.size
        have hbA := push (start wc) (.cells #[.int .i64 0, .int .i64 0, .int .i64 0, .int .i64 0, .int .i64 0, .int .i64 0] 89)
        replace hroom := (hbA.block _ lgd).trans hroom
        replace b0 := (hbA.cell (by exact lBo)).trans b0
        replace b1 := (hbA.cell (by exact lBo)).trans b1
        replace b2 := (hbA.cell (by exact lBo)).trans b2
        have a0c : (wc.alloc (.cells #[.int .i64 0, .int .i64 0, .int .i64 0, .int .i64 0, .int .i64 0, .int .i64 0] 89)).cell? ⟨wc.heap.size, 0, none⟩ = some (.int .i64 0) := by simp
        have a1c : (wc.alloc (.cells #[.int .i64 0, .int .i64 0, .int .i64 0, .int .i64 0, .int .i64 0, .int .i64 0] 89)).cell? ⟨wc.heap.size, 1, none⟩ = some (.int .i64 0) := by simp
        have af : ∀ o, (wc.alloc (.cells #[.int .i64 0, .int .i64 0, .int .i64 0, .int .i64 0, .int .i64 0, .int .i64 0] 89)).frozen? ⟨wc.heap.size, o, none⟩ = false := fun o => by simp
        have s5 : (wc.alloc (.cells #[.int .i64 0, .int .i64 0, .int .i64 0, .int .i64 0, .int .i64 0, .int .i64 0] 89)).heap.size = wc.heap.size + 1 := by simp
        have hown := own_room3 hroom (show W4.heap.size ≤ gd from hgd) ld
        rw [hN.out, ← turnF_zero m n d, ← hN.out] at hown
        clear hS0 hmk E y0' y1' hbw hb5 hbA hroom
        obtain ⟨⟨u0, u1, u2⟩, -, -, -⟩ := E5.getBox 2 rfl
        go_upto_region 16 with fail
        generalize hW5 : wc.alloc (.cells #[.int .i64 0, .int .i64 0, .int .i64 0, .int .i64 0, .int .i64 0, .int .i64 0] 89) = W5 at *
        replace hW5 := Lib.hid hW5
        obtain ⟨ba, oa, rfl, ca0⟩ := (E5.getRow 3 rfl) 0 (by simp)
        obtain ⟨_, _, e, ca1⟩ := (E5.getRow 3 rfl) 1 (by simp)
        cases e
        obtain ⟨bp, op, rfl, cp0⟩ := (E5.getRow 5 rfl) 0 (by simp)
        obtain ⟨_, _, e, cp1⟩ := (E5.getRow 5 rfl) 1 (by simp)
        cases e
        simp only [List.getD_cons_zero, List.getD_cons_succ, Nat.add_zero] at ca0 ca1 cp0 cp1
        have rd := E5.getRow 4 rfl
        have hbx := E5.getBox 1 rfl
        have hrs := E5.getRow 0 rfl
        have hbel := E5.bel
        have lb := hbel.size
        have laa : ba < w.heap.size := by obtain ⟨_, _, e, h⟩ := hs 0 (by simp); cases e; exact World.block_lt_of_cell? _ _ h
        have lpp : bp < w.heap.size := by obtain ⟨_, _, e, h⟩ := hp 0 (by simp); cases e; exact World.block_lt_of_cell? _ _ h
        have g1 : gd < wc.heap.size := lgd
        have sw : w.heap.size ≤ W4.heap.size := s4
        have kA : ∀ x, x < W4.heap.size → x ≠ wc.heap.size ∧ x ≠ gd := fun x hx => ⟨by omega, by omega⟩
        have l0 : w.heap.size < W4.heap.size := by omega
        have l1 : w.heap.size + 1 < W4.heap.size := by omega
        have lG : w2.heap.size < W4.heap.size := sG
        have eBo : Bo ≠ wc.heap.size ∧ Bo ≠ gd := ⟨by omega, by omega⟩
        have hng : wc.heap.size ≠ gd := by omega
        replace hown := Lib.hid hown
        replace kA := Lib.hid kA
        have hGw : w.heap.size ≤ wc.heap.size := by omega
        have hgw : w.heap.size ≤ gd := by omega
        go_wp2
        go_loopw [64] (fun v wr => ∃ t x0 x1 : Nat, t ≤ d.length ∧ v = .int .i64 t ∧ (t < d.length → t = x0 * n + x1 ∧ x0 < m ∧ x1 < n) ∧ FlR w W4 W5 wc.heap.size gd d.length (turnF m n d (t)) (.int .i64 (x0 : Nat)) (.int .i64 (x1 : Nat)) wr) (fun v _ => d.length - (intOf v).toNat)
        case atStart =>
          refine ⟨0, 0, 0, Nat.zero_le _, rfl, fun h => ?_, a0c, a1c, hown.out, fun b _ _ _ => rfl, hbel, af⟩
          have h' := hN.out
          have hm0 : m ≠ 0 := fun e => by rw [e, Nat.zero_mul] at h'; omega
          have hn0 : n ≠ 0 := fun e => by rw [e, Nat.mul_zero] at h'; omega
          exact ⟨by rw [Nat.zero_mul], by omega, by omega⟩
        case round =>
          clear a0c a1c hown af
          obtain ⟨t, x0, x1, ht, rfl, hx, hR⟩ := hrel
          have hR' := hR
          obtain ⟨hc0, hc1, ho, hbu, hbl, hfz⟩ := hR'
          have v1 := hbu.cell u1 (kA.out _ l0).1 (kA.out _ l0).2
          have v2 := hbu.cell u2 (kA.out _ l0).1 (kA.out _ l0).2
          by_cases hlt : t < d.length
          · obtain ⟨hteq, hx0, hx1⟩ := hx hlt
            obtain ⟨bd, od, rfl, cd⟩ := rd t hlt
            have ldd : bd < w.heap.size := by obtain ⟨_, _, e, h⟩ := hd t hlt; cases e; exact World.block_lt_of_cell? _ _ h
            have cdw := hbu.cell cd (kA.out _ (by omega)).1 (kA.out _ (by omega)).2
            have e0 := hbu.cell ca0 (kA.out _ (by omega)).1 (kA.out _ (by omega)).2
            have e1 := hbu.cell ca1 (kA.out _ (by omega)).1 (kA.out _ (by omega)).2
            have p0 := hbu.cell cp0 (kA.out _ (by omega)).1 (kA.out _ (by omega)).2
            have p1 := hbu.cell cp1 (kA.out _ (by omega)).1 (kA.out _ (by omega)).2
            have q0 := hbu.cell y0w (kA.out _ lG).1 (kA.out _ lG).2
            have q1 := hbu.cell y1w (kA.out _ lG).1 (kA.out _ lG).2
            have b2w := hbu.cell b2 eBo.1 eBo.2
            rw [if_neg (by omega)] at q0
            obtain ⟨k1, k2, k3⟩ := turn_index hx0 hx1
            rw [← hN.out] at k1
            obtain ⟨P, hP⟩ : ∃ P, P = x1 * m := ⟨_, rfl⟩
            rw [← hP] at k1
            have hstep := turnF_step d hx0 hx1 hteq
            rw [← hP] at hstep
            have kL : x0 + P < (turnF m n d t).length := by rw [turnF_length, ← hN.out]; exact k1
            have oc := own_cell ho kL
            have of' := own_frozen ho (x0 + P)
            have wP : ∀ a b : Int, a = (x1 : Int) → b = (m : Int) → IntKind.i64.wrap (a * b) = (P : Int) := fun a b ha hb => by
              have e : ((x1 : Int) * (m : Int)) = ((x1 * m : Nat) : Int) := by simp
              rw [ha, hb, e, ← hP, IntKind.wrap_i64]; omega
            have w0 : IntKind.i64.wrap (x0 : Int) = (x0 : Int) := by rw [IntKind.wrap_i64]; omega
            have wS : IntKind.i64.wrap ((x0 : Int) + (P : Int)) = ((x0 + P : Nat) : Int) := by rw [IntKind.wrap_i64]; omega
            have hRs := fun nd => (hR.drewN nd).data hgw (Ne.symm hng) kL (d.getD t 0)
            rw [hstep] at hRs
            generalize d.getD t 0 = X at *
            generalize (turnF m n d t).getD (x0 + P) 0 = cx at oc
            have iQ : (x0 : Int) + (P : Int) < (d.length : Int) := by omega
            replace ho := Lib.hid ho
            replace hR := Lib.hid hR
            replace hRs := Lib.hid hRs
            replace hstep := Lib.hid hstep
            replace hP := Lib.hid hP
            replace hteq := Lib.hid hteq
            replace hx := Lib.hid hx
            replace k2 := Lib.hid k2
            replace k3 := Lib.hid k3
            replace kL := Lib.hid kL
            have x0n : (x0 : Int) ≤ 4096 := by omega
            have x1n : (x1 : Int) ≤ 4096 := by omega
            clear cd cp0 cp1 y0w y1w b0 b1 b2 ld hmb hnb b5
            rename World => wr
            go_wp2
            go_loopw [16, 71] (fun v16 v71 wq => ((v71 = .int .i64 0 ∧ v16 = .int .i64 0) ∨ (v71 = .int .i64 1 ∧ v16 = .int .i64 x0) ∨ (v71 = .int .i64 2 ∧ v16 = .int .i64 ((x0 + P : Nat) : Int))) ∧ ∃ nd, wq = wr.drewN nd) (fun _ v _ => 2 - (intOf v).toNat)
            case atStart => exact ⟨.inl ⟨rfl, rfl⟩, 0, rfl⟩
            case round =>
              obtain ⟨hcase, nd, rfl⟩ := hrel
              rcases hcase with ⟨rfl, rfl⟩ | ⟨rfl, rfl⟩ | ⟨rfl, rfl⟩
              · go_wp2
                go_quiet (fail)
                go_wp2
                go_roundw
                case rel => exact ⟨.inr (.inl ⟨by go_num, by first | rfl | simp [w0]⟩), _, rfl⟩
                case measure => simp [intOf]
              · go_wp2
                go_quiet (fail)
                go_wp2
                go_roundw
                case rel => exact ⟨.inr (.inr ⟨by go_num, by first | rfl | simp [wP, wS]⟩), _, rfl⟩
                case measure => simp [intOf]
              · have hR6 := hRs.out nd
                clear hRs hc0 hc1 hfz hbl w0 wS wP p0 p1 q0 q1 cdw
                go_wp2
                go_loopw [18] (fun v18 wq => ∃ z0 z1 : Nat, ((v18 = .int .i64 1 ∧ z0 = x0 ∧ z1 = x1) ∨ (v18 = .int .i64 0 ∧ z0 = x0 ∧ z1 = 0 ∧ x1 + 1 = n) ∨ (v18 = .int .i64 (-1) ∧ z0 = 0 ∧ z1 = 0 ∧ x1 + 1 = n ∧ x0 + 1 = m)) ∧ FlR w W4 W5 wc.heap.size gd d.length (turnF m n d (t + 1)) (.int .i64 (z0 : Nat)) (.int .i64 (z1 : Nat)) wq) (fun v _ => (intOf v + 1).toNat)
                case atStart => exact ⟨x0, x1, .inl ⟨rfl, rfl, rfl⟩, hR6⟩
                case round =>
                  clear hR6 v1 v2 e0 e1 b2w oc of'
                  obtain ⟨z0, z1, hcase, hQ⟩ := hrel
                  have hQ' := hQ
                  obtain ⟨hc0, hc1, -, -, -, hfz⟩ := hQ'
                  have f0 := hfz 0
                  have f1 := hfz 1
                  clear hfz
                  rcases hcase with ⟨rfl, rfl, rfl⟩ | ⟨rfl, rfl, rfl, hn1⟩ | ⟨rfl, rfl, rfl, hn1, hm1⟩
                  · have hS := hQ.set1 hGw (Ne.symm hng) (.int .i64 ((z1 : Int) + 1))
                    have s1 := hS.2.1
                    have t1 := hS.2.2.2.1.cell u1 (kA.out _ l0).1 (kA.out _ l0).2
                    have t2 := hS.2.2.2.1.cell ca1 (kA.out _ (by omega)).1 (kA.out _ (by omega)).2
                    have t3 := hS.2.2.2.2.2 1
                    replace hQ := Lib.hid hQ
                    by_cases h : z1 + 1 < n
                    · have d1 : decide (((z1 : Int) + 1) < (n : Int)) = true := decide_eq_true (by omega)
                      have hS' : FlR w W4 W5 wc.heap.size gd d.length (turnF m n d (t + 1)) (.int .i64 (z0 : Nat)) (.int .i64 (z1 + 1 : Nat)) (_ : World) := hS
                      replace hS := Lib.hid hS
                      go_wp2
                      go_quiet (fail)
                      go_wp2
                      go_roundw
                      case rel => exact ⟨t + 1, z0, z1 + 1, by omega, by go_num, fun _ => ⟨by have := hteq.out; omega, hx0, h⟩, hS'.drewN _⟩
                      case measure => simp [intOf]; omega
                    · have d1 : decide (((z1 : Int) + 1) < (n : Int)) = false := decide_eq_false (by omega)
                      have hS' := fun n => (hS.drewN n).set1 hGw (Ne.symm hng) (.int .i64 0)
                      replace hS := Lib.hid hS
                      replace hS' := Lib.hid hS'
                      go_wp2
                      go_quiet (fail)
                      go_wp2
                      go_roundw
                      case rel => exact ⟨z0, 0, .inr (.inl ⟨by go_num, rfl, rfl, by omega⟩), hS'.out _⟩
                      case measure => simp [intOf]
                  · have hS := hQ.set0 hGw (Ne.symm hng) (.int .i64 ((z0 : Int) + 1))
                    have s1 := hS.1
                    have t1 := hS.2.2.2.1.cell u1 (kA.out _ l0).1 (kA.out _ l0).2
                    have t2 := hS.2.2.2.1.cell ca0 (kA.out _ (by omega)).1 (kA.out _ (by omega)).2
                    have t3 := hS.2.2.2.2.2 0
                    replace hQ := Lib.hid hQ
                    replace hn1 := Lib.hid hn1
                    by_cases h : z0 + 1 < m
                    · have d1 : decide (((z0 : Int) + 1) < (m : Int)) = true := decide_eq_true (by omega)
                      have hS' : FlR w W4 W5 wc.heap.size gd d.length (turnF m n d (t + 1)) (.int .i64 (z0 + 1 : Nat)) (.int .i64 (0 : Nat)) (_ : World) := hS
                      replace hS := Lib.hid hS
                      go_wp2
                      go_quiet (fail)
                      go_wp2
                      go_roundw
                      case rel => exact ⟨t + 1, z0 + 1, 0, by omega, by go_num, fun _ => ⟨by have h1 := hteq.out; have h2 := hn1.out; rw [Nat.add_mul, Nat.one_mul]; omega, h, by omega⟩, hS'.drewN _⟩
                      case measure => simp [intOf]; omega
                    · have d1 : decide (((z0 : Int) + 1) < (m : Int)) = false := decide_eq_false (by omega)
                      have hS' := fun n => (hS.drewN n).set0 hGw (Ne.symm hng) (.int .i64 0)
                      replace hS := Lib.hid hS
                      replace hS' := Lib.hid hS'
                      go_wp2
                      go_quiet (fail)
                      go_wp2
                      go_roundw
                      case rel => exact ⟨0, 0, .inr (.inr ⟨by go_num, rfl, rfl, hn1.out, by omega⟩), hS'.out _⟩
                      case measure => simp [intOf]
                  · have hlast : d.length = t + 1 := by
                      have h1 := hteq.out
                      have h2 := hN.out
                      rw [← hm1, Nat.add_mul, Nat.one_mul] at h2
                      omega
                    replace hn1 := Lib.hid hn1
                    replace hm1 := Lib.hid hm1
                    replace hQ := Lib.hid hQ
                    replace hlast := Lib.hid hlast
                    go_wp2
                    go_roundw
                    case rel => exact ⟨t + 1, 0, 0, by omega, by go_num, fun h => absurd h (by have := hlast.out; omega), hQ.out⟩
                    case measure => simp [intOf]; omega
          · obtain rfl : t = d.length := by omega
            rename World => wr
            have b0w := hbu.cell b0 eBo.1 eBo.2
            have b1w := hbu.cell b1 eBo.1 eBo.2
            have b2w := hbu.cell b2 eBo.1 eBo.2
            have hbr : BoxF wr (w.heap.size + 1) false none 0 0 none 0 0 := by
              have e := hbu (w.heap.size + 1) hbx.lt (kA.out _ l1).1 (kA.out _ l1).2
              obtain ⟨⟨h0, h1, h2⟩, h3, h4, h5⟩ := hbx
              exact ⟨⟨(cell_of_eq e 0).trans h0, (cell_of_eq e 1).trans h1, (cell_of_eq e 2).trans h2⟩, (frozen_of_eq e 0).trans h3, (frozen_of_eq e 1).trans h4, (frozen_of_eq e 2).trans h5⟩
            obtain ⟨⟨z0, z1, z2⟩, z3, z4, z5⟩ := hbr
            have rdat := ho.row
            have hfin := turnF_end m n d
            rw [← hN.out] at hfin
            rw [hfin] at rdat
            have rshp : Row wr (some ⟨gs, 0, none⟩) [(n : Int), (m : Int)] := fun i hi => by
              obtain ⟨_, _, e, h⟩ := hrs i hi
              cases e
              exact ⟨gs, 0, rfl, hbu.cell h (kA.out _ (by omega)).1 (kA.out _ (by omega)).2⟩
            have hl := turned_length m n d
            rw [← hN.out] at hl
            replace ho := Lib.hid ho
            replace hbu := Lib.hid hbu
            replace hR := Lib.hid hR
            replace hx := Lib.hid hx
            replace hfin := Lib.hid hfin
            replace hl := Lib.hid hl
            clear v1 v2 hc0 hc1 hfz ca0 ca1 cp0 cp1 y0w y1w b0 b1 b2 u0 u1 u2
            go_wp2
            refine bodyPost_ret (v := .tuple #[arrV ch (some ⟨gs, 0, none⟩) 2 cs (some ⟨gd, 0, none⟩) d.length d.length, .nilIface]) (by simp [results, Try.results28, go_sem, cell?_set_same, z0, z1, z2]) rfl ?_
            have hk : ∀ (u0 u1 u2 : Value) (b : Nat), b ≠ w.heap.size + 1 → (((wr.setCell ⟨w.heap.size + 1, 0, none⟩ u0).setCell ⟨w.heap.size + 1, 1, none⟩ u1).setCell ⟨w.heap.size + 1, 2, none⟩ u2).heap[b]? = wr.heap[b]? := fun u0 u1 u2 b hb => by
              rw [Below.heap_setCell _ _ _ b hb, Below.heap_setCell _ _ _ b hb, Below.heap_setCell _ _ _ b hb]
            refine ArrPostF.ok (x := ⟨ch, [(n : Int), (m : Int)], M.turned m n d⟩) rfl (by rw [hl.out]; rfl) ?_ ?_ (fun p e => by cases e; show w.heap.size ≤ gs; omega) (fun p e => by cases e; exact hgw) hcap (set3 hbl (by omega) _ _ _)
            · intro i hi
              obtain ⟨bb, o, e, h⟩ := rshp i hi
              cases e
              exact ⟨gs, 0, rfl, (cell_of_eq (hk _ _ _ gs (by omega)) (0 + i)).trans h⟩
            · intro i hi
              obtain ⟨bb, o, e, h⟩ := rdat i hi
              cases e
              exact ⟨gd, 0, rfl, (cell_of_eq (hk _ _ _ gd (by omega)) (0 + i)).trans h⟩
end Go.Proofs.Ytiebknfmmanbiaa
