/- The library's slices.Grow at the nil slice and slices.Concat at two slices of ints. Condition: short rows that lie somewhere. -/
import Derived.Test.YtaplaoelamnoiaaGreatDoorBd04
import Derived.Lib.AppendZerosOnto
import Derived.Lib.SliceRun
namespace Go.Proofs.YtaplaoelamnoiaaGreatDoor
open Go.RowKit Go.Lib

theorem wpList_appendBy {P : Program} {w w' : World} {ops : Array Oper} {rest : List Oper} {o : Oper} {a : Act} {Q : Exit → Act → World → Prop} (hgd : o.guard = none) (s x : Operand) (t u : TypeId)
    (ho : o.op = .call { callee := .builtin .append, args := #[s, x], argTypes := #[t, u] }) (v1 v2 v' : Value) (hs : a.eval s = v1) (hx : a.eval x = v2)
    (hr : ∀ ty, (Builtin.append_ #[t, u] ty #[v1, v2]).run P w = .ok v' w') (h : wpList P ops Q rest (a.put o.dst v') w') : wpList P ops Q (o :: rest) a w := by
  refine wpList_plain hgd fun K hK => ?_
  unfold Oper.wp execOp
  simp only [ho, resolve, invoke, builtin, Sem.run_bind, Sem.run_pure, Result.andThen_ok, List.map_toArray, List.map_cons, List.map_nil, hs, hx, hr]
  exact hK _ _ h

set_option maxRecDepth 100000 in
set_option maxHeartbeats 4000000 in
theorem grow_nil (n : Nat) (w : World) (hn : n ≤ 4096) :
    Calls Tryz.prog 189 #[.slice none 0 0, .int .i64 n] w fun e w' => ∃ v, e = .returned v ∧ Own w' w.heap.size v [] ∧ Below w.heap.size w w' := by
  by_cases h0 : n = 0
  · subst h0
    go_enter Tryz.func189, Tryz.ntmps189
    go_wp2
    go_ret
    exact ⟨_, rfl, Own.nil _ _, Below.refl _ _⟩
  · obtain ⟨i0, hi, hz0, hz1, hz2⟩ := info_parts Tryz.infoInt
    have hold : (Builtin.firstCells i0.size 0 (.slice none 0 0)).run Tryz.prog w.drew = .ok (([] : List Value).toArray) w.drew := run_firstCells_none w.drew i0.size 0 0 0
    have hrz : ∀ ty, (Builtin.append_ #[22, 3] ty #[.slice none 0 0, .int .i64 (n : Int)]).run Tryz.prog w =
        .ok (.slice (some ⟨w.heap.size, 0, none⟩) n (grownCap w n 0 3)) (w.drew.alloc (.cells (([] : List Value).toArray ++ Builtin.zeroCells (Value.int .i64 0).cells n ++ Builtin.zeroCells (Value.int .i64 0).cells (grownCap w n 0 3 - n)) 3)) := fun ty => by
      have h := Lib.run_append_grow_zeros w 22 3 ty 3 i0 (.int .i64 0) .i64 .i64 Tryz.underlying22 Tryz.underlying3 hi hz0 none 0 0 [] hold n (by omega) (by rw [hz1]; decide) (by omega) (by omega)
        (by rw [hz2]; omega) (by rw [Nat.zero_add]; exact growslice_fits (by omega) (by rw [hz2]; omega))
      rw [Nat.zero_add] at h
      exact h
    have hG := grownCap_ge w n 0 3
    have hGm := grownCap_le_maxLen w n 0 3 (by unfold maxLen; omega)
    obtain ⟨G, hGe⟩ : ∃ G, G = grownCap w n 0 3 := ⟨_, rfl⟩
    rw [← hGe] at hrz hG hGm
    obtain ⟨C, hC⟩ : ∃ C : Array Value, C = ([] : List Value).toArray ++ Builtin.zeroCells (Value.int .i64 0).cells n ++ Builtin.zeroCells (Value.int .i64 0).cells (G - n) := ⟨_, rfl⟩
    rw [← hC] at hrz
    have hCs : C.size = G := by
      rw [hC]
      simp [Builtin.zeroCells, Value.cells]
      omega
    have hGi : (0 : Int) ≤ (G : Int) := by omega
    have hown : Own (w.drew.alloc (.cells C 3)) w.heap.size (.slice (some ⟨w.heap.size, 0, none⟩) 0 G) [] :=
      ⟨rfl, .inr ⟨w.heap.size, G, C, rfl, Nat.le_refl _, heap_alloc_new w.drew _, Nat.zero_le _, hGm, by simp [hCs], by simp⟩⟩
    have hb : Below w.heap.size w (w.drew.alloc (.cells C 3)) := ((Below.refl _ w).drew).alloc (Nat.le_refl _) _
    replace hGe := Lib.hid hGe
    replace hC := Lib.hid hC
    replace hCs := Lib.hid hCs
    replace hown := Lib.hid hown
    clear hold hi hz0 hz1 hz2 i0
    unfold maxLen at hGm
    go_enter Tryz.func189, Tryz.ntmps189
    replace hrz := Lib.hid hrz
    go_wp2_with (at_builtin; refine wpList_appendBy rfl (.tmp 20) (.tmp 21) 22 3 rfl (.slice none 0 0) (.int .i64 (n : Int)) _ rfl rfl hrz.out ?_)
    go_ret
    exact ⟨_, rfl, hown.out, hb⟩

set_option maxHeartbeats 4000000 in
theorem concat2_any (g : Nat) (a1 a2 : Addr) (k1 k2 : Nat) (xs ys : List Int) (l1 l2 : Nat) (w : World) (c0 : w.cell? ⟨g, 0, none⟩ = some (.slice (some a1) l1 k1)) (c1 : w.cell? ⟨g, 1, none⟩ = some (.slice (some a2) l2 k2))
    (hx : Row w (some a1) xs) (hy : Row w (some a2) ys) (hl : xs.length + ys.length ≤ 4096) (e1 : l1 = xs.length) (e2 : l2 = ys.length) :
    Calls Tryz.prog 135 #[.slice (some ⟨g, 0, none⟩) 2 2] w fun e w' => ∃ v, e = .returned v ∧ Own w' w.heap.size v (xs ++ ys) ∧ Below w.heap.size w w' := by
  have hl1 : l1 + l2 ≤ 4096 := by omega
  replace e1 := Lib.hid e1
  replace e2 := Lib.hid e2
  go_enter Tryz.func135, Tryz.ntmps135
  go_wp2
  go_loop [3, 11] (fun v i => (i = .int .i64 0 ∧ v = .int .i64 0) ∨ (i = .int .i64 1 ∧ v = .int .i64 (l1 : Int)) ∨ (i = .int .i64 2 ∧ v = .int .i64 ((l1 + l2 : Nat) : Int))) (fun _ i => 2 - (intOf i).toNat)
  case atStart => exact .inl ⟨rfl, rfl⟩
  case round =>
    rcases hrel with ⟨rfl, rfl⟩ | ⟨rfl, rfl⟩ | ⟨rfl, rfl⟩
    · go_wp2
      go_round
      case rel => exact .inr (.inl ⟨by go_num, by go_num⟩)
      case measure => simp [intOf]
    · go_wp2
      go_round
      case rel => exact .inr (.inr ⟨by go_num, by go_num⟩)
      case measure => simp [intOf]
    · have hlt : ¬ (((l1 + l2 : Nat) : Int) < 0) := by omega
      obtain ⟨m, hm⟩ : ∃ m, m = l1 + l2 := ⟨_, rfl⟩
      rw [← hm] at hlt ⊢
      have hm4 : m ≤ 4096 := by omega
      replace hm := Lib.hid hm
      go_wp2_with fail
      refine (grow_nil m w hm4).mono ?_
      rintro e w1 ⟨v1, rfl, ho, hb⟩
      have c0' := (hb.cell (World.block_lt_of_cell? _ _ c0)).trans c0
      have c1' := (hb.cell (World.block_lt_of_cell? _ _ c1)).trans c1
      go_wp2
      go_loopw [6, 27] (fun v i wr => ((i = .int .i64 0 ∧ Own wr w.heap.size v []) ∨ (i = .int .i64 1 ∧ Own wr w.heap.size v xs) ∨ (i = .int .i64 2 ∧ Own wr w.heap.size v (xs ++ ys))) ∧ Below w.heap.size w wr) (fun _ i _ => 2 - (intOf i).toNat)
      case atStart => exact ⟨.inl ⟨rfl, ho⟩, hb⟩
      case round =>
        clear ho hb c0' c1'
        obtain ⟨hcase, hbel⟩ := hrel
        have hB := hbel.size
        have d0 := (hbel.cell (World.block_lt_of_cell? _ _ c0)).trans c0
        have d1 := (hbel.cell (World.block_lt_of_cell? _ _ c1)).trans c1
        rcases hcase with ⟨rfl, ho⟩ | ⟨rfl, ho⟩ | ⟨rfl, ho⟩
        · go_wp2_with (at_builtin; refine app_row rfl (.tmp 31) (.tmp 32) rfl w.heap.size _ [] xs a1 k1 rfl ho (by rw [← e1.out]; rfl) (hx.below hbel) (by simp only [List.length_nil]; omega) hB ?_; intro v' w' ho' hb' hs')
          go_roundw
          case rel => exact ⟨.inr (.inl ⟨by go_num, by simpa using ho'⟩), hbel.trans hb'⟩
          case measure => simp [intOf]
        · go_wp2_with (at_builtin; refine app_row rfl (.tmp 31) (.tmp 32) rfl w.heap.size _ xs ys a2 k2 rfl ho (by rw [← e2.out]; rfl) (hy.below hbel) (by omega) hB ?_; intro v' w' ho' hb' hs')
          go_roundw
          case rel => exact ⟨.inr (.inr ⟨by go_num, ho'⟩), hbel.trans hb'⟩
          case measure => simp [intOf]
        · go_wp2
          go_ret
          exact ⟨_, rfl, ho, hbel⟩

end Go.Proofs.YtaplaoelamnoiaaGreatDoor
