/- Texts that lie in one file: what is plain, rows, boxes, squares, and what is known of a world. No condition. -/
import Derived.Test.YtaplaoelamnoiaaGreatDoorBg04
import Derived.Lib.AppendZerosOnto
import Derived.Lib.SliceRun
import Derived.Test.YtaplaoelamnoiaaGreatDoorBg29
import Derived.Deep.Upon
/- The library's slices.Grow at the nil slice and slices.Concat at two slices of ints. Condition: short rows that lie somewhere. -/
namespace Go.Proofs.YtaplaoelamnoiaaGreatDoor
open Go.RowKit Go.Lib

theorem wpList_appendBy {P : Program} {w w' : World} {ops : Array Oper} {rest : List Oper} {o : Oper} {a : Act} {Q : Exit → Act → World → Prop} (hgd : o.guard = none) (s x : Operand) (t u : TypeId)
    (ho : o.op = .call { callee := .builtin .append, args := #[s, x], argTypes := #[t, u] }) (v1 v2 v' : Value) (hs : a.eval s = v1) (hx : a.eval x = v2)
    (hr : ∀ ty, (Builtin.append_ #[t, u] ty #[v1, v2]).run P w = .ok v' w') (h : wpList P ops Q rest (a.put o.dst v') w') : wpList P ops Q (o :: rest) a w := by
  refine wpList_plain hgd fun K hK => ?_
  unfold Oper.wp execOp
  simp only [ho, resolve, invoke, builtin, Sem.run_bind, Sem.run_pure, Result.andThen_ok, List.map_toArray, List.map_cons, List.map_nil, hs, hx, hr]
  exact hK _ _ h

set_option maxRecDepth 100000 in
set_option maxHeartbeats 4000000 in
theorem grow_nil (n : Nat) (w : World) (hn : n ≤ 4096) :
    Calls Tryz.prog 189 #[.slice none 0 0, .int .i64 n] w fun e w' => ∃ v, e = .returned v ∧ Own w' w.heap.size v [] ∧ Below w.heap.size w w' := by
  by_cases h0 : n = 0
  · subst h0
    go_enter Tryz.func189, Tryz.ntmps189
    go_wp2
    go_ret
    exact ⟨_, rfl, Own.nil _ _, Below.refl _ _⟩
  · obtain ⟨i0, hi, hz0, hz1, hz2⟩ := info_parts Tryz.infoInt
    have hold : (Builtin.firstCells i0.size 0 (.slice none 0 0)).run Tryz.prog w.drew = .ok (([] : List Value).toArray) w.drew := run_firstCells_none w.drew i0.size 0 0 0
    have hrz : ∀ ty, (Builtin.append_ #[22, 3] ty #[.slice none 0 0, .int .i64 (n : Int)]).run Tryz.prog w =
        .ok (.slice (some ⟨w.heap.size, 0, none⟩) n (grownCap w n 0 3)) (w.drew.alloc (.cells (([] : List Value).toArray ++ Builtin.zeroCells (Value.int .i64 0).cells n ++ Builtin.zeroCells (Value.int .i64 0).cells (grownCap w n 0 3 - n)) 3)) := fun ty => by
      have h := Lib.run_append_grow_zeros w 22 3 ty 3 i0 (.int .i64 0) .i64 .i64 Tryz.underlying22 Tryz.underlying3 hi hz0 none 0 0 [] hold n (by omega) (by rw [hz1]; decide) (by omega) (by omega)
        (by rw [hz2]; omega) (by rw [Nat.zero_add]; exact growslice_fits (by omega) (by rw [hz2]; omega))
      rw [Nat.zero_add] at h
      exact h
    have hG := grownCap_ge w n 0 3
    have hGm := grownCap_le_maxLen w n 0 3 (by unfold maxLen; omega)
    obtain ⟨G, hGe⟩ : ∃ G, G = grownCap w n 0 3 := ⟨_, rfl⟩
    rw [← hGe] at hrz hG hGm
    obtain ⟨C, hC⟩ : ∃ C : Array Value, C = ([] : List Value).toArray ++ Builtin.zeroCells (Value.int .i64 0).cells n ++ Builtin.zeroCells (Value.int .i64 0).cells (G - n) := ⟨_, rfl⟩
    rw [← hC] at hrz
    have hCs : C.size = G := by
      rw [hC]
      simp [Builtin.zeroCells, Value.cells]
      omega
    have hGi : (0 : Int) ≤ (G : Int) := by omega
    have hown : Own (w.drew.alloc (.cells C 3)) w.heap.size (.slice (some ⟨w.heap.size, 0, none⟩) 0 G) [] :=
      ⟨rfl, .inr ⟨w.heap.size, G, C, rfl, Nat.le_refl _, heap_alloc_new w.drew _, Nat.zero_le _, hGm, by simp [hCs], by simp⟩⟩
    have hb : Below w.heap.size w (w.drew.alloc (.cells C 3)) := ((Below.refl _ w).drew).alloc (Nat.le_refl _) _
    replace hGe := Lib.hid hGe
    replace hC := Lib.hid hC
    replace hCs := Lib.hid hCs
    replace hown := Lib.hid hown
    clear hold hi hz0 hz1 hz2 i0
    unfold maxLen at hGm
    go_enter Tryz.func189, Tryz.ntmps189
    replace hrz := Lib.hid hrz
    go_wp2_with (at_builtin; refine wpList_appendBy rfl (.tmp 20) (.tmp 21) 22 3 rfl (.slice none 0 0) (.int .i64 (n : Int)) _ rfl rfl hrz.out ?_)
    go_ret
    exact ⟨_, rfl, hown.out, hb⟩

set_option maxHeartbeats 4000000 in
theorem concat2_any (g : Nat) (a1 a2 : Addr) (k1 k2 : Nat) (xs ys : List Int) (l1 l2 : Nat) (w : World) (c0 : w.cell? ⟨g, 0, none⟩ = some (.slice (some a1) l1 k1)) (c1 : w.cell? ⟨g, 1, none⟩ = some (.slice (some a2) l2 k2))
    (hx : Row w (some a1) xs) (hy : Row w (some a2) ys) (hl : xs.length + ys.length ≤ 4096) (e1 : l1 = xs.length) (e2 : l2 = ys.length) :
    Calls Tryz.prog 135 #[.slice (some ⟨g, 0, none⟩) 2 2] w fun e w' => ∃ v, e = .returned v ∧ Own w' w.heap.size v (xs ++ ys) ∧ Below w.heap.size w w' := by
  have hl1 : l1 + l2 ≤ 4096 := by omega
  replace e1 := Lib.hid e1
  replace e2 := Lib.hid e2
  go_enter Tryz.func135, Tryz.ntmps135
  go_wp2
  go_loop [3, 11] (fun v i => (i = .int .i64 0 ∧ v = .int .i64 0) ∨ (i = .int .i64 1 ∧ v = .int .i64 (l1 : Int)) ∨ (i = .int .i64 2 ∧ v = .int .i64 ((l1 + l2 : Nat) : Int))) (fun _ i => 2 - (intOf i).toNat)
  case atStart => exact .inl ⟨rfl, rfl⟩
  case round =>
    rcases hrel with ⟨rfl, rfl⟩ | ⟨rfl, rfl⟩ | ⟨rfl, rfl⟩
    · go_wp2
      go_round
      case rel => exact .inr (.inl ⟨by go_num, by go_num⟩)
      case measure => simp [intOf]
    · go_wp2
      go_round
      case rel => exact .inr (.inr ⟨by go_num, by go_num⟩)
      case measure => simp [intOf]
    · have hlt : ¬ (((l1 + l2 : Nat) : Int) < 0) := by omega
      obtain ⟨m, hm⟩ : ∃ m, m = l1 + l2 := ⟨_, rfl⟩
      rw [← hm] at hlt ⊢
      have hm4 : m ≤ 4096 := by omega
      replace hm := Lib.hid hm
      go_wp2_with fail
      refine (grow_nil m w hm4).mono ?_
      rintro e w1 ⟨v1, rfl, ho, hb⟩
      have c0' := (hb.cell (World.block_lt_of_cell? _ _ c0)).trans c0
      have c1' := (hb.cell (World.block_lt_of_cell? _ _ c1)).trans c1
      go_wp2
      go_loopw [6, 27] (fun v i wr => ((i = .int .i64 0 ∧ Own wr w.heap.size v []) ∨ (i = .int .i64 1 ∧ Own wr w.heap.size v xs) ∨ (i = .int .i64 2 ∧ Own wr w.heap.size v (xs ++ ys))) ∧ Below w.heap.size w wr) (fun _ i _ => 2 - (intOf i).toNat)
      case atStart => exact ⟨.inl ⟨rfl, ho⟩, hb⟩
      case round =>
        clear ho hb c0' c1'
        obtain ⟨hcase, hbel⟩ := hrel
        have hB := hbel.size
        have d0 := (hbel.cell (World.block_lt_of_cell? _ _ c0)).trans c0
        have d1 := (hbel.cell (World.block_lt_of_cell? _ _ c1)).trans c1
        rcases hcase with ⟨rfl, ho⟩ | ⟨rfl, ho⟩ | ⟨rfl, ho⟩
        · go_wp2_with (at_builtin; refine app_row rfl (.tmp 31) (.tmp 32) rfl w.heap.size _ [] xs a1 k1 rfl ho (by rw [← e1.out]; rfl) (hx.below hbel) (by simp only [List.length_nil]; omega) hB ?_; intro v' w' ho' hb' hs')
          go_roundw
          case rel => exact ⟨.inr (.inl ⟨by go_num, by simpa using ho'⟩), hbel.trans hb'⟩
          case measure => simp [intOf]
        · go_wp2_with (at_builtin; refine app_row rfl (.tmp 31) (.tmp 32) rfl w.heap.size _ xs ys a2 k2 rfl ho (by rw [← e2.out]; rfl) (hy.below hbel) (by omega) hB ?_; intro v' w' ho' hb' hs')
          go_roundw
          case rel => exact ⟨.inr (.inr ⟨by go_num, ho'⟩), hbel.trans hb'⟩
          case measure => simp [intOf]
        · go_wp2
          go_ret
          exact ⟨_, rfl, ho, hbel⟩

end Go.Proofs.YtaplaoelamnoiaaGreatDoor

/- Appending a row that may be the nil slice; slices.Concat of two such; the calls prod.known of one function. Condition: short rows. -/
namespace Go.Proofs.YtaplaoelamnoiaaGreatDoor
open Go.RowKit Go.Lib

/-- out = append(out, s...), out the call's own, s any row that is there, or nil. -/
theorem app_opt {w : World} {ops : Array Oper} {rest : List Oper} {o : Oper} {a : Act} {Q : Exit → Act → World → Prop} (hgd : o.guard = none) (s x : Operand)
    (ho : o.op = .call { callee := .builtin .append, args := #[s, x], argTypes := #[22, 22] })
    (B : Nat) (v : Value) (ys zs : List Int) (b : Option Addr) (c : Nat) (hs : a.eval s = v) (hown : Own w B v ys) (hx : a.eval x = .slice b zs.length c) (hrow : Row w b zs)
    (hlen : ys.length + zs.length < 17592186044416) (hB : B ≤ w.heap.size)
    (h : ∀ v' w', Own w' B v' (ys ++ zs) → Below B w w' → w.heap.size ≤ w'.heap.size → wpList Tryz.prog ops Q rest (a.put o.dst v') w') :
    wpList Tryz.prog ops Q (o :: rest) a w := by
  cases b with
  | some p => exact app_row hgd s x ho B v ys zs p c hs hown hx hrow hlen hB h
  | none =>
    obtain rfl : zs = [] := by
      cases zs with
      | nil => rfl
      | cons z r => obtain ⟨b, o, e, _⟩ := hrow 0 (by simp); cases e
    obtain ⟨av, cv, rfl, hle, -, -⟩ := hown.view
    obtain ⟨i0, hi, hz0, hz1, hz2⟩ := info_parts Tryz.infoInt
    have hr : ∀ ty, (Builtin.append_ #[22, 22] ty #[.slice av ys.length cv, .slice none 0 c]).run Tryz.prog w = .ok (.slice av ys.length cv) w := fun ty =>
      run_append_nothing w 22 22 ty 3 i0 Tryz.underlying22 hi av ys.length cv hle _ (Src.ofNil w Tryz.underlying22 c)
    refine wpList_appendBy hgd s x 22 22 ho _ _ _ hs hx hr (h _ _ ?_ (Below.refl _ _) (Nat.le_refl _))
    rw [List.append_nil]; exact hown

set_option maxHeartbeats 4000000 in
theorem concat2o_any (g : Nat) (a1 a2 : Option Addr) (k1 k2 : Nat) (xs ys : List Int) (l1 l2 : Nat) (w : World) (c0 : w.cell? ⟨g, 0, none⟩ = some (.slice a1 l1 k1)) (c1 : w.cell? ⟨g, 1, none⟩ = some (.slice a2 l2 k2))
    (hx : Row w a1 xs) (hy : Row w a2 ys) (hl : xs.length + ys.length ≤ 4096) (e1 : l1 = xs.length) (e2 : l2 = ys.length) :
    Calls Tryz.prog 135 #[.slice (some ⟨g, 0, none⟩) 2 2] w fun e w' => ∃ v, e = .returned v ∧ Own w' w.heap.size v (xs ++ ys) ∧ Below w.heap.size w w' := by
  have hl1 : l1 + l2 ≤ 4096 := by omega
  replace e1 := Lib.hid e1
  replace e2 := Lib.hid e2
  go_enter Tryz.func135, Tryz.ntmps135
  go_wp2
  go_loop [3, 11] (fun v i => (i = .int .i64 0 ∧ v = .int .i64 0) ∨ (i = .int .i64 1 ∧ v = .int .i64 (l1 : Int)) ∨ (i = .int .i64 2 ∧ v = .int .i64 ((l1 + l2 : Nat) : Int))) (fun _ i => 2 - (intOf i).toNat)
  case atStart => exact .inl ⟨rfl, rfl⟩
  case round =>
    rcases hrel with ⟨rfl, rfl⟩ | ⟨rfl, rfl⟩ | ⟨rfl, rfl⟩
    · go_wp2
      go_round
      case rel => exact .inr (.inl ⟨by go_num, by go_num⟩)
      case measure => simp [intOf]
    · go_wp2
      go_round
      case rel => exact .inr (.inr ⟨by go_num, by go_num⟩)
      case measure => simp [intOf]
    · have hlt : ¬ (((l1 + l2 : Nat) : Int) < 0) := by omega
      obtain ⟨m, hm⟩ : ∃ m, m = l1 + l2 := ⟨_, rfl⟩
      rw [← hm] at hlt ⊢
      have hm4 : m ≤ 4096 := by omega
      replace hm := Lib.hid hm
      go_wp2_with fail
      refine (grow_nil m w hm4).mono ?_
      rintro e w1 ⟨v1, rfl, ho, hb⟩
      have c0' := (hb.cell (World.block_lt_of_cell? _ _ c0)).trans c0
      have c1' := (hb.cell (World.block_lt_of_cell? _ _ c1)).trans c1
      go_wp2
      go_loopw [6, 27] (fun v i wr => ((i = .int .i64 0 ∧ Own wr w.heap.size v []) ∨ (i = .int .i64 1 ∧ Own wr w.heap.size v xs) ∨ (i = .int .i64 2 ∧ Own wr w.heap.size v (xs ++ ys))) ∧ Below w.heap.size w wr) (fun _ i _ => 2 - (intOf i).toNat)
      case atStart => exact ⟨.inl ⟨rfl, ho⟩, hb⟩
      case round =>
        clear ho hb c0' c1'
        obtain ⟨hcase, hbel⟩ := hrel
        have hB := hbel.size
        have d0 := (hbel.cell (World.block_lt_of_cell? _ _ c0)).trans c0
        have d1 := (hbel.cell (World.block_lt_of_cell? _ _ c1)).trans c1
        rcases hcase with ⟨rfl, ho⟩ | ⟨rfl, ho⟩ | ⟨rfl, ho⟩
        · go_wp2_with (at_builtin; refine app_opt rfl (.tmp 31) (.tmp 32) rfl w.heap.size _ [] xs a1 k1 rfl ho (by rw [← e1.out]; rfl) (hx.below hbel) (by simp only [List.length_nil]; omega) hB ?_; intro v' w' ho' hb' hs')
          go_roundw
          case rel => exact ⟨.inr (.inl ⟨by go_num, by simpa using ho'⟩), hbel.trans hb'⟩
          case measure => simp [intOf]
        · go_wp2_with (at_builtin; refine app_opt rfl (.tmp 31) (.tmp 32) rfl w.heap.size _ xs ys a2 k2 rfl ho (by rw [← e2.out]; rfl) (hy.below hbel) (by omega) hB ?_; intro v' w' ho' hb' hs')
          go_roundw
          case rel => exact ⟨.inr (.inr ⟨by go_num, ho'⟩), hbel.trans hb'⟩
          case measure => simp [intOf]
        · go_wp2
          go_ret
          exact ⟨_, rfl, ho, hbel⟩

set_option maxHeartbeats 4000000 in
theorem known1_any (f : Int) (b : Nat) (w : World) (c0 : w.cell? ⟨b, 0, none⟩ = some (.int .i64 f)) :
    Calls Tryz.prog 133 #[.slice (some ⟨b, 0, none⟩) 1 1] w fun e w' => e = .returned (errV (if M.fn2 f = true then 0 else 1)) ∧ ∃ n, w' = w.drewN n := by
  have k0 := fun W => cellTwo_any f 0 1 W (by unfold I64; omega) (by unfold I64; omega)
  by_cases hf : M.fn2 f = true
  case neg =>
    replace hf := Bool.eq_false_iff.2 hf
    have hv := two_unknown hf 0 1
    rw [hv] at k0
    dsimp only [resI] at k0
    replace k0 := Lib.hid k0
    rw [if_neg (by rw [hf]; exact Bool.noConfusion)]
    replace hf := Lib.hid hf
    replace hv := Lib.hid hv
    go_enter Tryz.func133, Tryz.ntmps133
    go_wp2
    go_loopw [9] (fun i wr => i = .int .i64 0 ∧ ∃ n, wr = w.drewN n) (fun i _ => 1 - (intOf i).toNat)
    case atStart => exact ⟨rfl, 0, rfl⟩
    case round =>
      obtain ⟨rfl, n, rfl⟩ := hrel
      go_wp2_with fail
      refine (k0.out (w.drewN n)).mono ?_
      rintro e w1 ⟨rfl, m, rfl⟩
      go_wp2
      go_ret
      exact ⟨rfl, _, rfl⟩
  obtain ⟨v, hv⟩ := two_known hf
  rw [hv] at k0
  dsimp only [resI] at k0
  replace k0 := Lib.hid k0
  rw [if_pos hf]
  replace hf := Lib.hid hf
  replace hv := Lib.hid hv
  go_enter Tryz.func133, Tryz.ntmps133
  go_wp2
  go_loopw [9] (fun i wr => ((i = .int .i64 0) ∨ (i = .int .i64 1)) ∧ ∃ n, wr = w.drewN n) (fun i _ => 1 - (intOf i).toNat)
  case atStart => exact ⟨.inl rfl, 0, rfl⟩
  case round =>
    obtain ⟨hcase, n, rfl⟩ := hrel
    rcases hcase with rfl | rfl
    · go_wp2_with fail
      refine (k0.out (w.drewN n)).mono ?_
      rintro e w1 ⟨rfl, m, rfl⟩
      go_wp2
      go_roundw
      case rel => exact ⟨.inr (by go_num), _, rfl⟩
      case measure => simp [intOf]
    · go_wp2
      go_ret
      exact ⟨rfl, _, rfl⟩
end Go.Proofs.YtaplaoelamnoiaaGreatDoor
