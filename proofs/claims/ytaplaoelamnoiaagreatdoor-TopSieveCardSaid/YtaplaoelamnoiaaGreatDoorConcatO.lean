/- Appending a row that may be the nil slice; slices.Concat of two such; the calls prod.known of one function. Condition: short rows. -/
import Derived.Test.YtaplaoelamnoiaaGreatDoorWkConcat
import Derived.Test.YtaplaoelamnoiaaGreatDoorBdT07
import Derived.Deep.Upon
namespace Go.Proofs.YtaplaoelamnoiaaGreatDoor
open Go.RowKit Go.Lib

/-- out = append(out, s...), out the call's own, s any row that is there, or nil. -/
theorem app_opt {w : World} {ops : Array Oper} {rest : List Oper} {o : Oper} {a : Act} {Q : Exit → Act → World → Prop} (hgd : o.guard = none) (s x : Operand)
    (ho : o.op = .call { callee := .builtin .append, args := #[s, x], argTypes := #[22, 22] })
    (B : Nat) (v : Value) (ys zs : List Int) (b : Option Addr) (c : Nat) (hs : a.eval s = v) (hown : Own w B v ys) (hx : a.eval x = .slice b zs.length c) (hrow : Row w b zs)
    (hlen : ys.length + zs.length < 17592186044416) (hB : B ≤ w.heap.size)
    (h : ∀ v' w', Own w' B v' (ys ++ zs) → Below B w w' → w.heap.size ≤ w'.heap.size → wpList Tryz.prog ops Q rest (a.put o.dst v') w') :
    wpList Tryz.prog ops Q (o :: rest) a w := by
  cases b with
  | some p => exact app_row hgd s x ho B v ys zs p c hs hown hx hrow hlen hB h
  | none =>
    obtain rfl : zs = [] := by
      cases zs with
      | nil => rfl
      | cons z r => obtain ⟨b, o, e, _⟩ := hrow 0 (by simp); cases e
    obtain ⟨av, cv, rfl, hle, -, -⟩ := hown.view
    obtain ⟨i0, hi, hz0, hz1, hz2⟩ := info_parts Tryz.infoInt
    have hr : ∀ ty, (Builtin.append_ #[22, 22] ty #[.slice av ys.length cv, .slice none 0 c]).run Tryz.prog w = .ok (.slice av ys.length cv) w := fun ty =>
      run_append_nothing w 22 22 ty 3 i0 Tryz.underlying22 hi av ys.length cv hle _ (Src.ofNil w Tryz.underlying22 c)
    refine wpList_appendBy hgd s x 22 22 ho _ _ _ hs hx hr (h _ _ ?_ (Below.refl _ _) (Nat.le_refl _))
    rw [List.append_nil]; exact hown

set_option maxHeartbeats 4000000 in
theorem concat2o_any (g : Nat) (a1 a2 : Option Addr) (k1 k2 : Nat) (xs ys : List Int) (l1 l2 : Nat) (w : World) (c0 : w.cell? ⟨g, 0, none⟩ = some (.slice a1 l1 k1)) (c1 : w.cell? ⟨g, 1, none⟩ = some (.slice a2 l2 k2))
    (hx : Row w a1 xs) (hy : Row w a2 ys) (hl : xs.length + ys.length ≤ 4096) (e1 : l1 = xs.length) (e2 : l2 = ys.length) :
    Calls Tryz.prog 135 #[.slice (some ⟨g, 0, none⟩) 2 2] w fun e w' => ∃ v, e = .returned v ∧ Own w' w.heap.size v (xs ++ ys) ∧ Below w.heap.size w w' := by
  have hl1 : l1 + l2 ≤ 4096 := by omega
  replace e1 := Lib.hid e1
  replace e2 := Lib.hid e2
  go_enter Tryz.func135, Tryz.ntmps135
  go_wp2
  go_loop [3, 11] (fun v i => (i = .int .i64 0 ∧ v = .int .i64 0) ∨ (i = .int .i64 1 ∧ v = .int .i64 (l1 : Int)) ∨ (i = .int .i64 2 ∧ v = .int .i64 ((l1 + l2 : Nat) : Int))) (fun _ i => 2 - (intOf i).toNat)
  case atStart => exact .inl ⟨rfl, rfl⟩
  case round =>
    rcases hrel with ⟨rfl, rfl⟩ | ⟨rfl, rfl⟩ | ⟨rfl, rfl⟩
    · go_wp2
      go_round
      case rel => exact .inr (.inl ⟨by go_num, by go_num⟩)
      case measure => simp [intOf]
    · go_wp2
      go_round
      case rel => exact .inr (.inr ⟨by go_num, by go_num⟩)
      case measure => simp [intOf]
    · have hlt : ¬ (((l1 + l2 : Nat) : Int) < 0) := by omega
      obtain ⟨m, hm⟩ : ∃ m, m = l1 + l2 := ⟨_, rfl⟩
      rw [← hm] at hlt ⊢
      have hm4 : m ≤ 4096 := by omega
      replace hm := Lib.hid hm
      go_wp2_with fail
      refine (grow_nil m w hm4).mono ?_
      rintro e w1 ⟨v1, rfl, ho, hb⟩
      have c0' := (hb.cell (World.block_lt_of_cell? _ _ c0)).trans c0
      have c1' := (hb.cell (World.block_lt_of_cell? _ _ c1)).trans c1
      go_wp2
      go_loopw [6, 27] (fun v i wr => ((i = .int .i64 0 ∧ Own wr w.heap.size v []) ∨ (i = .int .i64 1 ∧ Own wr w.heap.size v xs) ∨ (i = .int .i64 2 ∧ Own wr w.heap.size v (xs ++ ys))) ∧ Below w.heap.size w wr) (fun _ i _ => 2 - (intOf i).toNat)
      case atStart => exact ⟨.inl ⟨rfl, ho⟩, hb⟩
      case round =>
        clear ho hb c0' c1'
        obtain ⟨hcase, hbel⟩ := hrel
        have hB := hbel.size
        have d0 := (hbel.cell (World.block_lt_of_cell? _ _ c0)).trans c0
        have d1 := (hbel.cell (World.block_lt_of_cell? _ _ c1)).trans c1
        rcases hcase with ⟨rfl, ho⟩ | ⟨rfl, ho⟩ | ⟨rfl, ho⟩
        · go_wp2_with (at_builtin; refine app_opt rfl (.tmp 31) (.tmp 32) rfl w.heap.size _ [] xs a1 k1 rfl ho (by rw [← e1.out]; rfl) (hx.below hbel) (by simp only [List.length_nil]; omega) hB ?_; intro v' w' ho' hb' hs')
          go_roundw
          case rel => exact ⟨.inr (.inl ⟨by go_num, by simpa using ho'⟩), hbel.trans hb'⟩
          case measure => simp [intOf]
        · go_wp2_with (at_builtin; refine app_opt rfl (.tmp 31) (.tmp 32) rfl w.heap.size _ xs ys a2 k2 rfl ho (by rw [← e2.out]; rfl) (hy.below hbel) (by omega) hB ?_; intro v' w' ho' hb' hs')
          go_roundw
          case rel => exact ⟨.inr (.inr ⟨by go_num, ho'⟩), hbel.trans hb'⟩
          case measure => simp [intOf]
        · go_wp2
          go_ret
          exact ⟨_, rfl, ho, hbel⟩

set_option maxHeartbeats 4000000 in
theorem known1_any (f : Int) (b : Nat) (w : World) (c0 : w.cell? ⟨b, 0, none⟩ = some (.int .i64 f)) :
    Calls Tryz.prog 133 #[.slice (some ⟨b, 0, none⟩) 1 1] w fun e w' => e = .returned (errV (if M.fn2 f = true then 0 else 1)) ∧ ∃ n, w' = w.drewN n := by
  have k0 := fun W => cellTwo_any f 0 1 W (by unfold I64; omega) (by unfold I64; omega)
  by_cases hf : M.fn2 f = true
  case neg =>
    replace hf := Bool.eq_false_iff.2 hf
    have hv := two_unknown hf 0 1
    rw [hv] at k0
    dsimp only [resI] at k0
    replace k0 := Lib.hid k0
    rw [if_neg (by rw [hf]; exact Bool.noConfusion)]
    replace hf := Lib.hid hf
    replace hv := Lib.hid hv
    go_enter Tryz.func133, Tryz.ntmps133
    go_wp2
    go_loopw [9] (fun i wr => i = .int .i64 0 ∧ ∃ n, wr = w.drewN n) (fun i _ => 1 - (intOf i).toNat)
    case atStart => exact ⟨rfl, 0, rfl⟩
    case round =>
      obtain ⟨rfl, n, rfl⟩ := hrel
      go_wp2_with fail
      refine (k0.out (w.drewN n)).mono ?_
      rintro e w1 ⟨rfl, m, rfl⟩
      go_wp2
      go_ret
      exact ⟨rfl, _, rfl⟩
  obtain ⟨v, hv⟩ := two_known hf
  rw [hv] at k0
  dsimp only [resI] at k0
  replace k0 := Lib.hid k0
  rw [if_pos hf]
  replace hf := Lib.hid hf
  replace hv := Lib.hid hv
  go_enter Tryz.func133, Tryz.ntmps133
  go_wp2
  go_loopw [9] (fun i wr => ((i = .int .i64 0) ∨ (i = .int .i64 1)) ∧ ∃ n, wr = w.drewN n) (fun i _ => 1 - (intOf i).toNat)
  case atStart => exact ⟨.inl rfl, 0, rfl⟩
  case round =>
    obtain ⟨hcase, n, rfl⟩ := hrel
    rcases hcase with rfl | rfl
    · go_wp2_with fail
      refine (k0.out (w.drewN n)).mono ?_
      rintro e w1 ⟨rfl, m, rfl⟩
      go_wp2
      go_roundw
      case rel => exact ⟨.inr (by go_num), _, rfl⟩
      case measure => simp [intOf]
    · go_wp2
      go_ret
      exact ⟨rfl, _, rfl⟩
end Go.Proofs.YtaplaoelamnoiaaGreatDoor
