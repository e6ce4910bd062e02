/- The call pick.check of an array and one index. Condition: both are sound. -/
import Derived.Test.YtaplaoelamnoiaaGreatDoorBg05
import Derived.Test.YtaplaoelamnoiaaGreatDoorBg02
import Derived.Test.YtaplaoelamnoiaaGreatDoorBg04
import Derived.Test.YtaplaoelamnoiaaGreatDoorBg09
import Derived.Deep.Upon
namespace Go.Proofs.YtaplaoelamnoiaaGreatDoor
open Go.RowKit Go.Lib

theorem Tryz.infoArray : (Tryz.prog.info? 24).map (fun i => (i.zero, i.size, i.bytes)) = some (some (.agg #[.bool false, .slice none 0 0, .slice none 0 0]), 3, 56) := by kernel_rfl
/-- append(s, none...) leaves s. -/
theorem app_none {w : World} {ops : Array Oper} {rest : List Oper} {o : Oper} {a : Act} {Q : Exit → Act → World → Prop} (t e : TypeId) (i : TypeInfo) (ht : Tryz.prog.underlying t = some (.slice e)) (hi : Tryz.prog.info? e = some i) (hgd : o.guard = none) (s x : Operand)
    (ho : o.op = .call { callee := .builtin .append, args := #[s, x], argTypes := #[t, t] }) (p : Option Addr) (n c c' : Nat) (hs : a.eval s = .slice p n c) (hnc : n ≤ c) (hx : a.eval x = .slice none 0 c')
    (h : wpList Tryz.prog ops Q rest (a.put o.dst (.slice p n c)) w) : wpList Tryz.prog ops Q (o :: rest) a w := by
  have hr : (Builtin.append_ #[t, t] o.type #[.slice p n c, .slice none 0 c']).run Tryz.prog w = .ok (.slice p n c) w :=
    run_append_nothing w t t o.type e i ht hi p n c hnc _ (Src.ofNil w ht c')
  refine wpList_plain hgd fun K hK => ?_
  unfold Oper.wp execOp
  simp only [ho, resolve, invoke, builtin, Sem.run_bind, Sem.run_pure, Result.andThen_ok, List.map_toArray, List.map_cons, List.map_nil, hs, hx, hr]
  exact hK _ _ h

set_option maxRecDepth 20000 in
set_option maxHeartbeats 4000000 in
theorem pkcheck_any (x y : Arr) (a : Option Addr) (c : Nat) (b : Option Addr) (k : Nat) (a' : Option Addr) (c' : Nat) (b' : Option Addr) (k' B : Nat) (w : World) (hx : M.flaw x.ch x.s x.d = 0) (hy : M.flaw y.ch y.s y.d = 0)
    (hs : Row w a x.s) (hd : Row w b x.d) (hs' : Row w a' y.s) (hd' : Row w b' y.d)
    (hB : ∀ j u, [Value.bool y.ch, .slice a' y.s.length c', .slice b' y.d.length k'][j]? = some u → w.cell? ⟨B, j, none⟩ = some u) :
    Calls Tryz.prog 119 #[arrV x.ch a x.s.length c b x.d.length k, .slice (some ⟨B, 0, none⟩) 1 1, .slice none 0 0] w fun e w' => e = .returned .nilIface ∧ Below w.heap.size w w' := by
  have l1 := (flaw_len hx).2
  have l2 := (flaw_len hx).1
  have l3 := (flaw_len hy).2
  have l4 := (flaw_len hy).1
  have kc1 := fun W h1 h2 => check_any x.ch a b x.s x.d x.s.length c x.d.length k W h1 h2 (by simp only [maxLen]; omega) (by simp only [maxLen]; omega) rfl rfl
  have kc2 := fun W h1 h2 => check_any y.ch a' b' y.s y.d y.s.length c' y.d.length k' W h1 h2 (by simp only [maxLen]; omega) (by simp only [maxLen]; omega) rfl rfl
  rw [hx, errV_zero] at kc1
  rw [hy, errV_zero] at kc2
  obtain ⟨ch, s, d⟩ := x
  obtain ⟨ch', s', d'⟩ := y
  dsimp only at *
  generalize s.length = n1 at *
  generalize d.length = n2 at *
  generalize s'.length = n3 at *
  generalize d'.length = n4 at *
  have E := ((((Env.start w).addRow hd').addRow hs').addRow hd).addRow hs
  obtain ⟨W1, hW1⟩ : ∃ W : World, W = w.alloc (.cells #[.bool ch, .slice a n1 c, .slice b n2 k] 24) := ⟨_, rfl⟩
  have s1 : W1.heap.size = w.heap.size + 1 := by rw [hW1]; simp
  obtain ⟨W, hW⟩ : ∃ W : World, W = W1.alloc (.cells #[.bool ch, .slice a n1 c, .slice b n2 k] 24) := ⟨_, rfl⟩
  have hb1 : Below W1.heap.size W1 W := by rw [hW]; exact push (start W1) _
  have hO : W.ownsRow W1.heap.size 24 3 (.slice (some ⟨W1.heap.size, 0, none⟩) 1 1) 1 [.bool ch, .slice a n1 c, .slice b n2 k] := by
    rw [hW]
    exact ⟨rfl, .inr ⟨W1.heap.size, 1, _, rfl, Nat.le_refl _, heap_alloc_new _ _, Nat.le_refl _, by simp [maxLen], rfl, rfl⟩⟩
  have hBW : ∀ j u, [Value.bool ch', .slice a' n3 c', .slice b' n4 k'][j]? = some u → W.cell? ⟨B, j, none⟩ = some u := fun j u h => by
    have h1 := hB j u h
    have h2 : B < w.heap.size := World.block_lt_of_cell? w _ h1
    have hbw : Below w.heap.size w W1 := by rw [hW1]; exact push (start w) _
    exact (hb1.cell (by show B < _; omega)).trans ((hbw.cell (by exact h2)).trans h1)
  have hW' : Hid ((w.alloc (.cells #[.bool ch, .slice a n1 c, .slice b n2 k] 24)).alloc (.cells #[.bool ch, .slice a n1 c, .slice b n2 k] 24) = W) := Lib.hid (by rw [hW, hW1])
  obtain ⟨i0, hi, hz0, hz1, hz2⟩ := info_parts Tryz.infoArray
  rw [s1] at hO
  have hsW : W.heap.size = w.heap.size + 1 + 1 := by rw [hW, World.size_alloc, s1]
  have hne : w.heap.size ≠ B := by
    have h2 : B < w.heap.size := World.block_lt_of_cell? w _ (hB 0 _ rfl)
    omega
  have hbW : Below w.heap.size w W := by rw [hW, hW1]; exact push (push (start w) _) _
  replace hbW := Lib.hid hbW
  replace hW := Lib.hid hW
  replace hW1 := Lib.hid hW1
  replace s1 := Lib.hid s1
  replace kc1 := Lib.hid kc1
  replace kc2 := Lib.hid kc2
  replace hi := Lib.hid hi
  replace hz0 := Lib.hid hz0
  replace hz1 := Lib.hid hz1
  replace hz2 := Lib.hid hz2
  replace hO := Lib.hid hO
  replace hBW := Lib.hid hBW
  replace E := Lib.hid E
  replace hb1 := Lib.hid hb1
  replace hsW := Lib.hid hsW
  clear hx hy l1 l2 l3 l4 hs hd hs' hd' hB
  go_enter Tryz.func119, Tryz.ntmps119
  go_wp2_with (first
    | (at_builtin; rw [hW'.out]; refine app_E 161 24 i0 _ 3 56 Tryz.underlying161 hi.out hz0.out hz1.out hz2.out rfl (by decide) rfl (.tmp 11) (.tmp 12) rfl (w.heap.size + 1) _ 1 [.bool ch, .slice a n1 c, .slice b n2 k] [.bool ch', .slice a' n3 c', .slice b' n4 k'] B rfl hO.out rfl rfl hBW.out (by simp [Value.oneCell']) (by unfold maxLen; omega) (by omega) (by have := hsW.out; omega) ?_; intro a2 c2 w2 hO2 hb2; obtain ⟨a3, c3, e0, hnc, hcs⟩ := ownE_view hO2; cases e0; obtain ⟨G, rfl, hG, hg0⟩ := hcs 0 _ rfl; replace hb2 := Lib.hid hb2; replace hO2 := Lib.hid hO2; replace hcs := Lib.hid hcs)
    | (at_builtin; refine app_none 161 24 i0 Tryz.underlying161 hi.out rfl (.tmp 13) (.tmp 14) rfl (some ⟨G, 0, none⟩) 2 c2 0 rfl hnc rfl ?_)
    | fail)
  have hcell : ∀ j u, [Value.bool ch, .slice a n1 c, .slice b n2 k, .bool ch', .slice a' n3 c', .slice b' n4 k'][j]? = some u → w2.cell? ⟨G, j, none⟩ = some u := fun j u h => by
    obtain ⟨G', e, _, hc⟩ := hcs.out j u h
    cases e
    exact hc
  have E2 := Lib.hid (E.out.step (hbW.out.trans (hb2.out.mono (by omega))))
  have hGw : G < w2.heap.size := World.block_lt_of_cell? w2 _ hg0
  replace hcell := Lib.hid hcell
  clear hg0
  go_loopw [17] (fun vi wr => ∃ i : Nat, vi = .int .i64 i ∧ i ≤ 2 ∧ Below w2.heap.size w2 wr) (fun vi _ => 2 - (RowKit.intOf vi).toNat)
  case atStart => exact ⟨0, rfl, by omega, Below.refl _ _⟩
  case round =>
    obtain ⟨i, rfl, hi2, hbel⟩ := hrel
    have EX := E2.out.step hbel
    have gc := fun j u h => (hbel.cell (p := ⟨G, j, none⟩) hGw).trans (hcell.out j u h)
    have hba1 := push (start wr) (.cells #[.bool ch, .slice a n1 c, .slice b n2 k] 24)
    have hba2 := push (start wr) (.cells #[.bool ch', .slice a' n3 c', .slice b' n4 k'] 24)
    match i, hi2 with
    | 0, _ =>
      have y0 := gc 0 _ rfl
      have y1 := gc 1 _ rfl
      have y2 := gc 2 _ rfl
      replace EX := Lib.hid (EX.step hba1)
      have hbA := Lib.hid (hbel.trans (hba1.mono hbel.size))
      clear gc
      replace hbel := Lib.hid hbel
      go_wp2_with fail
      refine (kc1.out _ (EX.out.getRow 0 rfl) (EX.out.getRow 1 rfl)).mono ?_
      rintro en w5 ⟨rfl, hb5⟩
      have hb6 := Lib.hid (hbA.out.trans (hb5.mono hbA.out.size))
      clear y0 y1 y2 hb5
      go_wp2
      go_roundw
      case rel => exact ⟨1, by go_num, by omega, hb6.out⟩
      case measure => simp [RowKit.intOf]
    | 1, _ =>
      have y0 := gc 3 _ rfl
      have y1 := gc 4 _ rfl
      have y2 := gc 5 _ rfl
      replace EX := Lib.hid (EX.step hba2)
      have hbA := Lib.hid (hbel.trans (hba2.mono hbel.size))
      clear gc
      replace hbel := Lib.hid hbel
      go_wp2_with fail
      refine (kc2.out _ (EX.out.getRow 2 rfl) (EX.out.getRow 3 rfl)).mono ?_
      rintro en w5 ⟨rfl, hb5⟩
      have hb6 := Lib.hid (hbA.out.trans (hb5.mono hbA.out.size))
      clear y0 y1 y2 hb5
      go_wp2
      go_roundw
      case rel => exact ⟨2, by go_num, by omega, hb6.out⟩
      case measure => simp [RowKit.intOf]
    | 2, _ =>
      have hfin := Lib.hid (EX.bel)
      replace hbel := Lib.hid hbel
      replace EX := Lib.hid EX
      clear gc hba1 hba2
      go_wp2
      go_ret
      exact ⟨rfl, hfin.out⟩
end Go.Proofs.YtaplaoelamnoiaaGreatDoor
