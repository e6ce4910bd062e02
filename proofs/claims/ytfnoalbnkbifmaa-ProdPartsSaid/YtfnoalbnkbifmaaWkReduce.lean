/- The call fold.Reduce along the last axis. Condition: rows that lie; the array is sound, of numbers, of few lines. -/
import Derived.Test.YtfnoalbnkbifmaaWkFolded
import Derived.Test.YtfnoalbnkbifmaaWkClone
import Derived.Test.YtfnoalbnkbifmaaWkDelete
import Derived.Test.YtfnoalbnkbifmaaWkNeutral
import Derived.Laws.EntriesVeiled
namespace Go.Proofs.Ytfnoalbnkbifmaa
open Go.RowKit

namespace M
/-- An array without its last axis. -/
def reduce (f : Int) (u : List Int) (P : Nat) (d : List Int) : Except Int Arr :=
  match lone f P with
  | .error e => .error e
  | .ok _ => match seqE (alongO u).toNat (lastFold f d P) with
    | .error e => .error e
    | .ok l => .ok ⟨false, u, l⟩
end M

theorem alongO_bound {u : List Int} (h : ∀ x ∈ u, 0 ≤ x) : 0 ≤ M.alongO u := by
  unfold M.alongO; split
  · omega
  · exact prod_nonneg h
theorem prod_zero {u : List Int} (h : M.anyZero u = true) : M.prod u = 0 := by
  induction u with
  | nil => cases h
  | cons x r ih =>
    unfold M.anyZero at h
    rw [List.any_cons, Bool.or_eq_true] at h
    show x * M.prod r = 0
    rcases h with h | h
    · rw [beq_iff_eq.1 h, Int.zero_mul]
    · rw [ih h, Int.mul_zero]
theorem alongO_prod (u : List Int) : M.alongO u = M.prod u := by
  unfold M.alongO
  split
  · rename_i h; exact (prod_zero h).symm
  · rfl

set_option maxRecDepth 20000 in
set_option maxHeartbeats 8000000 in
theorem folded_none (f P : Int) (a b sa : Option Addr) (t : List Int) (m c n z sc L : Nat) (w : World) (ht : Row w sa t) :
    Calls Try.prog 31 #[.agg #[.int .i64 0, .int .i64 P, .int .i64 0], .int .i64 f, arrV false a m c b n z, .slice sa t.length sc, .int .i64 1, .func (.func 32) #[] #[], .func (.func 33) #[] #[.pointer (some ⟨L, 0, none⟩)]] w fun e w' =>
      ArrPost (.ok ⟨false, t, []⟩) w e w' := by
  have E0 := ((Env.start w).addRow ht).step (push (start w) (.cells #[.int .i64 0, .int .i64 P, .int .i64 0] 61))
  have E := ((E0.box false a m c b n z).box false none 0 0 none 0 0).box false sa t.length sc none 0 0
  simp only [World.size_alloc] at E
  clear E0
  obtain ⟨w4, hw4⟩ : ∃ w4 : World, w4 = (((w.alloc (.cells #[.int .i64 0, .int .i64 P, .int .i64 0] 61)).alloc (.cells #[.bool false, .slice a m c, .slice b n z] 25)).alloc (.cells #[.bool false, .slice none 0 0, .slice none 0 0] 25)).alloc (.cells #[.bool false, .slice sa t.length sc, .slice none 0 0] 25) := ⟨_, rfl⟩
  have hln : w4.cell? ⟨w.heap.size, 0, none⟩ = some (.int .i64 0) := by rw [hw4]; simp [go_sem]
  rw [← hw4] at E
  obtain ⟨⟨u0, u1, u2⟩, -, -, -⟩ := E.getBox 0 rfl
  obtain ⟨⟨z0, z1, z2⟩, z3, z4, z5⟩ := E.getBox 1 rfl
  have rt := E.getRow 3 rfl
  have hbel := E.bel
  replace hw4 := Lib.hid hw4
  clear E ht
  go_enter Try.func31, Try.ntmps31
  go_wp2
  rw [← hw4.out]
  go_loopw [28] (fun v wr => v = .int .i64 0 ∧ wr = w4) (fun v _ => 0)
  case atStart => exact ⟨rfl, rfl⟩
  case round =>
    obtain ⟨rfl, hwr⟩ := hrel
    subst hwr
    clear hw4
    go_wp2
    refine bodyPost_ret (v := .tuple #[arrV false sa t.length sc none 0 0, .nilIface]) (by simp [results, Try.results31, go_sem, cell?_set_same, z0, z1, z2]) rfl ?_
    refine ArrPost.ok (x := ⟨false, t, []⟩) rfl rfl ?_ (Row.nil _ _) (set3 hbel (by omega) _ _ _)
    exact ((Row.set_ne rt z0 (by simp)).set_ne ((World.cell?_setCell_other _ _ _ _ (by simp)).trans z1) (by simp)).set_ne ((World.cell?_setCell_other _ _ _ _ (by simp)).trans ((World.cell?_setCell_other _ _ _ _ (by simp)).trans z2)) (by simp)

set_option maxRecDepth 20000 in
set_option maxHeartbeats 8000000 in
theorem reduce_any (f : Int) (hf : M.fn2 f = true) (a b : Option Addr) (u : List Int) (P : Nat) (d : List Int) (c z : Nat) (w : World) (hs : Row w a (u ++ [(P : Int)])) (hd : Row w b d) (ld : d.length ≤ maxLen) (hd64 : All64 d) (hfl : M.flaw false (u ++ [(P : Int)]) d = 0) (hu4 : M.prod u ≤ 4096) :
    Calls Try.prog 10 #[.int .i64 f, .int .i64 u.length, arrV false a (u.length + 1) c b d.length z] w fun e w' => ArrPost (M.reduce f u P d) w e w' := by
  have l1 : (u ++ [(P : Int)]).length = u.length + 1 := by simp
  obtain ⟨q1, h1, hdl⟩ := flaw_parts hfl
  obtain ⟨a1, a2, a3, a4, a5⟩ := M.count_ok h1
  rw [l1] at a1
  have hu0 : ∀ x ∈ u, 0 ≤ x ∧ x ≤ 4096 := fun x hx => a2 x (by simp [hx])
  have hP4 : P ≤ 4096 := by have := a2 (P : Int) (by simp); omega
  have hO0 := alongO_bound fun x hx => (hu0 x hx).1
  obtain ⟨O, hO⟩ : ∃ O : Nat, M.alongO u = (O : Int) := ⟨(M.alongO u).toNat, by omega⟩
  have hO4 : O ≤ 4096 := by rw [alongO_prod] at hO; omega
  have hlen : d.length = O * P := by
    have e : M.prod (u ++ [(P : Int)]) = M.prod u * P := by rw [prod_append]; simp [M.prod]
    rw [e, ← alongO_prod, hO] at a3
    have : (d.length : Int) = ((O * P : Nat) : Int) := by rw [hdl, a3]; simp
    omega
  have hl4 : d.length ≤ 4096 := by omega
  have kl := fun W h1 h2 => along_any f hf a b u P d c z W h1 h2 ld hfl
  have kn := fun W => neutral_any f W
  have kc := fun W h => clone_any a (u ++ [(P : Int)]) (u.length + 1) c W h (by rw [l1]; omega) l1.symm
  have kd : ∀ (v : Value) (B : Nat) (W : World), Own W B v (u ++ [(P:Int)]) → Calls Try.prog 29 #[v, .int .i64 u.length, .int .i64 ((u.length : Int) + 1)] W fun e w' => ∃ v', e = .returned v' ∧ Own w' B v' u ∧ Below B W w' := fun v B W h => by
    have := delete_any v (u ++ [(P : Int)]) B u.length W h (by rw [l1]; omega)
    rw [show (u ++ [(P : Int)]).take u.length ++ (u ++ [(P : Int)]).drop (u.length + 1) = u by simp] at this
    exact this
  have E := ((((Env.start w).addRow hd).addRow hs).box false a (u.length + 1) c b d.length z).box false none 0 0 none 0 0
  simp only [World.size_alloc] at E
  obtain ⟨r, hr⟩ : ∃ r, r = M.reduce f u P d := ⟨_, rfl⟩
  rw [← hr]
  unfold M.reduce at hr
  have hI : (O = 0 ∧ M.alongI u = 0) ∨ M.alongI u = 1 := by
    unfold M.alongI
    split
    · rename_i h
      left
      refine ⟨?_, rfl⟩
      rw [alongO_prod, prod_zero h] at hO; omega
    · right; rfl
  have kf : ∀ (W : World) (sa : Option Addr) (sc L : Nat), Row W a (u ++ [(P : Int)]) → Row W b d → Row W sa u → W.cell? ⟨L, 1, none⟩ = some (.int .i64 P) →
      Calls Try.prog 31 #[.agg #[.int .i64 O, .int .i64 P, .int .i64 (M.alongI u)], .int .i64 f, arrV false a (u.length + 1) c b d.length z, .slice sa u.length sc, .int .i64 1, .func (.func 32) #[] #[], .func (.func 33) #[] #[.pointer (some ⟨L, 0, none⟩)]] W fun e w' =>
      ArrPost (match M.seqE O (M.lastFold f d P) with | .error e => .error e | .ok l => .ok ⟨false, u, l⟩) W e w' := fun W sa sc L h1 h2 h3 h4 => by
    rcases hI with ⟨h0, hi⟩ | hi
    · rw [hi, h0]
      exact folded_none f P a b sa u _ c _ z sc L W h3
    · rw [hi, ← l1]
      exact folded_one f O P a b sa _ u d c z sc L W h1 h2 h3 h4 hd64 hO4 hP4 hlen hl4
  obtain ⟨Q, hQ, hQ4⟩ : ∃ Q : Nat, wrap64 ((O : Int) * M.alongI u) = (Q : Int) ∧ Q ≤ 4096 := by
    rcases hI with ⟨h0, hi⟩ | hi
    · rw [hi, Int.mul_zero]; exact ⟨0, IntWalk.wrap64_in _ (by omega), by omega⟩
    · rw [hi, Int.mul_one]; exact ⟨O, IntWalk.wrap64_in _ (by omega), hO4⟩
  rw [hO] at kl hr
  simp only [Int.toNat_natCast] at hr
  generalize M.alongI u = I at *
  replace kf := Lib.hid kf
  replace kl := Lib.hid kl
  replace kn := Lib.hid kn
  replace kc := Lib.hid kc
  replace kd := Lib.hid kd
  replace hr := Lib.hid hr
  replace hlen := Lib.hid hlen
  replace hO := Lib.hid hO
  replace hI := Lib.hid hI
  replace l1 := Lib.hid l1
  clear hs hd hf hfl h1 a2 a3 a4 a5 hu0 hO0 hdl ld hu4
  go_enter Try.func10, Try.ntmps10
  obtain ⟨⟨u0, u1, u2⟩, -, -, -⟩ := E.getBox 1 rfl
  go_wp2_with fail
  refine (kl.out _ (E.getRow 2 rfl) (E.getRow 3 rfl)).mono ?_
  rintro e w3 ⟨rfl, hb⟩
  have E3 := (E.step hb).step (push (start w3) (.cells #[.int .i64 O, .int .i64 P, .int .i64 I] 61))
  have hL : ((w3.alloc (.cells #[.int .i64 O, .int .i64 P, .int .i64 I] 61)).cell? ⟨w3.heap.size, 0, none⟩ = some (.int .i64 O) ∧ (w3.alloc (.cells #[.int .i64 O, .int .i64 P, .int .i64 I] 61)).cell? ⟨w3.heap.size, 1, none⟩ = some (.int .i64 P) ∧ (w3.alloc (.cells #[.int .i64 O, .int .i64 P, .int .i64 I] 61)).cell? ⟨w3.heap.size, 2, none⟩ = some (.int .i64 I)) := by simp [go_sem]
  have hmf : ∀ (fn : Fn) (first cap : Array Value) (w : World), (Instr.makeFunc fn first cap).run Try.prog w = .ok (.func fn first cap) w := fun _ _ _ _ => rfl
  clear E hb u0 u1 u2
  have hLlt : w3.heap.size < (w3.alloc (.cells #[.int .i64 O, .int .i64 P, .int .i64 I] 61)).heap.size := by simp
  by_cases hP0 : P = 0
  case neg =>
    have eP : (((P : Nat) : Int) == 0) = false := by rw [beq_eq_false_iff_ne]; omega
    have hr5 := hr.out
    rw [show M.lone f P = .ok 0 by unfold M.lone; rw [if_neg (by omega)]] at hr5
    dsimp only at hr5
    replace hr5 := Lib.hid hr5
    obtain ⟨w5, hw5⟩ : ∃ w5 : World, w5 = w3.alloc (.cells #[.int .i64 O, .int .i64 P, .int .i64 I] 61) := ⟨_, rfl⟩
    have E5 := E3
    rw [← hw5] at E5 hL hLlt
    obtain ⟨L0, L1, L2⟩ := hL
    have hw5' := hw5.symm
    replace hw5 := Lib.hid hw5
    clear E3
    obtain ⟨⟨u0, u1, u2⟩, -, -, -⟩ := E5.getBox 1 rfl
    go_wp2_with fail
    refine (kc.out _ (E5.getRow 2 rfl)).mono ?_
    rintro e w6 ⟨v6, rfl, o6, hb6⟩
    go_wp2_with fail
    refine (kd.out _ _ _ o6).mono ?_
    rintro e w7 ⟨v7, rfl, o7, hb7⟩
    obtain ⟨av, cv, rfl, -, -, r7⟩ := o7.view
    have hb57 := hb6.trans hb7
    replace E5 := E5.step hb57
    have M1 := (hb57.cell (p := ⟨w3.heap.size, 1, none⟩) hLlt).trans L1
    have M0 := (hb57.cell (p := ⟨w3.heap.size, 0, none⟩) hLlt).trans L0
    have M2 := (hb57.cell (p := ⟨w3.heap.size, 2, none⟩) hLlt).trans L2
    clear u0 u1 u2 L0 L1 L2 o6 hb6 o7 hb7
    obtain ⟨⟨u0, u1, u2⟩, -, -, -⟩ := E5.getBox 1 rfl
    have hkf := kf.out w7 av cv w3.heap.size (E5.getRow 2 rfl) (E5.getRow 3 rfl) r7 M1
    obtain ⟨⟨z0, z1, z2⟩, z3, z4, z5⟩ := E5.getBox 0 rfl
    have hbel := E5.bel
    have hfw := E5.getBox 0 rfl
    rw [← hr5.out] at hkf
    replace hkf := Lib.hid hkf
    clear E5 r7 hb57
    go_wp2_with fail
    refine hkf.out.mono ?_
    intro e w9 hp
    have hb9 := hp.2.2
    have hR := held3 hb9 ⟨z0, z1, z2⟩
    have hF := frozen3 hb9 (World.block_lt_of_cell? w7 _ z0) ⟨z3, z4, z5⟩
    clear z0 z1 z2 z3 z4 z5 hfw
    obtain ⟨z0, z1, z2⟩ := hR
    obtain ⟨z3, z4, z5⟩ := hF
    have hbx := hbel.trans (hb9.mono hbel.size)
    cases r with
    | error x =>
      obtain ⟨rfl, -⟩ := hp.is_error rfl
      clear hp hr hr5 u0 u1 u2
      go_wp2
      refine bodyPost_ret (v := .tuple #[arrV false none 0 0 none 0 0, .iface 45 (.int .i64 x)]) (by simp [results, Try.results10, go_sem, cell?_set_same, z0, z1, z2]) rfl ?_
      exact .error rfl rfl (set3 hbx (by omega) _ _ _)
    | ok x =>
      obtain ⟨a9, c9, b9, k9, rfl, ra, rb, -⟩ := hp.is_ok rfl
      clear hp hr hr5 u0 u1 u2
      go_wp2
      refine bodyPost_ret (v := .tuple #[arrV x.ch a9 x.s.length c9 b9 x.d.length k9, .nilIface]) (by simp [results, Try.results10, go_sem, cell?_set_same, z0, z1, z2]) rfl ?_
      refine ArrPost.ok (x := x) rfl rfl ?_ ?_ (set3 hbx (by omega) _ _ _)
      · exact ((Row.set_ne ra z0 (by simp)).set_ne ((World.cell?_setCell_other _ _ _ _ (by simp)).trans z1) (by simp)).set_ne ((World.cell?_setCell_other _ _ _ _ (by simp)).trans ((World.cell?_setCell_other _ _ _ _ (by simp)).trans z2)) (by simp)
      · exact ((Row.set_ne rb z0 (by simp)).set_ne ((World.cell?_setCell_other _ _ _ _ (by simp)).trans z1) (by simp)).set_ne ((World.cell?_setCell_other _ _ _ _ (by simp)).trans ((World.cell?_setCell_other _ _ _ _ (by simp)).trans z2)) (by simp)
  case pos =>
    have eP : (((P : Nat) : Int) == 0) = true := by rw [hP0]; rfl
    have hl : M.lone f P = M.neutral f := by unfold M.lone; rw [if_pos (by omega)]
    have hr4 := hr.out
    rw [hl] at hr4
    replace hl := Lib.hid hl
    replace hP0 := Lib.hid hP0
    obtain ⟨w5, hw5⟩ : ∃ w5 : World, w5 = w3.alloc (.cells #[.int .i64 O, .int .i64 P, .int .i64 I] 61) := ⟨_, rfl⟩
    have E5 := E3
    rw [← hw5] at E5 hL hLlt
    obtain ⟨L0, L1, L2⟩ := hL
    have hw5' := hw5.symm
    replace hw5 := Lib.hid hw5
    clear E3
    cases hn : M.neutral f with
    | error x =>
      rw [hn] at hr4
      dsimp only at hr4
      replace hr4 := Lib.hid hr4
      replace hn := Lib.hid hn
      obtain ⟨⟨z0, z1, z2⟩, z3, z4, z5⟩ := E5.getBox 0 rfl
      have hbel := E5.bel
      clear E5
      go_wp2_with fail
      refine (kn.out _).mono ?_
      rw [hn.out]
      rintro e w6 ⟨rfl, rfl⟩
      dsimp only [resI]
      go_wp2
      refine bodyPost_ret (v := .tuple #[arrV false none 0 0 none 0 0, .iface 45 (.int .i64 x)]) (by simp [results, Try.results10, go_sem, cell?_set_same, z0, z1, z2]) rfl ?_
      exact .error hr4.out rfl (set3 hbel (by omega) _ _ _)
    | ok v =>
      rw [hn] at hr4
      dsimp only at hr4
      have hr5 := Lib.hid hr4
      clear hr4
      replace hn := Lib.hid hn
      go_wp2_with fail
      refine (kn.out _).mono ?_
      rw [hn.out]
      rintro e w6 ⟨rfl, hw6⟩
      subst hw6
      dsimp only [resI]
      obtain ⟨⟨u0, u1, u2⟩, -, -, -⟩ := E5.getBox 1 rfl
      go_wp2_with fail
      refine (kc.out _ (E5.getRow 2 rfl)).mono ?_
      rintro e w6 ⟨v6, rfl, o6, hb6⟩
      go_wp2_with fail
      refine (kd.out _ _ _ o6).mono ?_
      rintro e w7 ⟨v7, rfl, o7, hb7⟩
      obtain ⟨av, cv, rfl, -, -, r7⟩ := o7.view
      have hb57 := hb6.trans hb7
      replace E5 := E5.step hb57
      have M1 := (hb57.cell (p := ⟨w3.heap.size, 1, none⟩) hLlt).trans L1
      have M0 := (hb57.cell (p := ⟨w3.heap.size, 0, none⟩) hLlt).trans L0
      have M2 := (hb57.cell (p := ⟨w3.heap.size, 2, none⟩) hLlt).trans L2
      clear u0 u1 u2 L0 L1 L2 o6 hb6 o7 hb7
      obtain ⟨⟨u0, u1, u2⟩, -, -, -⟩ := E5.getBox 1 rfl
      have hkf := kf.out w7 av cv w3.heap.size (E5.getRow 2 rfl) (E5.getRow 3 rfl) r7 M1
      obtain ⟨⟨z0, z1, z2⟩, z3, z4, z5⟩ := E5.getBox 0 rfl
      have hbel := E5.bel
      have hfw := E5.getBox 0 rfl
      rw [← hr5.out] at hkf
      replace hkf := Lib.hid hkf
      clear E5 r7 hb57
      go_wp2_with fail
      refine hkf.out.mono ?_
      intro e w9 hp
      have hb9 := hp.2.2
      have hR := held3 hb9 ⟨z0, z1, z2⟩
      have hF := frozen3 hb9 (World.block_lt_of_cell? w7 _ z0) ⟨z3, z4, z5⟩
      clear z0 z1 z2 z3 z4 z5 hfw
      obtain ⟨z0, z1, z2⟩ := hR
      obtain ⟨z3, z4, z5⟩ := hF
      have hbx := hbel.trans (hb9.mono hbel.size)
      cases r with
      | error x =>
        obtain ⟨rfl, -⟩ := hp.is_error rfl
        clear hp hr hr5 u0 u1 u2
        go_wp2
        refine bodyPost_ret (v := .tuple #[arrV false none 0 0 none 0 0, .iface 45 (.int .i64 x)]) (by simp [results, Try.results10, go_sem, cell?_set_same, z0, z1, z2]) rfl ?_
        exact .error rfl rfl (set3 hbx (by omega) _ _ _)
      | ok x =>
        obtain ⟨a9, c9, b9, k9, rfl, ra, rb, -⟩ := hp.is_ok rfl
        clear hp hr hr5 u0 u1 u2
        go_wp2
        refine bodyPost_ret (v := .tuple #[arrV x.ch a9 x.s.length c9 b9 x.d.length k9, .nilIface]) (by simp [results, Try.results10, go_sem, cell?_set_same, z0, z1, z2]) rfl ?_
        refine ArrPost.ok (x := x) rfl rfl ?_ ?_ (set3 hbx (by omega) _ _ _)
        · exact ((Row.set_ne ra z0 (by simp)).set_ne ((World.cell?_setCell_other _ _ _ _ (by simp)).trans z1) (by simp)).set_ne ((World.cell?_setCell_other _ _ _ _ (by simp)).trans ((World.cell?_setCell_other _ _ _ _ (by simp)).trans z2)) (by simp)
        · exact ((Row.set_ne rb z0 (by simp)).set_ne ((World.cell?_setCell_other _ _ _ _ (by simp)).trans z1) (by simp)).set_ne ((World.cell?_setCell_other _ _ _ _ (by simp)).trans ((World.cell?_setCell_other _ _ _ _ (by simp)).trans z2)) (by simp)
end Go.Proofs.Ytfnoalbnkbifmaa
