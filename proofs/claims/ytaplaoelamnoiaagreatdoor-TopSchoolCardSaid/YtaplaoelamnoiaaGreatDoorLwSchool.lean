/- The walk of the law TopSchool: it returns true at any two numbers. Condition: the library's tables are laid. -/
import Derived.Test.YtaplaoelamnoiaaGreatDoorScVals
import Derived.Test.YtaplaoelamnoiaaGreatDoorBd03
import Derived.Test.YtaplaoelamnoiaaGreatDoorDoorKitZ
namespace Go.Proofs.YtaplaoelamnoiaaGreatDoor
open Go.RowKit

set_option maxRecDepth 20000 in
set_option maxHeartbeats 4000000 in
theorem num_any (n : Int) (w : World) :
    Calls Tryz.prog 15 #[.int .i64 n] w fun en w' => ∃ g : Nat, en = .returned (arrV false none 0 0 (some ⟨g, 0, none⟩) 1 1) ∧ w.heap.size ≤ g ∧ Row w' (some ⟨g, 0, none⟩) [n] ∧ Below w.heap.size w w' := by
  go_enter Tryz.func15, Tryz.ntmps15
  go_wp2
  have hb := push (push (start w) (.cells #[.bool false, .slice none 0 0, .slice (some ⟨w.heap.size + 1, 0, none⟩) 1 1] 24)) (.cells #[.int .i64 n] 3)
  refine bodyPost_ret (v := arrV false none 0 0 (some ⟨w.heap.size + 1, 0, none⟩) 1 1) (by simp [results, Tryz.results15, go_sem, arrV]) rfl ?_
  exact ⟨w.heap.size + 1, rfl, by omega, row_one (by simp [go_sem]), hb⟩

set_option maxRecDepth 20000 in
set_option maxHeartbeats 4000000 in
theorem withinS_any (n lo hi : Int) (w : World) :
    Calls Tryz.prog 14 #[.int .i64 n, .int .i64 lo, .int .i64 hi] w fun en w' => en = .returned (.bool (decide (lo ≤ n) && decide (n ≤ hi))) ∧ w' = w := by
  cases h1 : decide (lo ≤ n)
  · go_enter Tryz.func14, Tryz.ntmps14
    go_wp2
    go_ret
    exact ⟨rfl, rfl⟩
  · go_enter Tryz.func14, Tryz.ntmps14
    go_wp2
    go_ret
    exact ⟨rfl, rfl⟩

set_option maxRecDepth 20000 in
set_option maxHeartbeats 8000000 in
theorem topSchool_main (b n : Int) (w : World) (hT : Tz w) (h8 : 8 ≤ w.heap.size) :
    Calls Tryz.prog 5 #[.int .i64 b, .int .i64 n] w fun e w' => e = .returned (.bool true) ∧ Below w.heap.size w w' := by
  have E := (Env.start w).alloc (.cells #[.int .i64 4, .int .i64 7, .int .i64 2] 3)
  have kf : ∀ W (_ : Tz W) (_ : 8 ≤ W.heap.size) (a : Option Addr) (b : Option Addr) (k : Nat) (_ : Row W a [3]) (_ : Row W b [4, 7, 2]), Calls Tryz.prog 7 #[.slice none 0 0, .string ⟨#[49, 48, 32, 49, 48, 32, 49, 48, 226, 138, 164, 52, 55, 50]⟩, arrV false a 1 1 b 3 k] W fun e w' => e = .returned (.bool true) ∧ Below W.heap.size W w' :=
    fun W hT h8 a b k r1 r2 => (tells_any none [] 0 M.s1S M.s1T M.s1E ⟨false, [3], [4, 7, 2]⟩ ⟨false, [3], [4, 7, 2]⟩ a 1 b k W (wsAt_nil W) wsOk_nil hT h8 line_s1 s1_val (by decide) (by decide) r1 r2 (by decide) (by decide)).mono fun e w' h => ⟨h.1.trans (by rw [decide_eq_true rfl]), h.2⟩
  have kv := fun W p (hp : Row W p [4, 7, 2]) => vector_one false p [4, 7, 2] 3 3 W hp (by decide) rfl
  have kw := fun W => withinS_any b 2 1000 W
  have kb := fun W => num_any b W
  have kn := fun W => num_any n W
  have r01 : Row (w.alloc (.cells #[.int .i64 4, .int .i64 7, .int .i64 2] 3)) (some ⟨w.heap.size, 0, none⟩) [4, 7, 2] := row_three (by simp [go_sem]) (by simp [go_sem]) (by simp [go_sem])
  obtain ⟨W, hW⟩ : ∃ W : World, W = w.alloc (.cells #[.int .i64 4, .int .i64 7, .int .i64 2] 3) := ⟨_, rfl⟩
  rw [← hW] at E r01
  have hW' := Lib.hid hW.symm
  replace hW := Lib.hid hW
  replace kf := Lib.hid kf
  replace kv := Lib.hid kv
  replace kw := Lib.hid kw
  replace kb := Lib.hid kb
  replace kn := Lib.hid kn
  replace r01 := Lib.hid r01
  replace hT := Lib.hid hT
  replace E := Lib.hid E
  go_enter Tryz.func5, Tryz.ntmps5
  go_wp2_with fail
  rw [hW'.out]
  replace E := E.out
  refine (kv.out W _ r01.out).mono ?_
  rintro e v1 ⟨av, bv, kk, rfl, ra, rb, hb⟩
  dsimp only [List.length_cons, List.length_nil, Nat.reduceAdd] at ra rb ⊢
  replace E := E.step hb
  clear hb
  replace E := Lib.hid E
  go_wp2_with fail
  replace E := E.out
  refine (kf.out v1 (hT.out.below E.bel h8) (Nat.le_trans h8 E.bel.size) av bv kk ra rb).mono ?_
  rintro e v2 ⟨rfl, hb⟩
  replace E := E.step hb
  clear hb ra rb
  replace E := Lib.hid E
  go_wp2_with fail
  refine (kw.out v2).mono ?_
  rintro e v3 ⟨rfl, hv3⟩
  subst hv3
  cases hin : decide (2 ≤ b) && decide (b ≤ 1000)
  case false =>
    replace hin := Lib.hid hin
    go_wp2
    go_ret
    exact ⟨rfl, E.out.bel⟩
  replace hin := Lib.hid hin
  cases hn0 : decide (n < 0)
  case true =>
    go_wp2
    go_ret
    exact ⟨rfl, E.out.bel⟩
  cases hg : decide (wrap64 (wrap64 (b * b) * b) ≤ n)
  case true =>
    go_wp2
    go_ret
    exact ⟨rfl, E.out.bel⟩
  have hb2 : 2 ≤ b ∧ b ≤ 1000 := by have h := hin.out; rw [Bool.and_eq_true, decide_eq_true_eq, decide_eq_true_eq] at h; exact h
  have hn0' : 0 ≤ n := by have := of_decide_eq_false hn0; omega
  have hlt : n < b * b * b := by
    have h := of_decide_eq_false hg
    have hbb : b * b ≤ 1000 * 1000 := Int.mul_le_mul hb2.2 hb2.2 (by omega) (by omega)
    have hbb0 : 0 ≤ b * b := Int.mul_nonneg (by omega) (by omega)
    have hbbb : b * b * b ≤ 1000 * 1000 * 1000 := Int.mul_le_mul hbb hb2.2 (by omega) (by omega)
    have hbbb0 : 0 ≤ b * b * b := Int.mul_nonneg hbb0 (by omega)
    rw [wsm hbb0 (by omega), wsm hbbb0 (by omega)] at h
    omega
  have hval := s2_val hb2.1 hb2.2 hn0' hlt
  replace hval := Lib.hid hval
  replace hb2 := Lib.hid hb2
  replace hn0' := Lib.hid hn0'
  replace hlt := Lib.hid hlt
  go_wp2_with fail
  refine (kb.out v3).mono ?_
  rintro e v4 ⟨g1, rfl, hg1, rb1, hb⟩
  replace E := Lib.hid ((E.out.step hb).addRow rb1)
  clear hb rb1
  go_wp2_with fail
  refine (bind_any _ _ _ _ _ _ _ _ _).mono ?_
  rintro e v5 ⟨rfl, hb⟩
  replace E := Lib.hid (E.out.step hb)
  clear hb
  go_wp2_with fail
  refine (kn.out v5).mono ?_
  rintro e v6 ⟨g2, rfl, hg2, rb2, hb⟩
  replace E := Lib.hid ((E.out.step hb).addRow rb2)
  clear hb rb2
  go_wp2_with fail
  refine (bind_any _ _ _ _ _ _ _ _ _).mono ?_
  rintro e v8 ⟨rfl, hb⟩
  replace E := E.out.step hb
  clear hb
  have bW := boxC_alloc v8 #[.string ⟨#[98]⟩, .bool false, .slice none 0 0, .slice (some ⟨g1, 0, none⟩) 1 1, .string ⟨#[110]⟩, .bool false, .slice none 0 0, .slice (some ⟨g2, 0, none⟩) 1 1] 33
  have hba := push (start v8) (.cells #[.string ⟨#[98]⟩, .bool false, .slice none 0 0, .slice (some ⟨g1, 0, none⟩) 1 1, .string ⟨#[110]⟩, .bool false, .slice none 0 0, .slice (some ⟨g2, 0, none⟩) 1 1] 33)
  replace E := E.step hba
  have hWs : WsAt (some ⟨v8.heap.size, 0, none⟩) (scWs b n) (v8.alloc (.cells #[.string ⟨#[98]⟩, .bool false, .slice none 0 0, .slice (some ⟨g1, 0, none⟩) 1 1, .string ⟨#[110]⟩, .bool false, .slice none 0 0, .slice (some ⟨g2, 0, none⟩) 1 1] 33)) := by
    intro i bd hi
    match i, hi with
    | 0, hi => cases hi; exact ⟨_, none, 0, some ⟨g1, 0, none⟩, 1, rfl, (bW 0 _ rfl).1, (bW 1 _ rfl).1, (bW 2 _ rfl).1, (bW 3 _ rfl).1, fun i h => absurd h (by simp), E.getRow 1 rfl⟩
    | 1, hi => cases hi; exact ⟨_, none, 0, some ⟨g2, 0, none⟩, 1, rfl, (bW 4 _ rfl).1, (bW 5 _ rfl).1, (bW 6 _ rfl).1, (bW 7 _ rfl).1, fun i h => absurd h (by simp), E.getRow 0 rfl⟩
    | i + 2, hi => simp at hi
  obtain ⟨v9, hv9⟩ : ∃ W : World, W = v8.alloc (.cells #[.string ⟨#[98]⟩, .bool false, .slice none 0 0, .slice (some ⟨g1, 0, none⟩) 1 1, .string ⟨#[110]⟩, .bool false, .slice none 0 0, .slice (some ⟨g2, 0, none⟩) 1 1] 33) := ⟨_, rfl⟩
  rw [← hv9] at E hWs
  have hv9' := Lib.hid hv9.symm
  replace hv9 := Lib.hid hv9
  have k2 : ∀ W a k, WsAt (some ⟨v8.heap.size, 0, none⟩) (scWs b n) W → Tz W → 8 ≤ W.heap.size → Row W a [n] → Calls Tryz.prog 7 #[.slice (some ⟨v8.heap.size, 0, none⟩) 2 2, .string ⟨#[98, 226, 138, 165, 40, 51, 226, 141, 180, 98, 41, 226, 138, 164, 110]⟩, arrV false none 0 0 a 1 k] W fun e w' => e = .returned (.bool true) ∧ Below W.heap.size W w' :=
    fun W a k h1 h2 h3 h4 => (tells_any (some ⟨v8.heap.size, 0, none⟩) (scWs b n) 2 M.s2S M.s2T M.s2E ⟨false, [], [n]⟩ ⟨false, [], [n]⟩ none 0 a k W h1 (scWs_ok b n) h2 h3 line_s2 hval.out (by simp) (by simp) (fun i h => absurd h (by simp)) h4 (by simp) (by simp)).mono fun e w' h => ⟨h.1.trans (by rw [decide_eq_true rfl]), h.2⟩
  replace k2 := Lib.hid k2
  replace E := Lib.hid E
  replace hWs := Lib.hid hWs
  clear bW hba
  go_wp2_with fail
  rw [hv9'.out]
  refine (kn.out v9).mono ?_
  rintro e v10 ⟨g3, rfl, hg3, rb3, hb⟩
  replace E := Lib.hid ((E.out.step hb).addRow rb3)
  replace hWs := Lib.hid (hWs.out.below hb)
  clear hb rb3
  go_wp2_with fail
  refine (k2.out v10 _ 1 hWs.out (hT.out.below E.out.bel h8) (Nat.le_trans h8 E.out.bel.size) (E.out.getRow 0 rfl)).mono ?_
  rintro e v11 ⟨rfl, hb⟩
  replace E := Lib.hid (E.out.step hb)
  clear hb hWs
  go_wp2
  go_ret
  exact ⟨rfl, E.out.bel⟩
theorem topSchool_walk (b n : Int) (w : World) (_ : I64 b) (_ : I64 n) (hg : Zl w) :
    Calls Tryz.prog 5 #[.int .i64 b, .int .i64 n] w fun e w' => e = .returned (.bool true) ∧ Below w.heap.size w w' :=
  topSchool_main b n w hg.1 hg.2
end Go.Proofs.YtaplaoelamnoiaaGreatDoor
