/- The walk of the law ReachAlike: it returns true at all arrays. No condition. -/
import Derived.Test.YtiebknfmmanbiaaWkChain
import Derived.Test.YtiebknfmmanbiaaWkClasses
import Derived.Test.YtiebknfmmanbiaaPlainRel
namespace Go.Proofs.Ytiebknfmmanbiaa
open Go.RowKit

theorem names_get {n i : Nat} {E : Nat → Nat → Bool} (hi : i < n) : ((List.range n).map fun i => (Re.cname n E i : Int)).getD i 0 = (Re.cname n E i : Int) := by
  simp [List.getD_eq_getElem?_getD, hi]

set_option maxRecDepth 20000 in
set_option maxHeartbeats 8000000 in
theorem reachAlike_walk (b0 : Bool) (p0 q0 : Option Addr) (x0 y0 : List Int) (c0 d0 : Nat) (w : World)
    (r0 : Row w p0 x0) (t0 : Row w q0 y0) (l0 : x0.length ≤ maxLen) (m0 : y0.length ≤ maxLen) (_ : All64 x0) (_ : All64 y0) :
    Calls Try.prog 3 #[arrV b0 p0 x0.length c0 q0 y0.length d0] w fun e w' => e = .returned (.bool true) ∧ Below w.heap.size w w' := by
  have E := (((Env.start w).addRow t0).addRow r0).box b0 p0 x0.length c0 q0 y0.length d0
  have hclose := fun w h1 h2 => close_any b0 p0 q0 x0 y0 _ c0 _ d0 w h1 h2 l0 m0 rfl rfl
  have hclass := fun w h1 h2 => classes_any b0 p0 q0 x0 y0 _ c0 _ d0 w h1 h2 l0 m0 rfl rfl
  by_cases hf : M.relFault ⟨b0, x0, y0⟩ = 0
  case neg =>
    have hr := Lib.hid (show M.classes ⟨b0, x0, y0⟩ = .error (M.relFault ⟨b0, x0, y0⟩) from if_neg hf)
    generalize M.relFault ⟨b0, x0, y0⟩ = nn at *
    replace hf := Lib.hid hf
    replace hclass := Lib.hid hclass
    clear hclose
    go_enter Try.func3, Try.ntmps3
    go_wp2_with fail
    refine (chain_any _).mono ?_
    rintro e w1 ⟨rfl, hb⟩
    replace E := E.step hb
    clear hb
    obtain ⟨⟨u0, u1, u2⟩, -, -, -⟩ := E.getBox 0 rfl
    go_wp2_with fail
    refine (hclass.out _ (E.getRow 1 rfl) (E.getRow 2 rfl)).mono ?_
    intro e w2 hp
    obtain rfl := hp.1 _ hr.out
    replace E := E.step hp.2.2
    clear hp u0 u1 u2
    go_wp2
    go_ret
    exact ⟨rfl, E.bel⟩
  case pos =>
    obtain ⟨n, hn, hb0, hx0, hD, hN, -, -⟩ := rel_parts hf
    dsimp only at hb0 hx0 hD
    subst hb0
    subst hx0
    have hr : M.close ⟨false, [(n : Int), (n : Int)], y0⟩ = .ok ⟨false, [(n : Int), (n : Int)], relCells n (Re.clo n (M.relE ⟨false, [(n : Int), (n : Int)], y0⟩))⟩ := if_pos hf
    have hr2 : M.classes ⟨false, [(n : Int), (n : Int)], y0⟩ = .ok ((List.range n).map fun i => (Re.cname n (M.relE ⟨false, [(n : Int), (n : Int)], y0⟩) i : Int)) := if_pos hf
    generalize M.relE ⟨false, [(n : Int), (n : Int)], y0⟩ = F at *
    have hXl := relCells_length n (Re.clo n F)
    have hXg := fun (i j : Nat) (hi : i < n) (hj : j < n) => relCells_get (Re.clo n F) hi hj
    generalize relCells n (Re.clo n F) = X at *
    have hCl : ((List.range n).map fun i => (Re.cname n F i : Int)).length = n := by simp
    have hCg := fun (i : Nat) (hi : i < n) => names_get (E := F) hi
    generalize ((List.range n).map fun i => (Re.cname n F i : Int)) = C at *
    have hXm : X.length ≤ maxLen := by rw [hXl, ← hD]; exact m0
    have hnn : n * n ≤ 24 * 24 := Nat.mul_le_mul hn hn
    obtain ⟨N, hNN⟩ : ∃ N, N = n * n := ⟨_, rfl⟩
    rw [← hNN] at hD hXl hnn
    have wN : wrap64 ((n : Int) * (n : Int)) = (N : Int) := by
      have : ((n : Int) * (n : Int)) = ((n * n : Nat) : Int) := by simp
      rw [this, ← hNN]; exact IntWalk.wrap64_in _ (by omega)
    have N1 : N ≤ 576 := hnn
    have lX : (((X.length : Nat) : Int) != (N : Int)) = false := by rw [bne_eq_false_iff_eq, hXl]
    have lC : ((n : Int) != (n : Int)) = false := by rw [bne_eq_false_iff_eq]
    replace hclose := Lib.hid hclose
    replace hclass := Lib.hid hclass
    replace hr := Lib.hid hr
    replace hr2 := Lib.hid hr2
    replace hf := Lib.hid hf
    replace hD := Lib.hid hD
    replace hXl := Lib.hid hXl
    replace hXg := Lib.hid hXg
    replace hCl := Lib.hid hCl
    replace hCg := Lib.hid hCg
    replace hNN := Lib.hid hNN
    replace hN := Lib.hid hN
    clear hnn
    go_enter Try.func3, Try.ntmps3
    go_wp2_with fail
    refine (chain_any _).mono ?_
    rintro e w1 ⟨rfl, hb⟩
    replace E := E.step hb
    clear hb
    obtain ⟨⟨u0, u1, u2⟩, -, -, -⟩ := E.getBox 0 rfl
    go_wp2_with fail
    refine (hclass.out _ (E.getRow 1 rfl) (E.getRow 2 rfl)).mono ?_
    intro e w2 hp
    obtain ⟨v2, rfl, o2⟩ := hp.2.1 _ hr2.out
    replace E := E.step hp.2.2
    clear hp u0 u1 u2
    obtain ⟨a2, k2, rfl, -, -, q2⟩ := o2.view
    replace E := E.addRow q2
    rw [hCl.out]
    clear o2 q2
    obtain ⟨⟨u0, u1, u2⟩, -, -, -⟩ := E.getBox 1 rfl
    go_wp2_with fail
    refine (hclose.out _ (E.getRow 2 rfl) (E.getRow 3 rfl)).mono ?_
    intro e w3 hp
    obtain ⟨a3, k3, e3, f3, rfl, ra, rb, hb⟩ := hp.is_ok hr.out
    clear hp u0 u1 u2
    dsimp only [List.length_cons, List.length_nil, Nat.reduceAdd] at ra rb ⊢
    replace E := (((E.step hb).addRow rb).addRow ra).box false a3 2 k3 e3 X.length f3
    clear hb ra rb
    obtain ⟨⟨u0, u1, u2⟩, -, -, -⟩ := E.getBox 4 rfl
    obtain ⟨⟨v0, v1, v2⟩, -, -, -⟩ := E.getBox 0 rfl
    obtain ⟨bs, os, rfl, hc0⟩ := (E.getRow 5 rfl) 0 (by simp)
    simp only [List.getD_cons_zero, Nat.add_zero] at hc0
    dsimp only [List.length_cons, List.length_nil, Nat.reduceAdd] at u1
    have rC := E.getRow 3 rfl
    have rX := E.getRow 2 rfl
    have hbel := E.bel
    replace E := Lib.hid E
    obtain ⟨w4, hw4⟩ : ∃ w4 : World, w4 = w3.alloc (.cells #[.bool false, .slice a3 2 k3, .slice e3 X.length f3] 24) := ⟨_, rfl⟩
    rw [← hw4] at rC rX hbel v0 v1 v2
    replace hw4 := Lib.hid hw4
    go_wp2
    clear u0 u1 u2 hc0 E lX lC wN
    rw [← hw4.out]
    clear hw4
    go_loopw [9] (fun v wr => ∃ (i nd : Nat), i ≤ n ∧ v = .int .i64 i ∧ wr = w4.drewN nd) (fun v _ => n - (intOf v).toNat)
    case atStart => exact ⟨0, 0, Nat.zero_le _, rfl, rfl⟩
    case round =>
      obtain ⟨i, nd, hi, rfl, rfl⟩ := hrel
      by_cases hlt : i < n
      · have mle := Re.cname_le n F i
        have mid := Re.cname_idem (E := F) hlt
        have g1 := hCg.out i hlt
        have g2 := hCg.out (Re.cname n F i) (by omega)
        rw [mid] at g2
        obtain ⟨m, hm⟩ : ∃ m, m = Re.cname n F i := ⟨_, rfl⟩
        rw [← hm] at g1 g2 mle
        obtain ⟨bc, oc, rfl, ci⟩ := rC i (by rw [hCl.out]; exact hlt)
        obtain ⟨bc', oc', ee, cm⟩ := rC m (by rw [hCl.out]; omega)
        cases ee
        rw [g1] at ci
        rw [g2] at cm
        have t1 : decide ((m : Int) < 0) = false := decide_eq_false (by omega)
        have t2 : decide ((i : Int) < (m : Int)) = false := decide_eq_false (by omega)
        have t3 : ((m : Int) != (m : Int)) = false := by rw [bne_eq_false_iff_eq]
        have i1 : (m : Int) < (n : Int) := by omega
        have i2 : m < n := by omega
        have i3 : (0 : Int) ≤ (m : Int) := by omega
        replace hm := Lib.hid hm
        clear g1 g2 mid
        go_wp2
        go_quiet (fail)
        go_wp2
        clear cm t1 t2 t3
        go_loopw [10] (fun v wr => ∃ (j nd : Nat), j ≤ n ∧ v = .int .i64 j ∧ wr = w4.drewN nd) (fun v _ => n - (intOf v).toNat)
        case atStart => exact ⟨0, _, Nat.zero_le _, rfl, World.drewN_drewN _ _ _⟩
        case round =>
          obtain ⟨j, nd2, hj, rfl, rfl⟩ := hrel
          by_cases hlj : j < n
          · obtain ⟨bc', oc', ee, cj⟩ := rC j (by rw [hCl.out]; exact hlj)
            cases ee
            rw [hCg.out j hlj] at cj
            have hiff := Re.cname_iff (E := F) hlt hlj
            rw [← hm.out] at hiff
            generalize Re.cname n F j = mj at *
            by_cases e : i = j
            · have hmm : m = mj := hiff.2 (.inl e)
              subst hmm
              have d1 : ((i : Int) == (j : Int)) = true := by rw [beq_iff_eq, e]
              have d2 : ((m : Int) == (m : Int)) = true := beq_self_eq_true _
              replace e := Lib.hid e
              clear hiff
              go_wp2
              go_quiet (fail)
              go_wp2
              go_roundw
              case rel => exact ⟨j + 1, _, by omega, by go_num, by first | rfl | exact World.drewN_drewN _ _ _⟩
              case measure => simp [intOf]; omega
            · have d1 : ((i : Int) == (j : Int)) = false := by rw [beq_eq_false_iff_ne]; omega
              have q1 := index_lt hlt hlj
              have q2 := index_lt hlj hlt
              have e1 : ((i : Int) * (n : Int)) = ((i * n : Nat) : Int) := by simp
              have e2 : ((j : Int) * (n : Int)) = ((j * n : Nat) : Int) := by simp
              have x1 := hXg.out i j hlt hlj
              have x2 := hXg.out j i hlj hlt
              obtain ⟨p, hp⟩ : ∃ p, p = i * n := ⟨_, rfl⟩
              obtain ⟨q, hq⟩ : ∃ q, q = j * n := ⟨_, rfl⟩
              rw [← hNN.out] at q1 q2
              rw [← hp] at q1 e1 x1
              rw [← hq] at q2 e2 x2
              have hL := hXl.out
              obtain ⟨bx, ox, rfl, cx1⟩ := rX (p + j) (by omega)
              obtain ⟨bx', ox', ee, cx2⟩ := rX (q + i) (by omega)
              cases ee
              rw [x1] at cx1
              rw [x2] at cx2
              have p1 : p ≤ 576 := by omega
              have p2 : q ≤ 576 := by omega
              have j1 : (p : Int) + (j : Int) < ((X.length : Nat) : Int) := by omega
              have j2 : (q : Int) + (i : Int) < ((X.length : Nat) : Int) := by omega
              have j3 : p + j < X.length := by omega
              have j4 : q + i < X.length := by omega
              have pw1 : -9223372036854775808 ≤ (p : Int) ∧ (p : Int) ≤ 9223372036854775807 := by omega
              have pw2 : -9223372036854775808 ≤ (q : Int) ∧ (q : Int) ≤ 9223372036854775807 := by omega
              have done : ∀ r : Bool, (r = true ↔ Re.clo n F i j = true ∧ Re.clo n F j i = true) → ((m : Int) == (mj : Int)) = r := by
                intro r hr
                rw [Bool.eq_iff_iff, hr, beq_iff_eq]
                constructor
                · intro h
                  have h2 : m = mj := by omega
                  rcases hiff.1 h2 with h3 | h3
                  · exact absurd h3 e
                  · exact h3
                · intro h
                  have := hiff.2 (.inr h)
                  omega
              have w1' : ∀ m : Nat, m = n → wrap64 ((i : Int) * (m : Int)) = (p : Int) := by rintro m rfl; rw [e1]; exact IntWalk.wrap64_in _ pw1
              have w2' : ∀ m : Nat, m = n → wrap64 ((j : Int) * (m : Int)) = (q : Int) := by rintro m rfl; rw [e2]; exact IntWalk.wrap64_in _ pw2
              clear e1 e2 x1 x2 hp hq hL q1 q2 pw1 pw2
              replace e := Lib.hid e
              cases f1 : Re.clo n F i j <;> cases f2 : Re.clo n F j i
              all_goals
                rw [f1] at cx1
                rw [f2] at cx2
                rw [f1, f2] at done
                simp only [if_true, Bool.false_eq_true, if_false] at cx1 cx2
              · have dd := done false (by simp)
                clear done hiff
                go_wp2
                go_quiet (fail)
                go_wp2
                go_roundw
                case rel => exact ⟨j + 1, _, hlj, by go_num, by first | rfl | exact World.drewN_drewN _ _ _⟩
                case measure => (clear w1' w2'; simp [intOf]; omega)
              · have dd := done false (by simp)
                clear done hiff
                go_wp2
                go_quiet (fail)
                go_wp2
                go_roundw
                case rel => exact ⟨j + 1, _, hlj, by go_num, by first | rfl | exact World.drewN_drewN _ _ _⟩
                case measure => (clear w1' w2'; simp [intOf]; omega)
              · have dd := done false (by simp)
                clear done hiff
                go_wp2
                go_quiet (fail)
                go_wp2
                go_roundw
                case rel => exact ⟨j + 1, _, hlj, by go_num, by first | rfl | exact World.drewN_drewN _ _ _⟩
                case measure => (clear w1' w2'; simp [intOf]; omega)
              · have dd := done true (by simp)
                clear done hiff
                go_wp2
                go_quiet (fail)
                go_wp2
                go_roundw
                case rel => exact ⟨j + 1, _, hlj, by go_num, by first | rfl | exact World.drewN_drewN _ _ _⟩
                case measure => (clear w1' w2'; simp [intOf]; omega)
          · go_wp2
            go_roundw
            case rel => exact ⟨i + 1, _, by omega, by go_num, by first | rfl | exact World.drewN_drewN _ _ _⟩
            case measure => simp [intOf]; omega
      · go_wp2
        go_ret
        exact ⟨rfl, below_drewN hbel _⟩

end Go.Proofs.Ytiebknfmmanbiaa
