/- The walk of the law ReachAhead: it returns true at all arrays. Condition: the library's one variable is laid. -/
import Derived.Test.YtiebknfmmanbiaaDoorWkChain
import Derived.Test.YtiebknfmmanbiaaDoorWkPerm
import Derived.Test.YtiebknfmmanbiaaDoorLwCloses
namespace Go.Proofs.YtiebknfmmanbiaaDoor
open Go.RowKit

set_option maxRecDepth 20000 in
set_option maxHeartbeats 16000000 in
theorem reachAhead_walk (b0 : Bool) (p0 q0 : Option Addr) (x0 y0 : List Int) (c0 d0 : Nat) (w : World) (r0 : Row w p0 x0) (s0 : Row w q0 y0) (l0 : x0.length ≤ maxLen) (m0 : y0.length ≤ maxLen) (n0 : All64 x0) (o0 : All64 y0) (hg : Laid w) :
    Calls Tryd.prog 12 #[arrV b0 p0 x0.length c0 q0 y0.length d0] w fun e w' => e = .returned (.bool true) ∧ Below w.heap.size w w' := by
  have E := ((((Env.start w).add (f := laidF) hg).addRow s0).addRow r0).box b0 p0 x0.length c0 q0 y0.length d0
  have hclose := fun w h1 h2 => close_any b0 p0 q0 x0 y0 _ c0 _ d0 w h1 h2 l0 m0 rfl rfl
  have hord := fun w h1 h2 => order_any b0 p0 q0 x0 y0 _ c0 _ d0 w h1 h2 l0 m0 rfl rfl
  clear n0 o0
  by_cases hf : M.relFault ⟨b0, x0, y0⟩ = 0
  case neg =>
    have hr := Lib.hid (show M.order ⟨b0, x0, y0⟩ = .error (M.relFault ⟨b0, x0, y0⟩) from if_neg hf)
    have hr2 := Lib.hid (show M.close ⟨b0, x0, y0⟩ = .error (M.relFault ⟨b0, x0, y0⟩) from if_neg hf)
    generalize M.relFault ⟨b0, x0, y0⟩ = nn at *
    replace hf := Lib.hid hf
    replace hclose := Lib.hid hclose
    replace hord := Lib.hid hord
    clear r0 s0
    go_enter Tryd.func12, Tryd.ntmps12
    go_wp2_with fail
    refine (chain_any _).mono ?_
    rintro e w1 ⟨rfl, hb⟩
    replace E := E.step hb
    clear hb
    obtain ⟨⟨u0, u1, u2⟩, -, -, -⟩ := E.getBox 0 rfl
    go_wp2_with fail
    refine (hord.out _ (E.getRow 1 rfl) (E.getRow 2 rfl)).mono ?_
    intro e w2 hp
    obtain rfl := hp.1 _ hr.out
    replace E := E.step hp.2.2
    clear hp u0 u1 u2
    obtain ⟨⟨u0, u1, u2⟩, -, -, -⟩ := E.getBox 0 rfl
    go_wp2_with fail
    refine (hclose.out _ (E.getRow 1 rfl) (E.getRow 2 rfl)).mono ?_
    intro e w3 hp
    obtain rfl := hp.1 _ hr2.out
    replace E := E.step hp.2.2
    clear hp u0 u1 u2
    replace E := ((E.addRow (Row.nil _ none)).addRow (Row.nil _ none)).box false none 0 0 none 0 0
    have hbel := E.bel
    clear E
    go_wp2
    go_ret
    exact ⟨rfl, hbel⟩
  case pos =>
    obtain ⟨n, hn, hb0, hx0, hD, hN, -, -⟩ := rel_parts hf
    dsimp only at hb0 hx0 hD
    subst hb0
    subst hx0
    have hr : M.close ⟨false, [(n : Int), (n : Int)], y0⟩ = .ok ⟨false, [(n : Int), (n : Int)], relCells n (Re.clo n (M.relE ⟨false, [(n : Int), (n : Int)], y0⟩))⟩ := if_pos hf
    have hr2 : M.order ⟨false, [(n : Int), (n : Int)], y0⟩ = (if (Re.ordK n (M.relE ⟨false, [(n : Int), (n : Int)], y0⟩) n).length = n then .ok (M.ordL n (M.relE ⟨false, [(n : Int), (n : Int)], y0⟩) n) else .error 9) := if_pos hf
    generalize M.relE ⟨false, [(n : Int), (n : Int)], y0⟩ = F at *
    have hXl := relCells_length n (Re.clo n F)
    have hXg := fun (i j : Nat) (hi : i < n) (hj : j < n) => relCells_get (Re.clo n F) hi hj
    generalize relCells n (Re.clo n F) = X at *
    have hXm : X.length ≤ maxLen := by rw [hXl, ← hD]; exact m0
    have hnn : n * n ≤ 24 * 24 := Nat.mul_le_mul hn hn
    obtain ⟨N, hNN⟩ : ∃ N, N = n * n := ⟨_, rfl⟩
    rw [← hNN] at hD hXl hnn
    have wN' : ∀ m : Nat, m = n → wrap64 ((m : Int) * (m : Int)) = (N : Int) := by
      rintro m rfl
      have : ((m : Int) * (m : Int)) = ((m * m : Nat) : Int) := by simp
      rw [this, ← hNN]; exact IntWalk.wrap64_in _ (by omega)
    have N1 : N ≤ 576 := hnn
    have lX : (((X.length : Nat) : Int) != (N : Int)) = false := by rw [bne_eq_false_iff_eq, hXl]
    replace hclose := Lib.hid hclose
    replace hord := Lib.hid hord
    replace hr := Lib.hid hr
    replace hf := Lib.hid hf
    replace hD := Lib.hid hD
    replace hXl := Lib.hid hXl
    replace hXg := Lib.hid hXg
    replace hXm := Lib.hid hXm
    replace hNN := Lib.hid hNN
    replace hN := Lib.hid hN
    replace wN' := Lib.hid wN'
    clear hnn r0 s0
    by_cases hfl : (Re.ordK n F n).length = n
    case neg =>
      rw [if_neg hfl] at hr2
      have hcn := Lib.hid (circ_not hfl)
      replace hr2 := Lib.hid hr2
      replace hfl := Lib.hid hfl
      go_enter Tryd.func12, Tryd.ntmps12
      go_wp2_with fail
      refine (chain_any _).mono ?_
      rintro e w1 ⟨rfl, hb⟩
      replace E := E.step hb
      clear hb
      obtain ⟨⟨u0, u1, u2⟩, -, -, -⟩ := E.getBox 0 rfl
      go_wp2_with fail
      refine (hord.out _ (E.getRow 1 rfl) (E.getRow 2 rfl)).mono ?_
      intro e w2 hp
      obtain rfl := hp.1 _ hr2.out
      replace E := E.step hp.2.2
      clear hp u0 u1 u2
      obtain ⟨⟨u0, u1, u2⟩, -, -, -⟩ := E.getBox 0 rfl
      go_wp2_with fail
      refine (hclose.out _ (E.getRow 1 rfl) (E.getRow 2 rfl)).mono ?_
      intro e w3 hp
      obtain ⟨a3, k3, e3, f3, rfl, ra, rb, hb⟩ := hp.is_ok hr.out
      clear hp u0 u1 u2
      dsimp only [List.length_cons, List.length_nil, Nat.reduceAdd] at ra rb ⊢
      replace E := (((E.step hb).addRow rb).addRow ra).box false a3 2 k3 e3 X.length f3
      clear hb ra rb
      obtain ⟨⟨u0, u1, u2⟩, -, -, -⟩ := E.getBox 3 rfl
      obtain ⟨⟨v0, v1, v2⟩, -, -, -⟩ := E.getBox 0 rfl
      obtain ⟨bs, os, rfl, hc0⟩ := (E.getRow 4 rfl) 0 (by simp)
      simp only [List.getD_cons_zero, Nat.add_zero] at hc0
      dsimp only [List.length_cons, List.length_nil, Nat.reduceAdd] at u1
      have rX := E.getRow 2 rfl
      have hlaid := E.laid 6 rfl
      have hbel := E.bel
      replace E := Lib.hid E
      obtain ⟨w4, hw4⟩ : ∃ w4 : World, w4 = w3.alloc (.cells #[.bool false, .slice a3 2 k3, .slice e3 X.length f3] 24) := ⟨_, rfl⟩
      rw [← hw4] at rX hbel hlaid v0 v1 v2
      replace hw4 := Lib.hid hw4
      have wN2 := wN'.out
      replace rX := Lib.hid rX
      replace hlaid := Lib.hid hlaid
      replace hbel := Lib.hid hbel
      go_wp2
      clear u0 u1 u2 hc0 E lX wN2
      rw [← hw4.out]
      clear hw4
      go_loop [9, 10] (fun v9 v10 => ∃ i : Nat, i ≤ n ∧ v10 = .int .i64 i ∧ v9 = .bool (circ n F i)) (fun _ v => n - (intOf v).toNat)
      case atStart => exact ⟨0, Nat.zero_le _, rfl, rfl⟩
      case round =>
        obtain ⟨i, hi, rfl, rfl⟩ := hrel
        by_cases hlt : i < n
        · have q1 := index_lt hlt hlt
          have e1 : ((i : Int) * (n : Int)) = ((i * n : Nat) : Int) := by simp
          have x1 := hXg.out i i hlt hlt
          have hs := circ_succ n F i
          obtain ⟨p, hp⟩ : ∃ p, p = i * n := ⟨_, rfl⟩
          rw [← hNN.out] at q1
          rw [← hp] at q1 e1 x1
          have hL := hXl.out
          obtain ⟨bx, ox, rfl, cx⟩ := rX.out (p + i) (by omega)
          rw [x1] at cx
          have j1 : (p : Int) + (i : Int) < ((X.length : Nat) : Int) := by clear e1; omega
          have pw1 : -9223372036854775808 ≤ (p : Int) ∧ (p : Int) ≤ 9223372036854775807 := by clear e1; omega
          have p1 : p ≤ 576 := by clear e1; omega
          have w1' : ∀ m : Nat, m = n → wrap64 ((i : Int) * (m : Int)) = (p : Int) := by rintro m rfl; rw [e1]; exact IntWalk.wrap64_in _ pw1
          clear e1 x1 hp hL q1 pw1
          generalize circ n F i = ci at *
          cases hcl : Re.clo n F i i
          · rw [hcl] at cx hs
            simp only [Bool.or_false] at hs
            simp only [Bool.false_eq_true, if_false] at cx
            replace hs := Lib.hid hs
            replace hcl := Lib.hid hcl
            go_wp2
            go_roundw
            case rel => exact ⟨i + 1, hlt, num1 i, by rw [hs.out]⟩
            case measure => exact meas1 hlt
          · rw [hcl] at cx hs
            simp only [Bool.or_true] at hs
            simp only [if_true] at cx
            replace hs := Lib.hid hs
            replace hcl := Lib.hid hcl
            go_wp2
            go_roundw
            case rel => exact ⟨i + 1, hlt, num1 i, by rw [hs.out]⟩
            case measure => exact meas1 hlt
        · obtain rfl : i = n := by omega
          rw [hcn.out]
          have ke := fun w h => error_any 9 9 w h
          replace ke := Lib.hid ke
          go_wp2_with fail
          rw [← errV_ne (show (9 : Int) ≠ 0 by decide)]
          refine (ke.out _ hlaid.out).mono ?_
          rintro e w5 ⟨rfl, hb⟩
          have hbz := below_trans hbel.out hb
          rw [show ((9 : Int) == 9) = true from rfl]
          go_wp2
          go_ret
          exact ⟨rfl, hbz⟩
    case pos =>
      rw [if_pos hfl] at hr2
      have hFu : Re.Full n F n := Re.full_of_len hfl
      have hcn := Lib.hid (circ_full hFu)
      have hCl : (M.ordL n F n).length = n := ordL_length hFu
      have hCg := fun i (hi : i < n) => ordL_get (F := F) (n := n) (k := n) (i := i) (by rw [hfl]; exact hi)
      have hCi := fun i (hi : i < n) => ord_in hFu hi
      have hCo := fun i j (hj : j < i) (hi : i < n) => ord_once hFu hj hi
      have hCn := fun i j (hj : j ≤ i) (hi : i < n) => hFu.never hj hi
      generalize M.ordL n F n = C at *
      generalize Re.ordK n F n = K at *
      have hperm := fun a c w h => permutation_any a C n c w h (by rw [hCl]; unfold maxLen; omega) hCl.symm (fun i hi => by
        rw [hCl] at hi ⊢
        rw [hCg i hi]
        have := hCi i hi
        omega) (fun i j hj hi => by
        rw [hCl] at hi
        rw [hCg i hi, hCg j (by omega)]
        have := hCo i j hj hi
        omega)
      have lC : ((n : Int) != (n : Int)) = false := by rw [bne_eq_false_iff_eq]
      replace hr2 := Lib.hid hr2
      replace hfl := Lib.hid hfl
      replace hFu := Lib.hid hFu
      replace hCl := Lib.hid hCl
      replace hCg := Lib.hid hCg
      replace hCi := Lib.hid hCi
      replace hCn := Lib.hid hCn
      replace hperm := Lib.hid hperm
      clear hCo
      go_enter Tryd.func12, Tryd.ntmps12
      go_wp2_with fail
      refine (chain_any _).mono ?_
      rintro e w1 ⟨rfl, hb⟩
      replace E := E.step hb
      clear hb
      obtain ⟨⟨u0, u1, u2⟩, -, -, -⟩ := E.getBox 0 rfl
      go_wp2_with fail
      refine (hord.out _ (E.getRow 1 rfl) (E.getRow 2 rfl)).mono ?_
      intro e w2 hp
      obtain ⟨a2, k2, rfl, q2, hb⟩ := hp.is_ok hr2.out
      replace E := (E.step hb).addRow q2
      rw [hCl.out]
      clear hp u0 u1 u2 hb q2
      obtain ⟨⟨u0, u1, u2⟩, -, -, -⟩ := E.getBox 1 rfl
      go_wp2_with fail
      refine (hclose.out _ (E.getRow 2 rfl) (E.getRow 3 rfl)).mono ?_
      intro e w3 hp
      obtain ⟨a3, k3, e3, f3, rfl, ra, rb, hb⟩ := hp.is_ok hr.out
      clear hp u0 u1 u2
      dsimp only [List.length_cons, List.length_nil, Nat.reduceAdd] at ra rb ⊢
      replace E := (((E.step hb).addRow rb).addRow ra).box false a3 2 k3 e3 X.length f3
      clear hb ra rb
      obtain ⟨⟨u0, u1, u2⟩, -, -, -⟩ := E.getBox 4 rfl
      obtain ⟨⟨v0, v1, v2⟩, -, -, -⟩ := E.getBox 0 rfl
      obtain ⟨bs, os, rfl, hc0⟩ := (E.getRow 5 rfl) 0 (by simp)
      simp only [List.getD_cons_zero, Nat.add_zero] at hc0
      dsimp only [List.length_cons, List.length_nil, Nat.reduceAdd] at u1
      have rC := E.getRow 3 rfl
      have rX := E.getRow 2 rfl
      have hbel := E.bel
      replace E := Lib.hid E
      obtain ⟨w4, hw4⟩ : ∃ w4 : World, w4 = w3.alloc (.cells #[.bool false, .slice a3 2 k3, .slice e3 X.length f3] 24) := ⟨_, rfl⟩
      rw [← hw4] at rC rX hbel v0 v1 v2
      replace hw4 := Lib.hid hw4
      have wN2 := wN'.out
      replace rX := Lib.hid rX
      replace rC := Lib.hid rC
      replace hbel := Lib.hid hbel
      go_wp2
      clear u0 u1 u2 hc0 E lX wN2
      rw [← hw4.out]
      clear hw4
      go_loop [9, 10] (fun v9 v10 => ∃ i : Nat, i ≤ n ∧ v10 = .int .i64 i ∧ v9 = .bool (circ n F i)) (fun _ v => n - (intOf v).toNat)
      case atStart => exact ⟨0, Nat.zero_le _, rfl, rfl⟩
      case round =>
        obtain ⟨i, hi, rfl, rfl⟩ := hrel
        by_cases hlt : i < n
        · have q1 := index_lt hlt hlt
          have e1 : ((i : Int) * (n : Int)) = ((i * n : Nat) : Int) := by simp
          have x1 := hXg.out i i hlt hlt
          have hs := circ_succ n F i
          obtain ⟨p, hp⟩ : ∃ p, p = i * n := ⟨_, rfl⟩
          rw [← hNN.out] at q1
          rw [← hp] at q1 e1 x1
          have hL := hXl.out
          obtain ⟨bx, ox, rfl, cx⟩ := rX.out (p + i) (by omega)
          rw [x1] at cx
          have j1 : (p : Int) + (i : Int) < ((X.length : Nat) : Int) := by clear e1; omega
          have pw1 : -9223372036854775808 ≤ (p : Int) ∧ (p : Int) ≤ 9223372036854775807 := by clear e1; omega
          have p1 : p ≤ 576 := by clear e1; omega
          have w1' : ∀ m : Nat, m = n → wrap64 ((i : Int) * (m : Int)) = (p : Int) := by rintro m rfl; rw [e1]; exact IntWalk.wrap64_in _ pw1
          clear e1 x1 hp hL q1 pw1
          generalize circ n F i = ci at *
          cases hcl : Re.clo n F i i
          · rw [hcl] at cx hs
            simp only [Bool.or_false] at hs
            simp only [Bool.false_eq_true, if_false] at cx
            replace hs := Lib.hid hs
            replace hcl := Lib.hid hcl
            go_wp2
            go_roundw
            case rel => exact ⟨i + 1, hlt, num1 i, by rw [hs.out]⟩
            case measure => exact meas1 hlt
          · rw [hcl] at cx hs
            simp only [Bool.or_true] at hs
            simp only [if_true] at cx
            replace hs := Lib.hid hs
            replace hcl := Lib.hid hcl
            go_wp2
            go_roundw
            case rel => exact ⟨i + 1, hlt, num1 i, by rw [hs.out]⟩
            case measure => exact meas1 hlt
        · obtain rfl : i = n := by omega
          rw [hcn.out]
          go_wp2_with fail
          refine (hperm.out _ _ _ rC.out).mono ?_
          rintro e w5 ⟨rfl, nd0, rfl⟩
          go_wp2
          go_loopw [13] (fun v wr => ∃ (r nd : Nat), r ≤ i ∧ v = .int .i64 r ∧ wr = w4.drewN nd) (fun v _ => i - (intOf v).toNat)
          case atStart => exact ⟨0, nd0, Nat.zero_le _, rfl, rfl⟩
          case round =>
            obtain ⟨r, nd, hr', rfl, rfl⟩ := hrel
            by_cases hlr : r < i
            · go_wp2
              go_loopw [14] (fun v wr => ∃ (t nd : Nat), t ≤ r + 1 ∧ v = .int .i64 t ∧ wr = w4.drewN nd) (fun v _ => r + 1 - (intOf v).toNat)
              case atStart => exact ⟨0, nd, Nat.zero_le _, rfl, rfl⟩
              case round =>
                obtain ⟨t, nd2, ht, rfl, rfl⟩ := hrel
                by_cases hlt2 : t < r + 1
                · obtain ⟨bc, oc, rfl, cr⟩ := rC.out r (by rw [hCl.out]; exact hlr)
                  obtain ⟨bc', oc', ee, ct⟩ := rC.out t (by rw [hCl.out]; omega)
                  cases ee
                  rw [hCg.out r hlr] at cr
                  rw [hCg.out t (by omega)] at ct
                  have hnv := hCn.out r t (by omega) hlr
                  have ir := hCi.out r hlr
                  have it := hCi.out t (by omega)
                  generalize K.getD r 0 = R at *
                  generalize K.getD t 0 = T at *
                  have q1 := index_lt ir it
                  have e1 : ((R : Int) * (i : Int)) = ((R * i : Nat) : Int) := by simp
                  have x1 := hXg.out R T ir it
                  rw [hnv] at x1
                  obtain ⟨p, hp⟩ : ∃ p, p = R * i := ⟨_, rfl⟩
                  rw [← hNN.out] at q1
                  rw [← hp] at q1 e1 x1
                  have hL := hXl.out
                  obtain ⟨bx, ox, rfl, cx⟩ := rX.out (p + T) (by omega)
                  rw [x1] at cx
                  simp only [Bool.false_eq_true, if_false] at cx
                  have j1 : (p : Int) + (T : Int) < ((X.length : Nat) : Int) := by clear e1; omega
                  have j3 : p + T < X.length := by clear e1; omega
                  have p1 : p ≤ 576 := by clear e1; omega
                  have pw1 : -9223372036854775808 ≤ (p : Int) ∧ (p : Int) ≤ 9223372036854775807 := by clear e1; omega
                  have w1' : ∀ m : Nat, m = i → wrap64 ((R : Int) * (m : Int)) = (p : Int) := by rintro m rfl; rw [e1]; exact IntWalk.wrap64_in _ pw1
                  have ti : t < i := by clear e1; omega
                  clear e1 x1 hp hL q1 pw1 hnv
                  have tle : decide ((t : Int) ≤ (r : Int)) = true := decide_eq_true (by omega)
                  go_wp2
                  go_quiet (fail)
                  go_wp2
                  go_roundw
                  case rel => exact ⟨t + 1, _, hlt2, num1 t, by first | rfl | exact World.drewN_drewN _ _ _⟩
                  case measure => exact meas1 hlt2
                · have tle : decide ((t : Int) ≤ (r : Int)) = false := decide_eq_false (by omega)
                  go_wp2
                  go_roundw
                  case rel => exact ⟨r + 1, _, hlr, num1 r, by first | rfl | exact World.drewN_drewN _ _ _⟩
                  case measure => exact meas1 hlr
            · have hbz := below_drewN hbel.out nd
              go_wp2
              go_ret
              exact ⟨rfl, hbz⟩

end Go.Proofs.YtiebknfmmanbiaaDoor
