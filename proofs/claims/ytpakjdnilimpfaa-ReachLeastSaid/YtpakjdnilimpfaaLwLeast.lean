/- The walk of the law ReachLeast: it returns true at all arrays. No condition. -/
import Derived.Test.YtpakjdnilimpfaaWkChain
import Derived.Test.YtpakjdnilimpfaaWkAlike
import Derived.Test.YtpakjdnilimpfaaWkChained
import Derived.Test.YtpakjdnilimpfaaPlainRel
namespace Go.Proofs.Ytpakjdnilimpfaa
open Go.RowKit

/-- What is said of the loops: the cells of the relation, of the closed one, of another one. -/
theorem least_facts {n : Nat} {D B : List Int} (hD : D.length = n * n) :
    (∀ q, q < n * n → D.getD q 0 = 1 → (relCells n (Re.clo n (M.relE ⟨false, [(n : Int), (n : Int)], D⟩))).getD q 0 = 1) ∧
    (Chained n B → (∀ q, q < n * n → D.getD q 0 = 1 → B.getD q 0 = 1) → ∀ q, q < n * n → (relCells n (Re.clo n (M.relE ⟨false, [(n : Int), (n : Int)], D⟩))).getD q 0 = 1 → B.getD q 0 = 1) := by
  constructor
  · intro q hq h
    exact (clo_cell_iff hq).2 (Re.clo_le ((relE_at hq).2 h))
  · intro hc hs q hq h
    have h1 := (clo_cell_iff hq).1 h
    obtain ⟨a1, a2, a3⟩ := split_index hq
    have := Re.clo_least (n := n) (fun i j => B.getD (i * n + j) 0 == 1) (by
      intro i j hi hj he
      rw [relE_in hi hj] at he
      have := hs (i * n + j) (index_lt hi hj) (by simpa using he)
      simpa using this) (by
      intro i m j hi hm hj h1 h2
      have := hc i m j hi hm hj (by simpa using h1) (by simpa using h2)
      simpa using this) a1 a2 h1
    rw [a3] at this
    simpa using this

set_option maxHeartbeats 8000000 in
theorem reachLeast_walk (b0 : Bool) (p0 q0 : Option Addr) (x0 y0 : List Int) (c0 d0 : Nat) (b1 : Bool) (p1 q1 : Option Addr) (x1 y1 : List Int) (c1 d1 : Nat) (w : World)
    (r0 : Row w p0 x0) (t0 : Row w q0 y0) (l0 : x0.length ≤ maxLen) (m0 : y0.length ≤ maxLen) (_ : All64 x0) (_ : All64 y0) (r1 : Row w p1 x1) (t1 : Row w q1 y1) (l1 : x1.length ≤ maxLen) (m1 : y1.length ≤ maxLen) (_ : All64 x1) (_ : All64 y1) :
    Calls Try.prog 3 #[arrV b0 p0 x0.length c0 q0 y0.length d0, arrV b1 p1 x1.length c1 q1 y1.length d1] w fun e w' => e = .returned (.bool true) ∧ Below w.heap.size w w' := by
  have E := ((((((Env.start w).addRow t1).addRow r1).addRow t0).addRow r0).box b0 p0 x0.length c0 q0 y0.length d0).box b1 p1 x1.length c1 q1 y1.length d1
  rw [World.size_alloc] at E
  have hclose := fun w h1 h2 => close_any b0 p0 q0 x0 y0 _ c0 _ d0 w h1 h2 l0 m0 rfl rfl
  by_cases hf : M.relFault ⟨b0, x0, y0⟩ = 0
  case neg =>
    have hr := Lib.hid (show M.close ⟨b0, x0, y0⟩ = .error (M.relFault ⟨b0, x0, y0⟩) from if_neg hf)
    generalize M.relFault ⟨b0, x0, y0⟩ = nn at *
    replace hf := Lib.hid hf
    replace hclose := Lib.hid hclose
    go_enter Try.func3, Try.ntmps3
    go_wp2_with fail
    refine (chain_any _).mono ?_
    rintro e w1 ⟨rfl, hb⟩
    replace E := E.step hb
    clear hb
    obtain ⟨⟨u0, u1, u2⟩, -, -, -⟩ := E.getBox 1 rfl
    go_wp2_with fail
    refine (hclose.out _ (E.getRow 2 rfl) (E.getRow 3 rfl)).mono ?_
    intro e w2 hp
    obtain ⟨rfl, hb⟩ := hp.is_error hr.out
    clear hp u0 u1 u2
    replace E := (E.step hb).box false none 0 0 none 0 0
    go_wp2
    go_ret
    exact ⟨rfl, E.bel⟩
  case pos =>
    obtain ⟨n, hn, hb0, hx0, hD, hN, h01, _⟩ := rel_parts hf
    dsimp only at hb0 hx0 hD
    subst hb0
    subst hx0
    have hr : M.close ⟨false, [(n : Int), (n : Int)], y0⟩ = .ok ⟨false, [(n : Int), (n : Int)], relCells n (Re.clo n (M.relE ⟨false, [(n : Int), (n : Int)], y0⟩))⟩ := if_pos hf
    obtain ⟨fact1, fact2⟩ := least_facts (B := y1) hD
    have hcc := close_close hn (M.relE ⟨false, [(n : Int), (n : Int)], y0⟩)
    have hch := chained_clo (n := n) (F := M.relE ⟨false, [(n : Int), (n : Int)], y0⟩)
    have hXl := relCells_length n (Re.clo n (M.relE ⟨false, [(n : Int), (n : Int)], y0⟩))
    generalize relCells n (Re.clo n (M.relE ⟨false, [(n : Int), (n : Int)], y0⟩)) = X at *
    have hXm : X.length ≤ maxLen := by rw [hXl, ← hD]; exact m0
    have hnn : n * n ≤ 24 * 24 := Nat.mul_le_mul hn hn
    obtain ⟨N, hNN⟩ : ∃ N, N = n * n := ⟨_, rfl⟩
    rw [← hNN] at hD fact1 fact2 hXl hnn
    have wN : wrap64 ((n : Int) * (n : Int)) = (N : Int) := by
      have : ((n : Int) * (n : Int)) = ((n * n : Nat) : Int) := by simp
      rw [this, ← hNN]; exact IntWalk.wrap64_in _ (by omega)
    have N1 : N ≤ 576 := hnn
    replace hclose := Lib.hid hclose
    replace hr := Lib.hid hr
    replace hf := Lib.hid hf
    replace hcc := Lib.hid hcc
    replace hch := Lib.hid hch
    replace fact1 := Lib.hid fact1
    replace fact2 := Lib.hid fact2
    replace hD := Lib.hid hD
    replace hXl := Lib.hid hXl
    replace hNN := Lib.hid hNN
    replace h01 := Lib.hid h01
    replace hN := Lib.hid hN
    clear hnn
    go_enter Try.func3, Try.ntmps3
    go_wp2_with fail
    refine (chain_any _).mono ?_
    rintro e w1 ⟨rfl, hb⟩
    replace E := E.step hb
    clear hb
    obtain ⟨⟨u0, u1, u2⟩, -, -, -⟩ := E.getBox 1 rfl
    go_wp2_with fail
    refine (hclose.out _ (E.getRow 2 rfl) (E.getRow 3 rfl)).mono ?_
    intro e w2 hp
    obtain ⟨a2, k2, e2, f2, rfl, ra, rb, hb⟩ := hp.is_ok hr.out
    clear hp u0 u1 u2
    dsimp only [List.length_cons, List.length_nil, Nat.reduceAdd] at ra rb ⊢
    replace E := (((E.step hb).addRow rb).addRow ra).box false a2 2 k2 e2 X.length f2
    clear hb ra rb
    obtain ⟨⟨u0, u1, u2⟩, -, -, -⟩ := E.getBox 4 rfl
    obtain ⟨bs, os, rfl, hc0⟩ := (E.getRow 5 rfl) 0 (by simp)
    simp only [List.getD_cons_zero, Nat.add_zero] at hc0
    dsimp only [List.length_cons, List.length_nil, Nat.reduceAdd] at u1
    go_wp2_with fail
    refine (close_any false a2 e2 [(n : Int), (n : Int)] X 2 k2 _ f2 _ (E.getRow 1 rfl) (E.getRow 2 rfl) (by simp [maxLen]) hXm rfl rfl).mono ?_
    intro e w3 hp
    obtain ⟨a3, k3, e3, f3, rfl, ra, rb, hb⟩ := hp.is_ok hcc.out
    clear hp u0 u1 u2 hc0
    dsimp only [List.length_cons, List.length_nil, Nat.reduceAdd] at ra rb ⊢
    replace E := (((E.step hb).addRow rb).addRow ra).box false a3 2 k3 e3 X.length f3
    clear hb ra rb
    obtain ⟨⟨u0, u1, u2⟩, -, -, -⟩ := E.getBox 3 rfl
    go_wp2_with fail
    refine (alike_any false false a3 e3 a2 e2 [(n : Int), (n : Int)] X [(n : Int), (n : Int)] X 2 k3 _ f3 2 k2 _ f2 _ (E.getRow 1 rfl) (E.getRow 2 rfl) (by simp [maxLen]) hXm rfl rfl (E.getRow 4 rfl) (E.getRow 5 rfl) (by simp [maxLen]) hXm rfl rfl).mono ?_
    rintro e w4 ⟨rfl, hb⟩
    rw [decide_eq_true rfl]
    clear u0 u1 u2
    replace E := E.step hb
    clear hb
    obtain ⟨⟨u0, u1, u2⟩, -, -, -⟩ := E.getBox 3 rfl
    obtain ⟨⟨v0, v1, v2⟩, -, -, -⟩ := E.getBox 7 rfl
    have lX : (((X.length : Nat) : Int) != (N : Int)) = false := by rw [bne_eq_false_iff_eq, hXl.out]
    have lD : (((y0.length : Nat) : Int) != (N : Int)) = false := by rw [bne_eq_false_iff_eq, hD.out]
    go_wp2_with fail
    refine (chained_any n e2 X _ f2 _ (E.getRow 5 rfl) hn (by rw [hXl.out, hNN.out]; exact Nat.le_refl _) hXm rfl).mono ?_
    rintro e w' ⟨r, rfl, hr2, rfl⟩
    obtain rfl : r = true := hr2.2 hch.out
    clear hr2 lX lD
    obtain ⟨⟨z0, z1, z2⟩, -, -, -⟩ := E.getBox 6 rfl
    clear hch hcc hclose hr hf
    by_cases hB : y1.length = N
    · have lB : (((y1.length : Nat) : Int) == (N : Int)) = true := by rw [beq_iff_eq, hB]
      have hch2 := chained_any n q1 y1 _ d1 w4 (E.getRow 11 rfl) hn (by rw [hB, hNN.out]; exact Nat.le_refl _) m1 rfl
      replace hB := Lib.hid hB
      replace hch2 := Lib.hid hch2
      go_wp2_with fail
      refine hch2.out.mono ?_
      rintro e w' ⟨ab0, rfl, hr2, rfl⟩
      have hab0 := Lib.hid (show ab0 = true → y1.length = N ∧ Chained n y1 from fun h => ⟨hB.out, hr2.1 h⟩)
      clear hr2 hch2 lB
      go_wp2
      go_loop [13, 14] (fun ab i => ∃ (k : Nat) (av : Bool), k ≤ N ∧ i = .int .i64 k ∧ ab = .bool av ∧ (av = true → y1.length = N ∧ Chained n y1 ∧ ∀ q, q < k → y0.getD q 0 = 1 → y1.getD q 0 = 1)) (fun _ i => N - (intOf i).toNat)
      case atStart => exact ⟨0, _, Nat.zero_le _, rfl, rfl, fun h => ⟨(hab0.out h).1, (hab0.out h).2, fun q hq => absurd hq (Nat.not_lt_zero _)⟩⟩
      case round =>
        obtain ⟨k, av, hk, rfl, rfl, hab⟩ := hrel
        replace hab := Lib.hid hab
        by_cases hlt : k < N
        · obtain ⟨bd, od, rfl, cD⟩ := (E.getRow 9 rfl) k (by rw [hD.out]; exact hlt)
          obtain ⟨bx, ox, rfl, cX⟩ := (E.getRow 5 rfl) k (by rw [hXl.out]; exact hlt)
          have f1 := fact1.out k hlt
          have sD : y0.getD k 0 = 1 → Chained n y1 → True := fun _ _ => trivial
          have kD : k < y0.length := by rw [hD.out]; exact hlt
          have kX : k < X.length := by rw [hXl.out]; exact hlt
          have next : (av = true → y0.getD k 0 = 1 → y1.getD k 0 = 1) → (av = true → y1.length = N ∧ Chained n y1 ∧ ∀ q, q < k + 1 → y0.getD q 0 = 1 → y1.getD q 0 = 1) := fun h ha =>
            ⟨(hab.out ha).1, (hab.out ha).2.1, fun q hq => by
              by_cases e : q = k
              · subst e; exact h ha
              · exact (hab.out ha).2.2 q (by omega)⟩
          replace next := Lib.hid next
          have g1 : y0.getD k 0 = y0[k] := by simp [kD]
          have g2 : X.getD k 0 = X[k] := by simp [kX]
          rw [g1, g2] at f1
          rw [g1] at next
          rw [g1] at cD
          rw [g2] at cX
          clear sD g1 g2
          cases dD : (y0[k] == 1) with
          | false =>
            have hnx := Lib.hid (next.out (fun _ h => by rw [h] at dD; cases dD))
            clear next f1
            cases av
            · go_wp2
              go_round
              case rel => exact ⟨k + 1, false, hlt, by go_num, rfl, fun h => by cases h⟩
              case measure => (clear wN; simp [intOf]; omega)
            · go_wp2
              go_round
              case rel => exact ⟨k + 1, true, hlt, by go_num, rfl, hnx.out⟩
              case measure => (clear wN; simp [intOf]; omega)
          | true =>
            have hX1 : X[k] = 1 := f1 (by simpa using dD)
            have dX : (X[k] == 1) = true := by rw [beq_iff_eq]; exact hX1
            have dX2 : (X[k] != 1) = false := by rw [bne, dX]; rfl
            replace hX1 := Lib.hid hX1
            clear f1
            cases av
            · clear next
              go_wp2
              go_round
              case rel => exact ⟨k + 1, false, hlt, by go_num, rfl, fun h => by cases h⟩
              case measure => (clear wN; simp [intOf]; omega)
            · have hl1 := (hab.out rfl).1
              have kB : k < y1.length := by rw [hl1]; exact hlt
              obtain ⟨bb, ob, rfl, cB⟩ := (E.getRow 11 rfl) k kB
              have g3 : y1.getD k 0 = y1[k] := by simp [kB]
              rw [g3] at cB next
              clear g3
              replace hl1 := Lib.hid hl1
              cases dB : (y1[k] == 1) with
              | true =>
                have dB2 : (y1[k] != 1) = false := by rw [bne, dB]; rfl
                have hnx := Lib.hid (next.out (fun _ _ => by simpa using dB))
                clear next
                go_wp2
                go_round
                case rel => exact ⟨k + 1, true, hlt, by go_num, rfl, hnx.out⟩
                case measure => (clear wN; simp [intOf]; omega)
              | false =>
                have dB2 : (y1[k] != 1) = true := by rw [bne, dB]; rfl
                clear next
                go_wp2
                go_round
                case rel => exact ⟨k + 1, false, hlt, by go_num, rfl, fun h => by cases h⟩
                case measure => (clear wN; simp [intOf]; omega)
        · obtain rfl : k = N := by omega
          cases av with
          | false =>
            clear hab
            go_wp2
            go_loop [15] (fun i => ∃ q : Nat, q ≤ k ∧ i = .int .i64 q) (fun i => k - (intOf i).toNat)
            case atStart => exact ⟨0, Nat.zero_le _, rfl⟩
            case round =>
              obtain ⟨q, hq, rfl⟩ := hrel
              by_cases hlt : q < k
              · go_wp2
                go_round
                case rel => exact ⟨q + 1, hlt, by go_num⟩
                case measure => (clear wN; simp [intOf]; omega)
              · go_wp2
                go_ret
                exact ⟨rfl, E.bel⟩
          | true =>
            have hl1 := Lib.hid (hab.out rfl).1
            have ff := Lib.hid (fact2.out (hab.out rfl).2.1 (hab.out rfl).2.2)
            clear hab
            go_wp2
            go_loop [15] (fun i => ∃ q : Nat, q ≤ k ∧ i = .int .i64 q) (fun i => k - (intOf i).toNat)
            case atStart => exact ⟨0, Nat.zero_le _, rfl⟩
            case round =>
              obtain ⟨q, hq, rfl⟩ := hrel
              by_cases hlt : q < k
              · have kX : q < X.length := by rw [hXl.out]; exact hlt
                have kB : q < y1.length := by rw [hl1.out]; exact hlt
                obtain ⟨bx, ox, rfl, cX⟩ := (E.getRow 5 rfl) q kX
                obtain ⟨bb, ob, rfl, cB⟩ := (E.getRow 11 rfl) q kB
                have f2 := ff.out q hlt
                have g2 : X.getD q 0 = X[q] := by simp [kX]
                have g3 : y1.getD q 0 = y1[q] := by simp [kB]
                rw [g2, g3] at f2
                rw [g2] at cX
                rw [g3] at cB
                clear g2 g3
                cases dX : (X[q] == 1) with
                | false =>
                  clear f2
                  go_wp2
                  go_round
                  case rel => exact ⟨q + 1, hlt, by go_num⟩
                  case measure => (clear wN; simp [intOf]; omega)
                | true =>
                  have dB : (y1[q] == 1) = true := by rw [beq_iff_eq]; exact f2 (by simpa using dX)
                  have dB2 : (y1[q] != 1) = false := by rw [bne, dB]; rfl
                  clear f2
                  go_wp2
                  go_round
                  case rel => exact ⟨q + 1, hlt, by go_num⟩
                  case measure => (clear wN; simp [intOf]; omega)
              · go_wp2
                go_ret
                exact ⟨rfl, E.bel⟩
    · have lB : (((y1.length : Nat) : Int) == (N : Int)) = false := by rw [beq_eq_false_iff_ne]; omega
      replace hB := Lib.hid hB
      have hab0 := Lib.hid (show false = true → y1.length = N ∧ Chained n y1 from fun h => by cases h)
      go_wp2
      clear lB
      go_loop [13, 14] (fun ab i => ∃ (k : Nat) (av : Bool), k ≤ N ∧ i = .int .i64 k ∧ ab = .bool av ∧ (av = true → y1.length = N ∧ Chained n y1 ∧ ∀ q, q < k → y0.getD q 0 = 1 → y1.getD q 0 = 1)) (fun _ i => N - (intOf i).toNat)
      case atStart => exact ⟨0, _, Nat.zero_le _, rfl, rfl, fun h => ⟨(hab0.out h).1, (hab0.out h).2, fun q hq => absurd hq (Nat.not_lt_zero _)⟩⟩
      case round =>
        obtain ⟨k, av, hk, rfl, rfl, hab⟩ := hrel
        replace hab := Lib.hid hab
        by_cases hlt : k < N
        · obtain ⟨bd, od, rfl, cD⟩ := (E.getRow 9 rfl) k (by rw [hD.out]; exact hlt)
          obtain ⟨bx, ox, rfl, cX⟩ := (E.getRow 5 rfl) k (by rw [hXl.out]; exact hlt)
          have f1 := fact1.out k hlt
          have sD : y0.getD k 0 = 1 → Chained n y1 → True := fun _ _ => trivial
          have kD : k < y0.length := by rw [hD.out]; exact hlt
          have kX : k < X.length := by rw [hXl.out]; exact hlt
          have next : (av = true → y0.getD k 0 = 1 → y1.getD k 0 = 1) → (av = true → y1.length = N ∧ Chained n y1 ∧ ∀ q, q < k + 1 → y0.getD q 0 = 1 → y1.getD q 0 = 1) := fun h ha =>
            ⟨(hab.out ha).1, (hab.out ha).2.1, fun q hq => by
              by_cases e : q = k
              · subst e; exact h ha
              · exact (hab.out ha).2.2 q (by omega)⟩
          replace next := Lib.hid next
          have g1 : y0.getD k 0 = y0[k] := by simp [kD]
          have g2 : X.getD k 0 = X[k] := by simp [kX]
          rw [g1, g2] at f1
          rw [g1] at next
          rw [g1] at cD
          rw [g2] at cX
          clear sD g1 g2
          cases dD : (y0[k] == 1) with
          | false =>
            have hnx := Lib.hid (next.out (fun _ h => by rw [h] at dD; cases dD))
            clear next f1
            cases av
            · go_wp2
              go_round
              case rel => exact ⟨k + 1, false, hlt, by go_num, rfl, fun h => by cases h⟩
              case measure => (clear wN; simp [intOf]; omega)
            · go_wp2
              go_round
              case rel => exact ⟨k + 1, true, hlt, by go_num, rfl, hnx.out⟩
              case measure => (clear wN; simp [intOf]; omega)
          | true =>
            have hX1 : X[k] = 1 := f1 (by simpa using dD)
            have dX : (X[k] == 1) = true := by rw [beq_iff_eq]; exact hX1
            have dX2 : (X[k] != 1) = false := by rw [bne, dX]; rfl
            replace hX1 := Lib.hid hX1
            clear f1
            cases av
            · clear next
              go_wp2
              go_round
              case rel => exact ⟨k + 1, false, hlt, by go_num, rfl, fun h => by cases h⟩
              case measure => (clear wN; simp [intOf]; omega)
            · have hl1 := (hab.out rfl).1
              have kB : k < y1.length := by rw [hl1]; exact hlt
              obtain ⟨bb, ob, rfl, cB⟩ := (E.getRow 11 rfl) k kB
              have g3 : y1.getD k 0 = y1[k] := by simp [kB]
              rw [g3] at cB next
              clear g3
              replace hl1 := Lib.hid hl1
              cases dB : (y1[k] == 1) with
              | true =>
                have dB2 : (y1[k] != 1) = false := by rw [bne, dB]; rfl
                have hnx := Lib.hid (next.out (fun _ _ => by simpa using dB))
                clear next
                go_wp2
                go_round
                case rel => exact ⟨k + 1, true, hlt, by go_num, rfl, hnx.out⟩
                case measure => (clear wN; simp [intOf]; omega)
              | false =>
                have dB2 : (y1[k] != 1) = true := by rw [bne, dB]; rfl
                clear next
                go_wp2
                go_round
                case rel => exact ⟨k + 1, false, hlt, by go_num, rfl, fun h => by cases h⟩
                case measure => (clear wN; simp [intOf]; omega)
        · obtain rfl : k = N := by omega
          cases av with
          | false =>
            clear hab
            go_wp2
            go_loop [15] (fun i => ∃ q : Nat, q ≤ k ∧ i = .int .i64 q) (fun i => k - (intOf i).toNat)
            case atStart => exact ⟨0, Nat.zero_le _, rfl⟩
            case round =>
              obtain ⟨q, hq, rfl⟩ := hrel
              by_cases hlt : q < k
              · go_wp2
                go_round
                case rel => exact ⟨q + 1, hlt, by go_num⟩
                case measure => (clear wN; simp [intOf]; omega)
              · go_wp2
                go_ret
                exact ⟨rfl, E.bel⟩
          | true =>
            have hl1 := Lib.hid (hab.out rfl).1
            have ff := Lib.hid (fact2.out (hab.out rfl).2.1 (hab.out rfl).2.2)
            clear hab
            go_wp2
            go_loop [15] (fun i => ∃ q : Nat, q ≤ k ∧ i = .int .i64 q) (fun i => k - (intOf i).toNat)
            case atStart => exact ⟨0, Nat.zero_le _, rfl⟩
            case round =>
              obtain ⟨q, hq, rfl⟩ := hrel
              by_cases hlt : q < k
              · have kX : q < X.length := by rw [hXl.out]; exact hlt
                have kB : q < y1.length := by rw [hl1.out]; exact hlt
                obtain ⟨bx, ox, rfl, cX⟩ := (E.getRow 5 rfl) q kX
                obtain ⟨bb, ob, rfl, cB⟩ := (E.getRow 11 rfl) q kB
                have f2 := ff.out q hlt
                have g2 : X.getD q 0 = X[q] := by simp [kX]
                have g3 : y1.getD q 0 = y1[q] := by simp [kB]
                rw [g2, g3] at f2
                rw [g2] at cX
                rw [g3] at cB
                clear g2 g3
                cases dX : (X[q] == 1) with
                | false =>
                  clear f2
                  go_wp2
                  go_round
                  case rel => exact ⟨q + 1, hlt, by go_num⟩
                  case measure => (clear wN; simp [intOf]; omega)
                | true =>
                  have dB : (y1[q] == 1) = true := by rw [beq_iff_eq]; exact f2 (by simpa using dX)
                  have dB2 : (y1[q] != 1) = false := by rw [bne, dB]; rfl
                  clear f2
                  go_wp2
                  go_round
                  case rel => exact ⟨q + 1, hlt, by go_num⟩
                  case measure => (clear wN; simp [intOf]; omega)
              · go_wp2
                go_ret
                exact ⟨rfl, E.bel⟩

end Go.Proofs.Ytpakjdnilimpfaa
