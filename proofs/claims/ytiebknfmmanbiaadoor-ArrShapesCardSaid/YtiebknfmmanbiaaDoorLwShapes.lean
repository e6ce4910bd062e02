/- The walk of the law ArrShapes: it returns true at all shapes and arrays. Condition: the library's one variable is laid. -/
import Derived.Test.YtiebknfmmanbiaaDoorEachTame
import Derived.Test.YtiebknfmmanbiaaDoorRefShaped
import Derived.Test.YtiebknfmmanbiaaDoorRefArr
import Derived.Test.YtiebknfmmanbiaaDoorWkArrB
import Derived.Test.YtiebknfmmanbiaaDoorLaidF
import Derived.Test.YtiebknfmmanbiaaDoorSameArr
namespace Go.Proofs.YtiebknfmmanbiaaDoor
open Go.RowKit


set_option maxRecDepth 20000 in
set_option maxHeartbeats 16000000 in
theorem arrShapes_walk (p0 : Option Addr) (x0 : List Int) (c0 : Nat) (b1 : Bool) (p1 q1 : Option Addr) (x1 y1 : List Int) (c1 d1 : Nat) (w : World) (r0 : Row w p0 x0) (l0 : x0.length ≤ maxLen) (n0 : All64 x0) (r1 : Row w p1 x1) (s1 : Row w q1 y1) (l1 : x1.length ≤ maxLen) (m1 : y1.length ≤ maxLen) (n1 : All64 x1) (o1 : All64 y1) (hg : Laid w) :
    Calls Tryd.prog 6 #[.slice p0 x0.length c0, arrV b1 p1 x1.length c1 q1 y1.length d1] w fun e w' => e = .returned (.bool true) ∧ Below w.heap.size w w' := by
  have E := ((((((Env.start w).add (f := laidF) hg).addRow s1).addRow r1).addRow r0).box b1 p1 x1.length c1 q1 y1.length d1)
  replace l0 := Lib.hid l0
  replace n0 := Lib.hid n0
  clear r0
  replace l1 := Lib.hid l1
  replace m1 := Lib.hid m1
  replace n1 := Lib.hid n1
  replace o1 := Lib.hid o1
  clear r1
  clear s1
  have ht := Lib.hid (reshape_tame x0 ⟨b1, x1, y1⟩)
  cases hc : M.count x0 with
  | error e0 =>
    have hfz := Lib.hid (fault_error hc)
    have h0 := count_ne hc
    have tz : (e0 == 0) = false := by rw [beq_eq_false_iff_ne]; exact h0
    have hansW : Ans0 (M.reshape x0 ⟨b1, x1, y1⟩) false [] [] e0 := .inr ⟨h0, by unfold M.reshape; rw [hc], rfl, rfl, rfl⟩
    replace hansW := Lib.hid hansW
    replace h0 := Lib.hid h0
    replace hc := Lib.hid hc
    go_enter Tryd.func6, Tryd.ntmps6
    go_wp2_with fail
    refine (fault_any p0 x0 _ c0 _ (E.getRow 1 rfl) l0.out rfl).mono ?_
    rintro e v0 ⟨rfl, rfl⟩
    rw [hfz.out]
    replace E := ((E.addRow (Row.nil _ none)).addRow (Row.nil _ none)).box false none 0 0 none 0 0
    try simp only [World.size_alloc] at E
    obtain ⟨⟨u0, u1, u2⟩, -, -, -⟩ := E.getBox 3 rfl
    go_wp2_with fail
    refine (reshape_any p0 x0 _ c0 b1 p1 q1 x1 y1 _ c1 _ d1 _ (E.getRow 4 rfl) l0.out rfl (E.getRow 5 rfl) (E.getRow 6 rfl) l1.out m1.out rfl rfl).mono ?_
    intro e v1 hp
    obtain ⟨chG, aG, sG, kG, eG, dG, jG, nG, rfl, hansG, lsG, ldG, ra, rb, hb⟩ := hp.ans0 ht.out
    clear hp
    clear u0 u1 u2
    replace E := (((E.step hb).addRow rb).addRow ra).box chG aG sG.length kG eG dG.length jG
    clear ra rb hb
    replace hansG := Lib.hid hansG
    replace lsG := Lib.hid lsG
    replace ldG := Lib.hid ldG
    have hsm := Lib.hid (ans0_same hansG.out hansW.out)
    clear hansG ht
    go_wp2_with fail
    refine (error_any nG e0 _ (E.laid 10 rfl)).mono ?_
    rintro e v2 ⟨rfl, hb⟩
    rw [hsm.out.1]
    replace E := E.step hb
    clear hb
    obtain ⟨⟨u0, u1, u2⟩, -, -, -⟩ := E.getBox 0 rfl
    obtain ⟨⟨t0, t1, t2⟩, -, -, -⟩ := E.getBox 3 rfl
    go_wp2_with fail
    refine (array_any chG false aG eG none none sG dG [] [] _ kG _ jG 0 0 0 0 _ (E.getRow 1 rfl) (E.getRow 2 rfl) lsG.out ldG.out rfl rfl (E.getRow 4 rfl) (E.getRow 5 rfl) (by simp [maxLen]) (by simp [maxLen]) rfl rfl).mono ?_
    rintro e v3 ⟨rfl, hb⟩
    rw [hsm.out.2]
    replace E := E.step hb
    clear hb
    clear u0 u1 u2 t0 t1 t2
    go_wp2
    go_ret
    exact ⟨rfl, E.bel⟩
  | ok q0 =>
    obtain ⟨_, _, _, q4, q5⟩ := M.count_ok hc
    obtain ⟨Q, rfl⟩ : ∃ Q : Nat, q0 = Q := ⟨q0.toNat, by omega⟩
    have hfz := Lib.hid (fault_ok hc)
    by_cases hfl : M.flaw b1 x1 y1 = 0
    · have hansW : Ans0 (M.reshape x0 ⟨b1, x1, y1⟩) b1 x0 (M.cycle y1 Q (M.fill b1)) 0 := .inl ⟨rfl, by unfold M.reshape; rw [hc]; dsimp only; rw [if_pos hfl, Int.toNat_natCast]⟩
      have lS : (M.cycle y1 Q (M.fill b1)).length ≤ maxLen := by rw [cycle_length]; unfold maxLen; omega
      replace hansW := Lib.hid hansW
      replace hfl := Lib.hid hfl
      replace hc := Lib.hid hc
      replace lS := Lib.hid lS
      clear q4 q5
      go_enter Tryd.func6, Tryd.ntmps6
      go_wp2_with fail
      refine (fault_any p0 x0 _ c0 _ (E.getRow 1 rfl) l0.out rfl).mono ?_
      rintro e v0 ⟨rfl, rfl⟩
      rw [hfz.out]
      obtain ⟨⟨u0, u1, u2⟩, -, -, -⟩ := E.getBox 0 rfl
      go_wp2_with fail
      refine (refFlaw_any b1 p1 q1 x1 y1 _ c1 _ d1 _ (E.getRow 2 rfl) (E.getRow 3 rfl) l1.out m1.out rfl rfl).mono ?_
      rintro e v1 ⟨rfl, hb⟩
      rw [hfl.out]
      have ltA := ((E.step hb).getBox 0 rfl).lt
      replace E := E.step hb
      clear hb
      clear u0 u1 u2
      replace E := ((E.addRow (Row.nil _ none)).addRow (Row.nil _ none)).box false none 0 0 none 0 0
      try simp only [World.size_alloc] at E
      obtain ⟨⟨u0, u1, u2⟩, -, -, -⟩ := E.getBox 3 rfl
      obtain ⟨⟨g6, g7, g8⟩, g9, g10, g11⟩ := E.getBox 0 rfl
      go_wp2_with fail
      refine (shaped_any p0 x0 _ c0 b1 p1 q1 x1 y1 _ c1 _ d1 Q _ (E.getRow 4 rfl) hc.out rfl (E.getRow 6 rfl) m1.out rfl rfl).mono ?_
      intro e v2 hp
      obtain ⟨aS, cS, eS, kS, rfl, ra, rb, hb⟩ := hp.post
      clear hp
      clear u0 u1 u2 g9 g6 g7 g8 g10 g11
      dsimp only [List.length_cons, List.length_nil, Nat.reduceAdd] at ra rb ⊢
      replace E := E.step hb
      obtain ⟨⟨g0, g1, g2⟩, g3, g4, g5⟩ := E.getBox 0 rfl
      have E6 := Env.store (w0 := w) (w := v2) (N := v1.heap.size) (ch := false) (a := none) (m := 0) (c := 0) (b := none) (n := 0) (z := 0)
        (((((((((((Env.base E.bel).add (f := laidF) (E.2 7 laidF rfl)).addRow (E.getRow 6 rfl)).addRow (E.getRow 5 rfl)).addRow (E.getRow 4 rfl)).add (f := .box _ _ _ _ _ _ _ _) (E.getBox 3 rfl)).addRow (E.getRow 2 rfl)).addRow (E.getRow 1 rfl)).addRow rb).addRow ra).add (f := .box _ _ _ _ _ _ _ _) (E.getBox 0 rfl)) (by omega) (by
          intro i N' ch' a' m' c' b' n' z' h
          match i with
          | 0 => cases h
          | 1 => cases h
          | 2 => cases h
          | 3 => cases h
          | 4 => cases h; omega
          | 5 => cases h
          | 6 => cases h
          | 7 => cases h
          | 8 => cases h
          | i + 9 => cases h) b1 aS x0.length cS eS (M.cycle y1 Q (M.fill b1)).length kS
      replace E := E6
      clear E6 ra rb hb
      obtain ⟨⟨u0, u1, u2⟩, -, -, -⟩ := E.getBox 5 rfl
      go_wp2_with fail
      refine (reshape_any p0 x0 _ c0 b1 p1 q1 x1 y1 _ c1 _ d1 _ (E.getRow 6 rfl) l0.out rfl (E.getRow 7 rfl) (E.getRow 8 rfl) l1.out m1.out rfl rfl).mono ?_
      intro e v3 hp
      obtain ⟨chG, aG, sG, kG, eG, dG, jG, nG, rfl, hansG, lsG, ldG, ra, rb, hb⟩ := hp.ans0 ht.out
      clear hp
      clear g0 g1 g2 g3 g4 g5 u0 u1 u2
      replace E := (((E.step hb).addRow rb).addRow ra).box chG aG sG.length kG eG dG.length jG
      clear ra rb hb
      replace hansG := Lib.hid hansG
      replace lsG := Lib.hid lsG
      replace ldG := Lib.hid ldG
      have hsm := Lib.hid (ans0_same hansG.out hansW.out)
      clear hansG ht
      go_wp2_with fail
      refine (error_any nG 0 _ (E.laid 12 rfl)).mono ?_
      rintro e v4 ⟨rfl, hb⟩
      rw [hsm.out.1]
      replace E := E.step hb
      clear hb
      obtain ⟨⟨u0, u1, u2⟩, -, -, -⟩ := E.getBox 0 rfl
      obtain ⟨⟨t0, t1, t2⟩, -, -, -⟩ := E.getBox 3 rfl
      go_wp2_with fail
      refine (array_any chG b1 aG eG aS eS sG dG x0 (M.cycle y1 Q (M.fill b1)) _ kG _ jG _ cS _ kS _ (E.getRow 1 rfl) (E.getRow 2 rfl) lsG.out ldG.out rfl rfl (E.getRow 4 rfl) (E.getRow 5 rfl) l0.out lS.out rfl rfl).mono ?_
      rintro e v5 ⟨rfl, hb⟩
      rw [hsm.out.2]
      replace E := E.step hb
      clear hb
      clear u0 u1 u2 t0 t1 t2
      go_wp2
      go_ret
      exact ⟨rfl, E.bel⟩
    · have hansW : Ans0 (M.reshape x0 ⟨b1, x1, y1⟩) false [] [] (M.flaw b1 x1 y1) := .inr ⟨hfl, by unfold M.reshape; rw [hc]; dsimp only; rw [if_neg hfl], rfl, rfl, rfl⟩
      have tz : (M.flaw b1 x1 y1 == 0) = false := by rw [beq_eq_false_iff_ne]; exact hfl
      have h0 := Lib.hid hfl
      obtain ⟨e0, hfl⟩ : ∃ e0, M.flaw b1 x1 y1 = e0 := ⟨_, rfl⟩
      rw [hfl] at tz hansW
      replace hansW := Lib.hid hansW
      replace hfl := Lib.hid hfl
      replace hc := Lib.hid hc
      clear q4 q5
      go_enter Tryd.func6, Tryd.ntmps6
      go_wp2_with fail
      refine (fault_any p0 x0 _ c0 _ (E.getRow 1 rfl) l0.out rfl).mono ?_
      rintro e v0 ⟨rfl, rfl⟩
      rw [hfz.out]
      obtain ⟨⟨u0, u1, u2⟩, -, -, -⟩ := E.getBox 0 rfl
      go_wp2_with fail
      refine (refFlaw_any b1 p1 q1 x1 y1 _ c1 _ d1 _ (E.getRow 2 rfl) (E.getRow 3 rfl) l1.out m1.out rfl rfl).mono ?_
      rintro e v1 ⟨rfl, hb⟩
      rw [hfl.out]
      replace E := E.step hb
      clear hb
      clear u0 u1 u2
      replace E := ((E.addRow (Row.nil _ none)).addRow (Row.nil _ none)).box false none 0 0 none 0 0
      try simp only [World.size_alloc] at E
      obtain ⟨⟨u0, u1, u2⟩, -, -, -⟩ := E.getBox 3 rfl
      go_wp2_with fail
      refine (reshape_any p0 x0 _ c0 b1 p1 q1 x1 y1 _ c1 _ d1 _ (E.getRow 4 rfl) l0.out rfl (E.getRow 5 rfl) (E.getRow 6 rfl) l1.out m1.out rfl rfl).mono ?_
      intro e v2 hp
      obtain ⟨chG, aG, sG, kG, eG, dG, jG, nG, rfl, hansG, lsG, ldG, ra, rb, hb⟩ := hp.ans0 ht.out
      clear hp
      clear u0 u1 u2
      replace E := (((E.step hb).addRow rb).addRow ra).box chG aG sG.length kG eG dG.length jG
      clear ra rb hb
      replace hansG := Lib.hid hansG
      replace lsG := Lib.hid lsG
      replace ldG := Lib.hid ldG
      have hsm := Lib.hid (ans0_same hansG.out hansW.out)
      clear hansG ht
      go_wp2_with fail
      refine (error_any nG e0 _ (E.laid 10 rfl)).mono ?_
      rintro e v3 ⟨rfl, hb⟩
      rw [hsm.out.1]
      replace E := E.step hb
      clear hb
      obtain ⟨⟨u0, u1, u2⟩, -, -, -⟩ := E.getBox 0 rfl
      obtain ⟨⟨t0, t1, t2⟩, -, -, -⟩ := E.getBox 3 rfl
      go_wp2_with fail
      refine (array_any chG false aG eG none none sG dG [] [] _ kG _ jG 0 0 0 0 _ (E.getRow 1 rfl) (E.getRow 2 rfl) lsG.out ldG.out rfl rfl (E.getRow 4 rfl) (E.getRow 5 rfl) (by simp [maxLen]) (by simp [maxLen]) rfl rfl).mono ?_
      rintro e v4 ⟨rfl, hb⟩
      rw [hsm.out.2]
      replace E := E.step hb
      clear hb
      clear u0 u1 u2 t0 t1 t2
      go_wp2
      go_ret
      exact ⟨rfl, E.bel⟩
end Go.Proofs.YtiebknfmmanbiaaDoor
