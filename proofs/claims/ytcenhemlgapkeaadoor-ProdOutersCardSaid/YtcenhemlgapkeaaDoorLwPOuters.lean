/- The walk of the law ProdOuters: it returns true at all functions and arrays. Condition: the library's one variable is laid. -/
import Derived.Test.YtcenhemlgapkeaaDoorRefOuter
import Derived.Test.YtcenhemlgapkeaaDoorWkOutAny
import Derived.Test.YtcenhemlgapkeaaDoorRefSqF
import Derived.Test.YtcenhemlgapkeaaDoorBdU
namespace Go.Proofs.YtcenhemlgapkeaaDoor
open Go.RowKit


theorem seqE_err {n : Nat} {F : Nat → Except Int Int} {e : Int} (h : M.seqE n F = .error e) : ∃ i, i < n ∧ F i = .error e := by
  induction n with
  | zero => cases h
  | succ n ih =>
    unfold M.seqE at h
    cases hq : M.seqE n F with
    | error e' =>
      rw [hq] at h
      cases h
      obtain ⟨i, hi, h⟩ := ih hq
      exact ⟨i, by omega, h⟩
    | ok l =>
      rw [hq] at h
      cases hf : F n with
      | error e' =>
        simp only [hf] at h
        cases h
        exact ⟨n, by omega, hf⟩
      | ok v => simp only [hf] at h; cases h

theorem outer_tame (f : Int) (x y : Arr) : Tame (M.outer f x y) := by
  refine ⟨fun n h => ?_, fun z h => ?_⟩
  · unfold M.outer at h
    split at h
    · cases h; decide
    · split at h
      · rename_i h1; cases h; exact h1
      · split at h
        · rename_i hc; cases h; exact count_ne hc
        · split at h
          · cases h; decide
          · split at h
            · rename_i hq
              cases h
              obtain ⟨i, -, hi⟩ := seqE_err hq
              exact tw_err hi
            · cases h
  · unfold M.outer at h
    split at h
    · cases h
    · split at h
      · cases h
      · rename_i h1
        split at h
        · cases h
        · rename_i hc
          split at h
          · cases h
          · split at h
            · cases h
            · rename_i hq
              cases h
              obtain ⟨ha, hb⟩ := flaws_parts (Decidable.of_not_not h1)
              obtain ⟨-, e2, -, -⟩ := outer_sizes ha hb hc
              obtain ⟨c1, -⟩ := M.count_ok hc
              exact ⟨by show (x.s ++ y.s).length ≤ maxLen; unfold maxLen; omega, by show List.length _ ≤ maxLen; rw [seqE_length hq]; unfold maxLen; omega⟩

set_option maxRecDepth 20000 in
set_option maxHeartbeats 16000000 in
theorem prodOuters_walk (a0 : Int) (b1 : Bool) (p1 q1 : Option Addr) (x1 y1 : List Int) (c1 d1 : Nat) (b2 : Bool) (p2 q2 : Option Addr) (x2 y2 : List Int) (c2 d2 : Nat) (w : World) (w0 : I64 a0) (r1 : Row w p1 x1) (s1 : Row w q1 y1) (l1 : x1.length ≤ maxLen) (m1 : y1.length ≤ maxLen) (n1 : All64 x1) (o1 : All64 y1) (r2 : Row w p2 x2) (s2 : Row w q2 y2) (l2 : x2.length ≤ maxLen) (m2 : y2.length ≤ maxLen) (n2 : All64 x2) (o2 : All64 y2) (hg : Laid w) :
    Calls Tryd.prog 9 #[.int .i64 a0, arrV b1 p1 x1.length c1 q1 y1.length d1, arrV b2 p2 x2.length c2 q2 y2.length d2] w fun e w' => e = .returned (.bool true) ∧ Below w.heap.size w w' := by
  have E := ((((((((Env.start w).add (f := laidF) hg).addRow s2).addRow r2).addRow s1).addRow r1).box b1 p1 x1.length c1 q1 y1.length d1).box b2 p2 x2.length c2 q2 y2.length d2)
  try simp only [World.size_alloc] at E
  replace l1 := Lib.hid l1
  replace m1 := Lib.hid m1
  replace n1 := Lib.hid n1
  replace o1 := Lib.hid o1
  clear r1
  clear s1
  replace l2 := Lib.hid l2
  replace m2 := Lib.hid m2
  replace n2 := Lib.hid n2
  replace o2 := Lib.hid o2
  clear r2
  clear s2
  clear w0
  have ht := Lib.hid (outer_tame a0 ⟨b1, x1, y1⟩ ⟨b2, x2, y2⟩)
  go_enter Tryd.func9, Tryd.ntmps9
  obtain ⟨⟨u0, u1, u2⟩, -, -, -⟩ := E.getBox 1 rfl
  obtain ⟨⟨t0, t1, t2⟩, -, -, -⟩ := E.getBox 0 rfl
  go_wp2_with fail
  refine (refOuter_any a0 b1 b2 p1 q1 p2 q2 x1 y1 x2 y2 _ c1 _ d1 _ c2 _ d2 _ (E.getRow 2 rfl) (E.getRow 3 rfl) l1.out m1.out o1.out rfl rfl (E.getRow 4 rfl) (E.getRow 5 rfl) l2.out m2.out o2.out rfl rfl).mono ?_
  intro e v1 hp
  obtain ⟨chW, aW, sW, kW, eW, dW, jW, nW, rfl, hansW, lsW, ldW, ra, rb, hb⟩ := hp.ans0 ht.out
  clear hp
  clear u0 u1 u2 t0 t1 t2
  replace E := (((E.step hb).addRow rb).addRow ra).box chW aW sW.length kW eW dW.length jW
  clear ra rb hb
  replace hansW := Lib.hid hansW
  replace lsW := Lib.hid lsW
  replace ldW := Lib.hid ldW
  obtain ⟨⟨u0, u1, u2⟩, -, -, -⟩ := E.getBox 4 rfl
  obtain ⟨⟨t0, t1, t2⟩, -, -, -⟩ := E.getBox 3 rfl
  go_wp2_with fail
  refine (outer_any a0 b1 b2 p1 q1 p2 q2 x1 y1 x2 y2 _ c1 _ d1 _ c2 _ d2 _ (E.getRow 5 rfl) (E.getRow 6 rfl) l1.out m1.out o1.out rfl rfl (E.getRow 7 rfl) (E.getRow 8 rfl) l2.out m2.out o2.out rfl rfl).mono ?_
  intro e v2 hp
  obtain ⟨chG, aG, sG, kG, eG, dG, jG, nG, rfl, hansG, lsG, ldG, ra, rb, hb⟩ := hp.plain.ans0 ht.out
  clear hp
  clear u0 u1 u2 t0 t1 t2
  replace E := (((E.step hb).addRow rb).addRow ra).box chG aG sG.length kG eG dG.length jG
  clear ra rb hb
  replace hansG := Lib.hid hansG
  replace lsG := Lib.hid lsG
  replace ldG := Lib.hid ldG
  have hsm := Lib.hid (ans0_same hansG.out hansW.out)
  clear hansG hansW ht
  obtain ⟨⟨u0, u1, u2⟩, -, -, -⟩ := E.getBox 0 rfl
  obtain ⟨⟨t0, t1, t2⟩, -, -, -⟩ := E.getBox 3 rfl
  go_wp2_with fail
  refine (isL_any chG chW aG eG aW eW sG dG sW dW _ kG _ jG _ kW _ jW nG nW _ (E.laid 12 rfl) (E.getRow 1 rfl) (E.getRow 2 rfl) lsG.out ldG.out rfl rfl (E.getRow 4 rfl) (E.getRow 5 rfl) lsW.out ldW.out rfl rfl hsm.out).mono ?_
  rintro e v3 ⟨rfl, hb⟩
  replace E := E.step hb
  clear hb
  clear u0 u1 u2 t0 t1 t2
  go_wp2
  go_ret
  exact ⟨rfl, E.bel⟩
end Go.Proofs.YtcenhemlgapkeaaDoor
