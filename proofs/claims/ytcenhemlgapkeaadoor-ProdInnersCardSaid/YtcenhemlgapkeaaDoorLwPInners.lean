/- The walk of the law ProdInners: it returns true at all functions and arrays. Condition: the library's one variable is laid. -/
import Derived.Test.YtcenhemlgapkeaaDoorRefInner
import Derived.Test.YtcenhemlgapkeaaDoorWkInnAny
import Derived.Test.YtcenhemlgapkeaaDoorRefSqF
import Derived.Test.YtcenhemlgapkeaaDoorBdU
namespace Go.Proofs.YtcenhemlgapkeaaDoor
open Go.RowKit


theorem seqE_err2 {n : Nat} {F : Nat → Except Int Int} {e : Int} (h : M.seqE n F = .error e) : ∃ i, i < n ∧ F i = .error e := by
  induction n with
  | zero => cases h
  | succ n ih =>
    unfold M.seqE at h
    cases hq : M.seqE n F with
    | error e' =>
      rw [hq] at h
      cases h
      obtain ⟨i, hi, h⟩ := ih hq
      exact ⟨i, by omega, h⟩
    | ok l =>
      rw [hq] at h
      cases hf : F n with
      | error e' =>
        simp only [hf] at h
        cases h
        exact ⟨n, by omega, hf⟩
      | ok v => simp only [hf] at h; cases h
theorem fits_ne {x y : Arr} {e : Int} (h : M.fits x y = .error e) : e ≠ 0 := by
  unfold M.fits at h
  split at h
  · cases h; decide
  · split at h
    · cases h; decide
    · split at h
      · rename_i hc; cases h; exact count_ne hc
      · cases h
theorem innerCell_ne {f g : Int} {c1 c2 : Bool} {d d' : List Int} {P C k : Nat} {e : Int} (h : M.innerCell f g c1 c2 d d' P C k = .error e) : e ≠ 0 := by
  unfold M.innerCell at h
  cases hq : M.seqE P (M.lineV g c1 c2 d d' P C k) with
  | error e' =>
    rw [hq] at h
    cases h
    obtain ⟨i, -, hi⟩ := seqE_err2 hq
    exact tw_err hi
  | ok l => rw [hq] at h; exact foldL_ne h
theorem inner_tame (f g : Int) (x y : Arr) : Tame (M.inner f g x y) := by
  refine ⟨fun n h => ?_, fun z h => ?_⟩
  · unfold M.inner at h
    split at h
    · cases h; decide
    · split at h
      · rename_i h1; cases h; exact h1
      · split at h
        · rename_i hc; cases h; exact fits_ne hc
        · split at h
          · cases h; decide
          · split at h
            · rename_i hq
              cases h
              unfold M.lone at hq
              split at hq
              · exact neutral_err hq
              · cases hq
            · unfold M.innerOf at h
              split at h
              · rename_i hq
                cases h
                obtain ⟨i, -, hi⟩ := seqE_err2 hq
                exact innerCell_ne hi
              · cases h
  · unfold M.inner at h
    split at h
    · cases h
    · split at h
      · cases h
      · split at h
        · cases h
        · rename_i pp hf
          split at h
          · cases h
          · split at h
            · cases h
            · unfold M.innerOf at h
              split at h
              · cases h
              · rename_i hq
                cases h
                obtain ⟨u, v, N, -, -, e3, hc⟩ := innerFits (sv := pp.1) (long := pp.2) hf
                obtain ⟨c1, -, c3, c4, c5⟩ := M.count_ok hc
                have hl := seqE_length hq
                rw [e3] at hl
                refine ⟨?_, ?_⟩
                · show pp.1.length ≤ maxLen
                  rw [e3]; unfold maxLen; omega
                · show List.length _ ≤ maxLen
                  rw [hl]; unfold maxLen; omega

set_option maxRecDepth 20000 in
set_option maxHeartbeats 16000000 in
theorem prodInners_walk (a0 : Int) (a1 : Int) (b2 : Bool) (p2 q2 : Option Addr) (x2 y2 : List Int) (c2 d2 : Nat) (b3 : Bool) (p3 q3 : Option Addr) (x3 y3 : List Int) (c3 d3 : Nat) (w : World) (w0 : I64 a0) (w1 : I64 a1) (r2 : Row w p2 x2) (s2 : Row w q2 y2) (l2 : x2.length ≤ maxLen) (m2 : y2.length ≤ maxLen) (n2 : All64 x2) (o2 : All64 y2) (cu2 : x2.length ≤ c2) (cz2 : y2.length ≤ d2) (r3 : Row w p3 x3) (s3 : Row w q3 y3) (l3 : x3.length ≤ maxLen) (m3 : y3.length ≤ maxLen) (n3 : All64 x3) (o3 : All64 y3) (cu3 : x3.length ≤ c3) (cz3 : y3.length ≤ d3) (hg : Laid w) :
    Calls Tryd.prog 10 #[.int .i64 a0, .int .i64 a1, arrV b2 p2 x2.length c2 q2 y2.length d2, arrV b3 p3 x3.length c3 q3 y3.length d3] w fun e w' => e = .returned (.bool true) ∧ Below w.heap.size w w' := by
  have E := ((((((((Env.start w).add (f := laidF) hg).addRow s3).addRow r3).addRow s2).addRow r2).box b2 p2 x2.length c2 q2 y2.length d2).box b3 p3 x3.length c3 q3 y3.length d3)
  try simp only [World.size_alloc] at E
  replace l2 := Lib.hid l2
  replace m2 := Lib.hid m2
  replace n2 := Lib.hid n2
  replace o2 := Lib.hid o2
  replace cu2 := Lib.hid cu2
  replace cz2 := Lib.hid cz2
  clear r2
  clear s2
  replace l3 := Lib.hid l3
  replace m3 := Lib.hid m3
  replace n3 := Lib.hid n3
  replace o3 := Lib.hid o3
  replace cu3 := Lib.hid cu3
  replace cz3 := Lib.hid cz3
  clear r3
  clear s3
  clear w0 w1
  have ht := Lib.hid (inner_tame a0 a1 ⟨b2, x2, y2⟩ ⟨b3, x3, y3⟩)
  go_enter Tryd.func10, Tryd.ntmps10
  obtain ⟨⟨u0, u1, u2⟩, -, -, -⟩ := E.getBox 1 rfl
  obtain ⟨⟨t0, t1, t2⟩, -, -, -⟩ := E.getBox 0 rfl
  go_wp2_with fail
  refine (refInner_any a0 a1 b2 b3 p2 q2 p3 q3 x2 y2 x3 y3 _ c2 _ d2 _ c3 _ d3 _ (E.getRow 2 rfl) (E.getRow 3 rfl) l2.out m2.out o2.out cu2.out rfl rfl (E.getRow 4 rfl) (E.getRow 5 rfl) l3.out m3.out o3.out cu3.out rfl rfl).mono ?_
  intro e v1 hp
  obtain ⟨chW, aW, sW, kW, eW, dW, jW, nW, rfl, hansW, lsW, ldW, ra, rb, hb⟩ := hp.ans0 ht.out
  clear hp
  clear u0 u1 u2 t0 t1 t2
  replace E := (((E.step hb).addRow rb).addRow ra).box chW aW sW.length kW eW dW.length jW
  clear ra rb hb
  replace hansW := Lib.hid hansW
  replace lsW := Lib.hid lsW
  replace ldW := Lib.hid ldW
  obtain ⟨⟨u0, u1, u2⟩, -, -, -⟩ := E.getBox 4 rfl
  obtain ⟨⟨t0, t1, t2⟩, -, -, -⟩ := E.getBox 3 rfl
  go_wp2_with fail
  refine (inner_any a0 a1 b2 b3 p2 q2 p3 q3 x2 y2 x3 y3 _ c2 _ d2 _ c3 _ d3 _ (E.getRow 5 rfl) (E.getRow 6 rfl) l2.out m2.out o2.out cu2.out rfl rfl (E.getRow 7 rfl) (E.getRow 8 rfl) l3.out m3.out o3.out cu3.out rfl rfl).mono ?_
  intro e v2 hp
  obtain ⟨chG, aG, sG, kG, eG, dG, jG, nG, rfl, hansG, lsG, ldG, ra, rb, hb⟩ := hp.plain.ans0 ht.out
  clear hp
  clear u0 u1 u2 t0 t1 t2
  replace E := (((E.step hb).addRow rb).addRow ra).box chG aG sG.length kG eG dG.length jG
  clear ra rb hb
  replace hansG := Lib.hid hansG
  replace lsG := Lib.hid lsG
  replace ldG := Lib.hid ldG
  have hsm := Lib.hid (ans0_same hansG.out hansW.out)
  clear hansG hansW ht
  obtain ⟨⟨u0, u1, u2⟩, -, -, -⟩ := E.getBox 0 rfl
  obtain ⟨⟨t0, t1, t2⟩, -, -, -⟩ := E.getBox 3 rfl
  go_wp2_with fail
  refine (isL_any chG chW aG eG aW eW sG dG sW dW _ kG _ jG _ kW _ jW nG nW _ (E.laid 12 rfl) (E.getRow 1 rfl) (E.getRow 2 rfl) lsG.out ldG.out rfl rfl (E.getRow 4 rfl) (E.getRow 5 rfl) lsW.out ldW.out rfl rfl hsm.out).mono ?_
  rintro e v3 ⟨rfl, hb⟩
  replace E := E.step hb
  clear hb
  clear u0 u1 u2 t0 t1 t2
  go_wp2
  go_ret
  exact ⟨rfl, E.bel⟩
end Go.Proofs.YtcenhemlgapkeaaDoor
