/- The walk of the law ReachCloses: it returns true at all arrays. Condition: the library's one variable is laid. -/
import Derived.Deep.RegionHeld3
import Derived.Test.YtiebknfmmanbiaaDoorRefRel
import Derived.Test.YtiebknfmmanbiaaDoorRefClosed
import Derived.Test.YtiebknfmmanbiaaDoorRefClassed
import Derived.Test.YtiebknfmmanbiaaDoorWkClose
import Derived.Test.YtiebknfmmanbiaaDoorWkClasses
import Derived.Test.YtiebknfmmanbiaaDoorWkSquare
import Derived.Test.YtiebknfmmanbiaaDoorPlainRel
import Derived.Test.YtiebknfmmanbiaaDoorLaidF
namespace Go.Proofs.YtiebknfmmanbiaaDoor
open Go.RowKit


/-- What a drawn region reads of the argument: its box, its first size. -/
theorem held4 {w w' : World} {A B C D : Addr} {a b c d : Value} (hb : Below w.heap.size w w')
    (h : (w.cell? A = some a ∧ w.cell? B = some b ∧ w.cell? C = some c) ∧ w.cell? D = some d) :
    (w'.cell? A = some a ∧ w'.cell? B = some b ∧ w'.cell? C = some c) ∧ w'.cell? D = some d :=
  have k : ∀ {x : Addr} {v : Value}, w.cell? x = some v → w'.cell? x = some v := fun h => (hb.cell (World.block_lt_of_cell? w _ h)).trans h
  ⟨⟨k h.1.1, k h.1.2.1, k h.1.2.2⟩, k h.2⟩
theorem held4_store {w : World} {A T bs os : Nat} {a b c d x y z : Value} (hA : A < T) (hB : bs < T)
    (h : (w.cell? ⟨A, 0, none⟩ = some a ∧ w.cell? ⟨A, 1, none⟩ = some b ∧ w.cell? ⟨A, 2, none⟩ = some c) ∧ w.cell? ⟨bs, os, none⟩ = some d) :
    ((((w.setCell ⟨T, 0, none⟩ x).setCell ⟨T, 1, none⟩ y).setCell ⟨T, 2, none⟩ z).cell? ⟨A, 0, none⟩ = some a ∧ (((w.setCell ⟨T, 0, none⟩ x).setCell ⟨T, 1, none⟩ y).setCell ⟨T, 2, none⟩ z).cell? ⟨A, 1, none⟩ = some b ∧ (((w.setCell ⟨T, 0, none⟩ x).setCell ⟨T, 1, none⟩ y).setCell ⟨T, 2, none⟩ z).cell? ⟨A, 2, none⟩ = some c) ∧ (((w.setCell ⟨T, 0, none⟩ x).setCell ⟨T, 1, none⟩ y).setCell ⟨T, 2, none⟩ z).cell? ⟨bs, os, none⟩ = some d := by
  have k : ∀ {b o k : Nat} {u v : Value}, b < T → w.cell? ⟨b, o, none⟩ = some u → (((w.setCell ⟨T, 0, none⟩ x).setCell ⟨T, 1, none⟩ y).setCell ⟨T, 2, none⟩ z).cell? ⟨b, o, none⟩ = some u := by
    intro b o _ u _ hb h
    have e : ∀ j, (⟨T, j, none⟩ : Addr) ≠ ⟨b, o, none⟩ := fun j h => by cases h; omega
    rw [World.cell?_setCell_other _ _ _ _ (e 2), World.cell?_setCell_other _ _ _ _ (e 1), World.cell?_setCell_other _ _ _ _ (e 0)]
    exact h
  exact ⟨⟨k (k := 0) (v := a) hA h.1.1, k (k := 0) (v := a) hA h.1.2.1, k (k := 0) (v := a) hA h.1.2.2⟩, k (k := 0) (v := a) hB h.2⟩
theorem BlockPost.row {N : Nat} {ys : List Int} {w w' : World} {e : Ending} (h : BlockPost N ys w e w') :
    ∃ b k, e = .returned (.slice b N k) ∧ Row w' b ys ∧ Below w.heap.size w w' := by
  obtain ⟨g, rfl, hg, -, hb⟩ := h
  exact ⟨_, _, rfl, fun i hi => ⟨g, 0, rfl, by rw [Nat.zero_add]; exact block_cell hg hi⟩, hb⟩
theorem ListPost.is_ok {r : Except Int (List Int)} {w w' : World} {e : Ending} {c : List Int} (h : ListPost r w e w') (hr : r = .ok c) :
    ∃ a k, e = .returned (.tuple #[.slice a c.length k, .nilIface]) ∧ Row w' a c ∧ Below w.heap.size w w' := by
  obtain ⟨v, h1, h2⟩ := h.2.1 c hr
  obtain ⟨a, k, rfl, -, -, q⟩ := h2.view
  exact ⟨a, k, h1, q, h.2.2⟩
theorem OwnPost.row {c : List Int} {w w' : World} {e : Ending} (h : OwnPost c w e w') :
    ∃ a k, e = .returned (.slice a c.length k) ∧ Row w' a c ∧ Below w.heap.size w w' := by
  obtain ⟨v, h1, h2, h3⟩ := h
  obtain ⟨a, k, rfl, -, -, q⟩ := h2.view
  exact ⟨a, k, h1, q, h3⟩

set_option maxRecDepth 20000 in
set_option maxHeartbeats 16000000 in
theorem reachCloses_walk (b0 : Bool) (p0 q0 : Option Addr) (x0 y0 : List Int) (c0 d0 : Nat) (w : World) (r0 : Row w p0 x0) (s0 : Row w q0 y0) (l0 : x0.length ≤ maxLen) (m0 : y0.length ≤ maxLen) (n0 : All64 x0) (o0 : All64 y0) (hg : Laid w) :
    Calls Tryd.prog 11 #[arrV b0 p0 x0.length c0 q0 y0.length d0] w fun e w' => e = .returned (.bool true) ∧ Below w.heap.size w w' := by
  by_cases hf : M.relFault ⟨b0, x0, y0⟩ = 0
  case neg =>
    have hrel := fun w h1 h2 => relFault_any b0 p0 q0 x0 y0 _ c0 _ d0 w h1 h2 l0 m0 rfl rfl
    have hclose := fun w h1 h2 => close_any b0 p0 q0 x0 y0 _ c0 _ d0 w h1 h2 l0 m0 rfl rfl
    have hclass := fun w h1 h2 => classes_any b0 p0 q0 x0 y0 _ c0 _ d0 w h1 h2 l0 m0 rfl rfl
    have hr : M.close ⟨b0, x0, y0⟩ = .error (M.relFault ⟨b0, x0, y0⟩) := if_neg hf
    have hr2 : M.classes ⟨b0, x0, y0⟩ = .error (M.relFault ⟨b0, x0, y0⟩) := if_neg hf
    generalize M.relFault ⟨b0, x0, y0⟩ = e0 at *
    have tz : (e0 == 0) = false := by rw [beq_eq_false_iff_ne]; exact hf
    have E := (((((Env.start w).add (f := laidF) hg).addRow s0).addRow r0).box b0 p0 x0.length c0 q0 y0.length d0)
    replace l0 := Lib.hid l0
    replace m0 := Lib.hid m0
    replace n0 := Lib.hid n0
    replace o0 := Lib.hid o0
    clear r0
    clear s0
    replace hrel := Lib.hid hrel
    replace hclose := Lib.hid hclose
    replace hclass := Lib.hid hclass
    replace hr := Lib.hid hr
    replace hr2 := Lib.hid hr2
    replace hf := Lib.hid hf
    go_enter Tryd.func11, Tryd.ntmps11
    obtain ⟨⟨u0, u1, u2⟩, -, -, -⟩ := E.getBox 0 rfl
    go_wp2_with fail
    refine (hrel.out _ (E.getRow 1 rfl) (E.getRow 2 rfl)).mono ?_
    rintro e v1 ⟨rfl, hb⟩
    replace E := E.step hb
    clear hb
    clear u0 u1 u2
    replace E := ((E.addRow (Row.nil _ none)).addRow (Row.nil _ none)).box false none 0 0 none 0 0
    try simp only [World.size_alloc] at E
    obtain ⟨⟨u0, u1, u2⟩, -, -, -⟩ := E.getBox 3 rfl
    go_wp2_with fail
    refine (hclose.out _ (E.getRow 4 rfl) (E.getRow 5 rfl)).mono ?_
    intro e v2 hp
    obtain rfl := hp.1 _ hr.out
    replace E := E.step hp.2.2
    clear hp
    rw [← errV_ne hf.out]
    clear u0 u1 u2
    replace E := ((E.addRow (Row.nil _ none)).addRow (Row.nil _ none)).box false none 0 0 none 0 0
    try simp only [World.size_alloc] at E
    obtain ⟨⟨u0, u1, u2⟩, -, -, -⟩ := E.getBox 0 rfl
    obtain ⟨⟨t0, t1, t2⟩, -, -, -⟩ := E.getBox 3 rfl
    go_wp2_with fail
    refine (isL_any false false none none none none [] [] [] [] 0 0 0 0 0 0 0 0 e0 e0 _ (E.laid 9 rfl) (E.getRow 1 rfl) (E.getRow 2 rfl) (by simp [maxLen]) (by simp [maxLen]) rfl rfl (E.getRow 4 rfl) (E.getRow 5 rfl) (by simp [maxLen]) (by simp [maxLen]) rfl rfl ⟨beq_self_eq_true _, decide_eq_true rfl⟩).mono ?_
    rintro e v3 ⟨rfl, hb⟩
    replace E := E.step hb
    clear hb
    clear u0 u1 u2 t0 t1 t2
    obtain ⟨⟨u0, u1, u2⟩, -, -, -⟩ := E.getBox 6 rfl
    go_wp2_with fail
    refine (hclass.out _ (E.getRow 7 rfl) (E.getRow 8 rfl)).mono ?_
    intro e v4 hp
    obtain rfl := hp.1 _ hr2.out
    replace E := E.step hp.2.2
    clear hp
    rw [← errV_ne hf.out]
    clear u0 u1 u2
    go_wp2_with fail
    refine (intsL_any none none [] [] 0 0 0 0 e0 e0 _ (E.laid 9 rfl) (Row.nil _ none) (Row.nil _ none) (by simp [maxLen]) (by simp [maxLen]) rfl rfl ⟨beq_self_eq_true _, decide_eq_true rfl⟩).mono ?_
    rintro e v5 ⟨rfl, hb⟩
    replace E := E.step hb
    clear hb
    go_wp2
    go_ret
    exact ⟨rfl, E.bel⟩
  case pos =>
    obtain ⟨n, hn, hb0, hx0, hD, -, -, -⟩ := rel_parts hf
    dsimp only at hb0 hx0 hD
    subst hb0
    subst hx0
    clear l0 n0
    have hbs := r0 0 (by simp)
    obtain ⟨bs, os, rfl, hc0⟩ := hbs
    have lbs : bs < w.heap.size := World.block_lt_of_cell? w _ hc0
    clear hc0
    dsimp only [List.length_cons, List.length_nil, Nat.zero_add, Nat.reduceAdd]
    have l0 : ([(n : Int), (n : Int)] : List Int).length ≤ maxLen := by simp [maxLen]
    have hrel := fun w h1 h2 => relFault_any false (some ⟨bs, os, none⟩) q0 [(n : Int), (n : Int)] y0 2 c0 _ d0 w h1 h2 l0 m0 rfl rfl
    have hclose := fun w h1 h2 => close_any false (some ⟨bs, os, none⟩) q0 [(n : Int), (n : Int)] y0 2 c0 _ d0 w h1 h2 l0 m0 rfl rfl
    have hclass := fun w h1 h2 => classes_any false (some ⟨bs, os, none⟩) q0 [(n : Int), (n : Int)] y0 2 c0 _ d0 w h1 h2 l0 m0 rfl rfl
    rw [hf] at hrel
    have hr : M.close ⟨false, [(n : Int), (n : Int)], y0⟩ = .ok ⟨false, [(n : Int), (n : Int)], relCells n (Re.clo n (M.relE ⟨false, [(n : Int), (n : Int)], y0⟩))⟩ := if_pos hf
    have hr2 : M.classes ⟨false, [(n : Int), (n : Int)], y0⟩ = .ok (cnUp n (M.relE ⟨false, [(n : Int), (n : Int)], y0⟩) n) := if_pos hf
    have hF := fun i j (hi : i < n) (hj : j < n) => (relE_in (ch := false) (d := y0) hi hj).symm
    generalize M.relE ⟨false, [(n : Int), (n : Int)], y0⟩ = F at *
    have hcl := fun w h => refClosed_any n F q0 y0 y0.length d0 w h hn hD hF rfl
    have hcd := fun w h => refClassed_any n F q0 y0 y0.length d0 w h hn hD hF rfl
    have hsq := fun b m z w => square_any (n : Int) b m z w
    have hXl : (relCells n (Re.clo n F)).length ≤ maxLen := by rw [relCells_length, ← hD]; exact m0
    have hCl : (cnUp n F n).length ≤ maxLen := by rw [cnUp_length]; unfold maxLen; omega
    have hNl := relCells_length n (Re.clo n F)
    rw [← hNl] at hcl
    generalize relCells n (Re.clo n F) = X at *
    generalize cnUp n F n = C at *
    have E := ((((Env.start w).add (f := laidF) hg).addRow s0).addRow r0).box false (some ⟨bs, os, none⟩) 2 c0 q0 y0.length d0
    replace hrel := Lib.hid hrel
    replace hclose := Lib.hid hclose
    replace hclass := Lib.hid hclass
    replace hr := Lib.hid hr
    replace hr2 := Lib.hid hr2
    replace hf := Lib.hid hf
    replace hD := Lib.hid hD
    replace hF := Lib.hid hF
    replace hcl := Lib.hid hcl
    replace hcd := Lib.hid hcd
    replace hsq := Lib.hid hsq
    replace hXl := Lib.hid hXl
    replace hCl := Lib.hid hCl
    replace hNl := Lib.hid hNl
    replace l0 := Lib.hid l0
    replace m0 := Lib.hid m0
    replace o0 := Lib.hid o0
    clear r0 s0 hn
    have tz : ((0 : Int) == 0) = true := rfl
    go_enter Tryd.func11, Tryd.ntmps11
    obtain ⟨⟨u0, u1, u2⟩, -, -, -⟩ := E.getBox 0 rfl
    go_wp2_with fail
    refine (hrel.out _ (E.getRow 1 rfl) (E.getRow 2 rfl)).mono ?_
    rintro e v6 ⟨rfl, hb⟩
    have ltA := ((E.step hb).getBox 0 rfl).lt
    have ltB := Nat.lt_of_lt_of_le lbs (Nat.le_of_lt ltA)
    replace E := E.step hb
    clear hb
    clear u0 u1 u2
    replace E := ((E.addRow (Row.nil _ none)).addRow (Row.nil _ none)).box false none 0 0 none 0 0
    try simp only [World.size_alloc] at E
    have hc0 := E.getRow 4 rfl 0 (by simp)
    obtain ⟨_, _, ee, hc0⟩ := hc0
    cases ee
    simp only [List.getD_cons_zero, Nat.add_zero] at hc0
    have SS : ((v6.alloc (.cells #[.bool false, .slice none 0 0, .slice none 0 0] 24)).drew.cell? ⟨w.heap.size, 0, none⟩ = some (.bool false) ∧ (v6.alloc (.cells #[.bool false, .slice none 0 0, .slice none 0 0] 24)).drew.cell? ⟨w.heap.size, 1, none⟩ = some (.slice (some ⟨bs, os, none⟩) 2 c0) ∧ (v6.alloc (.cells #[.bool false, .slice none 0 0, .slice none 0 0] 24)).drew.cell? ⟨w.heap.size, 2, none⟩ = some (.slice q0 y0.length d0)) ∧ (v6.alloc (.cells #[.bool false, .slice none 0 0, .slice none 0 0] 24)).drew.cell? ⟨bs, os, none⟩ = some (.int .i64 (n : Int)) := ⟨(E.getBox 3 rfl).1, hc0⟩
    have rD : Row (v6.alloc (.cells #[.bool false, .slice none 0 0, .slice none 0 0] 24)).drew q0 y0 := (E.getRow 5 rfl)
    clear hc0
    go_upto_region 5 with fail
    go_region_held3 (fun w' => (w'.cell? ⟨w.heap.size, 0, none⟩ = some (.bool false) ∧ w'.cell? ⟨w.heap.size, 1, none⟩ = some (.slice (some ⟨bs, os, none⟩) 2 c0) ∧ w'.cell? ⟨w.heap.size, 2, none⟩ = some (.slice q0 y0.length d0)) ∧ w'.cell? ⟨bs, os, none⟩ = some (.int .i64 (n : Int)))
      (first | assumption | (exact held4 hb8 (by assumption)) | (exact held4 hb9 (by assumption)) | (exact held4_store ltA ltB (by assumption)) | go_keep)
      (first
        | (go_at_call 46; refine (hcl.out _ rD).mono ?_; intro e v8 hp; obtain ⟨eS, kS, rfl, rc8, hb8⟩ := hp.row; clear hp)
        | (go_at_call 42; refine (hsq.out _ _ _ _).mono ?_; rintro e v9 ⟨aS, cS, rfl, ra, hb9⟩; have E9 := ((E.drew 1).step hb8).step hb9; obtain ⟨⟨g0, g1, g2⟩, g3, g4, g5⟩ := E9.getBox 0 rfl))
    have rb := rc8.below hb9
    have hb := hb9
    replace E := (E.drew 1).step hb8
    clear SS rD rc8 hb8 hb9
    try dsimp only [List.length_cons, List.length_nil, Nat.reduceAdd] at ra rb ⊢
    replace E := E.step hb
    obtain ⟨⟨g0, g1, g2⟩, g3, g4, g5⟩ := E.getBox 0 rfl
    have E6 := Env.store (w0 := w) (w := v9) (N := v6.heap.size) (ch := false) (a := none) (m := 0) (c := 0) (b := none) (n := 0) (z := 0)
      ((((((((((Env.base E.bel).add (f := laidF) (E.2 6 laidF rfl)).addRow (E.getRow 5 rfl)).addRow (E.getRow 4 rfl)).add (f := .box _ _ _ _ _ _ _ _) (E.getBox 3 rfl)).addRow (E.getRow 2 rfl)).addRow (E.getRow 1 rfl)).addRow rb).addRow ra).add (f := .box _ _ _ _ _ _ _ _) (E.getBox 0 rfl)) (by omega) (by
        intro i N' ch' a' m' c' b' n' z' h
        match i with
        | 0 => cases h
        | 1 => cases h
        | 2 => cases h
        | 3 => cases h
        | 4 => cases h; omega
        | 5 => cases h
        | 6 => cases h
        | 7 => cases h
        | i + 8 => cases h) false aS 2 cS eS X.length kS
    replace E := E6
    clear E6 ra rb hb
    clear g0 g1 g2 g3 g4 g5
    obtain ⟨w6, hw6⟩ : ∃ w6 : World, w6 = ((v9.setCell ⟨v6.heap.size, 0, none⟩ (.bool false)).setCell ⟨v6.heap.size, 1, none⟩ (.slice aS 2 cS)).setCell ⟨v6.heap.size, 2, none⟩ (.slice eS X.length kS) := ⟨_, rfl⟩
    rw [← hw6] at E ⊢
    replace hw6 := Lib.hid hw6
    have hc0 := E.getRow 6 rfl 0 (by simp)
    obtain ⟨_, _, ee, hc0⟩ := hc0
    cases ee
    simp only [List.getD_cons_zero, Nat.add_zero] at hc0
    have SS : ((w6).drew.cell? ⟨w.heap.size, 0, none⟩ = some (.bool false) ∧ (w6).drew.cell? ⟨w.heap.size, 1, none⟩ = some (.slice (some ⟨bs, os, none⟩) 2 c0) ∧ (w6).drew.cell? ⟨w.heap.size, 2, none⟩ = some (.slice q0 y0.length d0)) ∧ (w6).drew.cell? ⟨bs, os, none⟩ = some (.int .i64 (n : Int)) := ⟨(E.getBox 5 rfl).1, hc0⟩
    have rD : Row (w6).drew q0 y0 := (E.getRow 7 rfl)
    clear hc0
    go_upto_region 6 with fail
    go_region_held3 (fun w' => (w'.cell? ⟨w.heap.size, 0, none⟩ = some (.bool false) ∧ w'.cell? ⟨w.heap.size, 1, none⟩ = some (.slice (some ⟨bs, os, none⟩) 2 c0) ∧ w'.cell? ⟨w.heap.size, 2, none⟩ = some (.slice q0 y0.length d0)) ∧ w'.cell? ⟨bs, os, none⟩ = some (.int .i64 (n : Int)))
      (first | assumption | (exact held4 hb10 (by assumption)) | go_keep)
      (first
        | (go_at_call 47; refine (hcd.out _ rD).mono ?_; intro e v10 hp; obtain ⟨aC, kC, rfl, rC10, hb10⟩ := hp.row; clear hp))
    replace E := ((E.drew 1).step hb10).addRow rC10
    clear SS rD hb10 rC10
    obtain ⟨⟨u0, u1, u2⟩, -, -, -⟩ := E.getBox 6 rfl
    go_wp2_with fail
    refine (hclose.out _ (E.getRow 7 rfl) (E.getRow 8 rfl)).mono ?_
    intro e v7 hp
    obtain ⟨aG, cG, eG, kG, rfl, ra, rb, hb⟩ := hp.is_ok hr.out
    clear hp
    clear u0 u1 u2
    dsimp only [List.length_cons, List.length_nil, Nat.reduceAdd] at ra rb ⊢
    replace E := (((E.step hb).addRow rb).addRow ra).box false aG 2 cG eG X.length kG
    clear ra rb hb
    obtain ⟨⟨u0, u1, u2⟩, -, -, -⟩ := E.getBox 0 rfl
    obtain ⟨⟨t0, t1, t2⟩, -, -, -⟩ := E.getBox 4 rfl
    go_wp2_with fail
    refine (isL_any false false aG eG aS eS [(n : Int), (n : Int)] X [(n : Int), (n : Int)] X 2 cG _ kG 2 cS _ kS 0 0 _ (E.laid 12 rfl) (E.getRow 1 rfl) (E.getRow 2 rfl) l0.out hXl.out rfl rfl (E.getRow 5 rfl) (E.getRow 6 rfl) l0.out hXl.out rfl rfl ⟨beq_self_eq_true _, decide_eq_true rfl⟩).mono ?_
    rintro e v8 ⟨rfl, hb⟩
    replace E := E.step hb
    clear hb
    clear u0 u1 u2 t0 t1 t2
    obtain ⟨⟨u0, u1, u2⟩, -, -, -⟩ := E.getBox 9 rfl
    go_wp2_with fail
    refine (hclass.out _ (E.getRow 10 rfl) (E.getRow 11 rfl)).mono ?_
    intro e v9 hp
    obtain ⟨aD, kD, rfl, rD, hb⟩ := hp.is_ok hr2.out
    clear hp
    replace E := (E.step hb).addRow rD
    clear hb rD
    clear u0 u1 u2
    go_wp2_with fail
    refine (intsL_any aD aC C C _ _ kD kC 0 0 _ (E.laid 13 rfl) (E.getRow 0 rfl) (E.getRow 4 rfl) hCl.out hCl.out rfl rfl ⟨beq_self_eq_true _, decide_eq_true rfl⟩).mono ?_
    rintro e v10 ⟨rfl, hb⟩
    replace E := E.step hb
    clear hb
    go_wp2
    go_ret
    exact ⟨rfl, E.bel⟩
end Go.Proofs.YtiebknfmmanbiaaDoor
