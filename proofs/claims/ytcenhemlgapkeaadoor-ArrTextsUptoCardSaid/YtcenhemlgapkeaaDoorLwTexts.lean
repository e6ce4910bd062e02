/- The walk of the law ArrTexts: it returns true at all texts of at most 2^20 bytes. Condition: the tables of utf8 and the library's one variable are laid. -/
import Derived.Test.YtcenhemlgapkeaaDoorWkText
import Derived.Test.YtcenhemlgapkeaaDoorRefRunes
import Derived.Test.YtcenhemlgapkeaaDoorWkVec
import Derived.Test.YtcenhemlgapkeaaDoorSameArr
import Derived.Test.YtcenhemlgapkeaaDoorBdU
namespace Go.Proofs.YtcenhemlgapkeaaDoor
open Go.RowKit

theorem texts_fact : M.text [97, 98] = .ok ⟨true, [2], [97, 98]⟩ := by kernel_rfl
theorem runesD_le : ∀ (n : Nat) (l : List UInt8), l.length ≤ n → (runesD l).length ≤ l.length
  | 0, l, hn => by
    have : l = [] := List.eq_nil_of_length_eq_zero (by omega)
    subst this; exact Nat.le_refl _
  | n + 1, l, hn => by
    by_cases hne : l = []
    · subst hne; exact Nat.le_refl _
    · have hl : 0 < l.length := List.length_pos_iff.2 hne
      have hw := Lib.decodeL_width l
      have ih := runesD_le n (l.drop (Lib.decodeL l).2) (by rw [List.length_drop]; omega)
      rw [List.length_drop] at ih
      rw [runesD_step l hne, List.length_cons]
      omega

set_option maxRecDepth 20000 in
set_option maxHeartbeats 8000000 in
theorem arrTexts_walk (s : ByteArray) (w : World) (hs : s.size ≤ 1048576) (hT : Tabs8 w) (hg : Laid w) :
    Calls Tryd.prog 4 #[.string s] w fun e w' => e = .returned (.bool true) ∧ Below w.heap.size w w' := by
  have E := (Env.start w).add (f := laidF) hg
  have htx := fun W h => text_any s W (by unfold maxLen; omega) h
  have hrn := fun W => refRunes_any s W hs
  have hfa := fun W h => text_any { data := #[97, 98] } W (by unfold maxLen; decide) h
  have hsf : M.text (ByteArray.mk #[97, 98]).data.toList = .ok ⟨true, [2], [97, 98]⟩ := texts_fact
  rw [hsf] at hfa
  clear hsf
  have hlen := runesD_le _ s.data.toList (Nat.le_refl _)
  rw [← Lib.size_eq] at hlen
  replace htx := Lib.hid htx
  replace hrn := Lib.hid hrn
  replace hfa := Lib.hid hfa
  go_enter Tryd.func4, Tryd.ntmps4
  go_wp2_with fail
  refine (hfa.out _ (hT.below E.bel)).mono ?_
  intro e v1 hp
  obtain ⟨aF, cF, eF, kF, rfl, ra, rb, hb⟩ := hp.is_ok rfl
  clear hp
  dsimp only [List.length_cons, List.length_nil, Nat.reduceAdd] at ra rb ⊢
  replace E := (((E.step hb).addRow rb).addRow ra).box true aF 1 cF eF 2 kF
  clear ra rb hb
  obtain ⟨⟨u0, u1, u2⟩, -, -, -⟩ := E.getBox 0 rfl
  go_wp2_with fail
  refine (hrn.out _).mono ?_
  intro e v2 hp
  clear u0 u1 u2
  cases hv : Lib.validD s.data.toList with
  | false =>
    obtain rfl := hp.1 hv
    replace E := E.step hp.2.2
    have hr := Lib.hid (show M.text s.data.toList = .error 6 from if_pos hv)
    have t6 : ((6 : Int) == 6) = true := rfl
    clear hp hlen
    replace hv := Lib.hid hv
    replace E := ((E.addRow (Row.nil _ none)).addRow (Row.nil _ none)).box false none 0 0 none 0 0
    try simp only [World.size_alloc] at E
    go_wp2_with fail
    refine (htx.out _ (hT.below E.bel)).mono ?_
    intro e v3 hp
    obtain ⟨rfl, hb⟩ := hp.is_error hr.out
    replace E := E.step hb
    clear hp hb
    replace E := ((E.addRow (Row.nil _ none)).addRow (Row.nil _ none)).box false none 0 0 none 0 0
    try simp only [World.size_alloc] at E
    go_wp2_with fail
    rw [← errV_ne (show (6 : Int) ≠ 0 by decide)]
    refine (error_any 6 6 _ (E.laid 9 rfl)).mono ?_
    rintro e v4 ⟨rfl, hb⟩
    rw [t6]
    replace E := E.step hb
    clear hb
    obtain ⟨⟨u0, u1, u2⟩, -, -, -⟩ := E.getBox 0 rfl
    obtain ⟨⟨t0, t1, t2⟩, -, -, -⟩ := E.getBox 3 rfl
    go_wp2_with fail
    refine (array_any false false none none none none [] [] [] [] 0 0 0 0 0 0 0 0 _ (E.getRow 1 rfl) (E.getRow 2 rfl) (by simp [maxLen]) (by simp [maxLen]) rfl rfl (E.getRow 4 rfl) (E.getRow 5 rfl) (by simp [maxLen]) (by simp [maxLen]) rfl rfl).mono ?_
    rintro e v5 ⟨rfl, hb⟩
    rw [decide_eq_true (rfl : (⟨false, [], []⟩ : Arr) = ⟨false, [], []⟩)]
    replace E := E.step hb
    clear hb
    clear u0 u1 u2 t0 t1 t2
    go_wp2
    go_ret
    exact ⟨rfl, E.bel⟩
  | true =>
    obtain ⟨aC, kC, rfl, rc⟩ := hp.2.1 hv
    replace E := (E.step hp.2.2).addRow rc
    clear hp rc
    have hr0 : M.text s.data.toList = if 4096 < (runesD s.data.toList).length then .error 7 else .ok ⟨true, [((runesD s.data.toList).length : Int)], runesD s.data.toList⟩ := if_neg (by rw [hv]; exact Bool.noConfusion)
    replace hv := Lib.hid hv
    generalize runesD s.data.toList = xs at *
    by_cases hl : 4096 < xs.length
    case pos =>
      have hr := Lib.hid (hr0.trans (if_pos hl))
      have hg4 : (4096 : Int) < (xs.length : Int) := by omega
      have t7 : ((7 : Int) == 7) = true := rfl
      clear hr0 hl hlen
      replace E := ((E.addRow (Row.nil _ none)).addRow (Row.nil _ none)).box false none 0 0 none 0 0
      try simp only [World.size_alloc] at E
      go_wp2_with fail
      refine (htx.out _ (hT.below E.bel)).mono ?_
      intro e v6 hp
      obtain ⟨rfl, hb⟩ := hp.is_error hr.out
      replace E := E.step hb
      clear hp hb
      replace E := ((E.addRow (Row.nil _ none)).addRow (Row.nil _ none)).box false none 0 0 none 0 0
      try simp only [World.size_alloc] at E
      go_wp2_with fail
      rw [← errV_ne (show (7 : Int) ≠ 0 by decide)]
      refine (error_any 7 7 _ (E.laid 10 rfl)).mono ?_
      rintro e v7 ⟨rfl, hb⟩
      rw [t7]
      replace E := E.step hb
      clear hb
      obtain ⟨⟨u0, u1, u2⟩, -, -, -⟩ := E.getBox 0 rfl
      obtain ⟨⟨t0, t1, t2⟩, -, -, -⟩ := E.getBox 3 rfl
      go_wp2_with fail
      refine (array_any false false none none none none [] [] [] [] 0 0 0 0 0 0 0 0 _ (E.getRow 1 rfl) (E.getRow 2 rfl) (by simp [maxLen]) (by simp [maxLen]) rfl rfl (E.getRow 4 rfl) (E.getRow 5 rfl) (by simp [maxLen]) (by simp [maxLen]) rfl rfl).mono ?_
      rintro e v8 ⟨rfl, hb⟩
      rw [decide_eq_true (rfl : (⟨false, [], []⟩ : Arr) = ⟨false, [], []⟩)]
      replace E := E.step hb
      clear hb
      clear u0 u1 u2 t0 t1 t2
      go_wp2
      go_ret
      exact ⟨rfl, E.bel⟩
    case neg =>
      have hr := Lib.hid (hr0.trans (if_neg hl))
      have hg4 : ¬ ((4096 : Int) < (xs.length : Int)) := by omega
      have t0 : ((0 : Int) == 0) = true := rfl
      have hxm : xs.length ≤ maxLen := by unfold maxLen; omega
      have hx44 : xs.length < 17592186044416 := by omega
      clear hr0 hl hlen
      replace hxm := Lib.hid hxm
      replace hx44 := Lib.hid hx44
      have ltF := (E.getBox 1 rfl).lt
      have szw := E.bel.size
      replace E := ((E.addRow (Row.nil _ none)).addRow (Row.nil _ none)).box false none 0 0 none 0 0
      try simp only [World.size_alloc] at E
      go_wp2_with fail
      refine (vector_any true aC xs _ kC _ (E.getRow 3 rfl) hx44.out rfl).mono ?_
      rintro e v9 ⟨aS, cS, eS, kS, rfl, ra, rb, hb⟩
      dsimp only [List.length_cons, List.length_nil, Nat.reduceAdd] at ra rb ⊢
      replace E := E.step hb
      obtain ⟨⟨g0, g1, g2⟩, g3, g4, g5⟩ := E.getBox 0 rfl
      have E6 := Env.store (w0 := w) (w := v9) (N := v2.heap.size) (ch := false) (a := none) (m := 0) (c := 0) (b := none) (n := 0) (z := 0)
        (((((((((((Env.base E.bel).add (f := laidF) (E.2 7 laidF rfl)).addRow (E.getRow 6 rfl)).addRow (E.getRow 5 rfl)).add (f := .box _ _ _ _ _ _ _ _) (E.getBox 4 rfl)).addRow (E.getRow 3 rfl)).addRow (E.getRow 2 rfl)).addRow (E.getRow 1 rfl)).addRow rb).addRow ra).add (f := .box _ _ _ _ _ _ _ _) (E.getBox 0 rfl)) (by omega) (by
          intro i N' ch' a' m' c' b' n' z' h
          match i with
          | 0 => cases h
          | 1 => cases h
          | 2 => cases h
          | 3 => cases h
          | 4 => cases h
          | 5 => cases h; omega
          | 6 => cases h
          | 7 => cases h
          | 8 => cases h
          | i + 9 => cases h) true aS 1 cS eS xs.length kS
      replace E := E6
      clear E6 ra rb hb
      go_wp2_with fail
      clear g0 g1 g2 g3 g4 g5
      refine (htx.out _ (hT.below E.bel)).mono ?_
      intro e v10 hp
      obtain ⟨aG, cG, eG, kG, rfl, ra, rb, hb⟩ := hp.is_ok hr.out
      clear hp
      dsimp only [List.length_cons, List.length_nil, Nat.reduceAdd] at ra rb ⊢
      replace E := (((E.step hb).addRow rb).addRow ra).box true aG 1 cG eG xs.length kG
      clear ra rb hb
      go_wp2_with fail
      refine (error_any 0 0 _ (E.laid 12 rfl)).mono ?_
      rintro e v11 ⟨rfl, hb⟩
      rw [t0]
      replace E := E.step hb
      clear hb
      obtain ⟨⟨u0, u1, u2⟩, -, -, -⟩ := E.getBox 0 rfl
      obtain ⟨⟨t0, t1, t2⟩, -, -, -⟩ := E.getBox 3 rfl
      go_wp2_with fail
      refine (array_any true true aG eG aS eS [(xs.length : Int)] xs [(xs.length : Int)] xs 1 cG _ kG 1 cS _ kS _ (E.getRow 1 rfl) (E.getRow 2 rfl) (by simp [maxLen]) hxm.out rfl rfl (E.getRow 4 rfl) (E.getRow 5 rfl) (by simp [maxLen]) hxm.out rfl rfl).mono ?_
      rintro e v12 ⟨rfl, hb⟩
      rw [decide_eq_true (rfl : (⟨true, [(xs.length : Int)], xs⟩ : Arr) = ⟨true, [(xs.length : Int)], xs⟩)]
      replace E := E.step hb
      clear hb
      clear u0 u1 u2 t0 t1 t2
      go_wp2
      go_ret
      exact ⟨rfl, E.bel⟩
end Go.Proofs.YtcenhemlgapkeaaDoor
