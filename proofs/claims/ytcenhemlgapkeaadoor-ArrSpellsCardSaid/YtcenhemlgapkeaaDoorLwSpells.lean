/- The walk of the law ArrSpells: it returns true at all texts. Condition: the two tables of utf8 are laid. -/
import Derived.Deep.RegionHeld3
import Derived.Deep.Cut
import Derived.Test.YtcenhemlgapkeaaDoorWkText
import Derived.Test.YtcenhemlgapkeaaDoorSame
import Derived.Test.YtcenhemlgapkeaaDoorInts
import Derived.Test.YtcenhemlgapkeaaDoorOwnAt
namespace Go.Proofs.YtcenhemlgapkeaaDoor
open Go.RowKit

theorem decodeN_width4 (n b0 b1 b2 b3 : Nat) : (Lib.decodeN n b0 b1 b2 b3).2 ≤ 4 := by
  unfold Lib.decodeN
  repeat' split
  all_goals simp
theorem runesD_size : ∀ (n : Nat) (l : List UInt8), l.length ≤ n → l.length ≤ 4 * (runesD l).length
  | 0, l, hn => by omega
  | n + 1, l, hn => by
    by_cases hne : l = []
    · subst hne; exact Nat.zero_le _
    · have hl : 0 < l.length := List.length_pos_iff.2 hne
      have hw := Lib.decodeL_width l
      have h4 : (Lib.decodeL l).2 ≤ 4 := by rw [Lib.decodeL_N]; exact decodeN_width4 _ _ _ _ _
      have ih := runesD_size n (l.drop (Lib.decodeL l).2) (by rw [List.length_drop]; omega)
      rw [List.length_drop] at ih
      rw [runesD_step l hne, List.length_cons]
      omega
theorem text_parts {l : List UInt8} {x : Arr} (h : M.text l = .ok x) : Lib.validD l = true ∧ x = ⟨true, [((runesD l).length : Int)], runesD l⟩ ∧ (runesD l).length ≤ 4096 := by
  unfold M.text at h
  by_cases h1 : Lib.validD l = false
  · rw [if_pos h1] at h; cases h
  · rw [if_neg h1] at h
    by_cases h2 : 4096 < (runesD l).length
    · rw [if_pos h2] at h; cases h
    · rw [if_neg h2] at h; cases h; exact ⟨by simpa using h1, rfl, by omega⟩
theorem text_append {l m : List UInt8} (h1 : Lib.validD l = true) (h2 : Lib.validD m = true) (h3 : (runesD l).length + (runesD m).length ≤ 4096) :
    M.text (l ++ m) = .ok ⟨true, [((runesD l ++ runesD m).length : Int)], runesD l ++ runesD m⟩ := by
  obtain ⟨e1, e2⟩ := valid_append _ l m (Nat.le_refl _) h1 h2
  unfold M.text
  rw [e1, e2, if_neg (by simp), if_neg (by rw [List.length_append]; omega)]
theorem spells_fact : M.text [97, 207, 137] = .ok ⟨true, [2], [97, 969]⟩ := by kernel_rfl
theorem held3c {w w' : World} {A B C : Addr} {a b c : Value} (hb : Below w.heap.size w w') (h : w.cell? A = some a ∧ w.cell? B = some b ∧ w.cell? C = some c) : w'.cell? A = some a ∧ w'.cell? B = some b ∧ w'.cell? C = some c :=
  have k : ∀ {x : Addr} {v : Value}, w.cell? x = some v → w'.cell? x = some v := fun h => (hb.cell (World.block_lt_of_cell? w _ h)).trans h
  ⟨k h.1, k h.2.1, k h.2.2⟩

set_option maxRecDepth 20000 in
set_option maxHeartbeats 8000000 in
theorem arrSpells_walk (s t : ByteArray) (w : World) (hs : s.size ≤ maxLen) (ht : t.size ≤ maxLen) (hT : Tabs8 w) :
    Calls Tryd.prog 3 #[.string s, .string t] w fun e w' => e = .returned (.bool true) ∧ Below w.heap.size w w' := by
  have E := Env.start w
  have htx := fun W h => text_any s W hs h
  have hty := fun W h => text_any t W ht h
  have hfa := fun W h => text_any { data := #[97, 207, 137] } W (by unfold maxLen; decide) h
  have hsf : M.text (ByteArray.mk #[97, 207, 137]).data.toList = .ok ⟨true, [2], [97, 969]⟩ := spells_fact
  rw [hsf] at hfa
  clear hsf
  replace htx := Lib.hid htx
  replace hty := Lib.hid hty
  replace hfa := Lib.hid hfa
  replace hs := Lib.hid hs
  replace ht := Lib.hid ht
  go_enter Tryd.func3, Tryd.ntmps3
  go_wp2_with fail
  refine (hfa.out _ hT).mono ?_
  intro e v1 hp
  obtain ⟨aF, cF, eF, kF, rfl, ra, rb, hb⟩ := hp.is_ok rfl
  have hT1 := (hT.below hb).below (push (start v1) (.cells #[.bool true, .slice aF 1 cF, .slice eF 2 kF] 24))
  clear hp hfa
  dsimp only [List.length_cons, List.length_nil, Nat.reduceAdd] at ra rb ⊢
  replace E := (((E.step hb).addRow rb).addRow ra).box true aF 1 cF eF 2 kF
  clear ra rb hb
  -- [boxF 0, raF 1, rbF 2]
  obtain ⟨⟨u0, u1, u2⟩, -, -, -⟩ := E.getBox 0 rfl
  obtain ⟨gf, of, rfl, hcf⟩ := (E.getRow 2 rfl) 1 (by simp)
  simp only [List.getD_cons_succ, List.getD_cons_zero] at hcf
  go_wp2_with fail
  refine (htx.out _ hT1).mono ?_
  clear u0 u1 u2 hcf
  cases hx : M.text s.data.toList with
  | error n =>
    intro e v2 hp
    obtain ⟨rfl, hb⟩ := hp.is_error rfl
    have hT2 := (hT1.below hb).below (push (start v2) (.cells #[.bool false, .slice none 0 0, .slice none 0 0] 24))
    clear hp
    replace E := (E.step hb).box false none 0 0 none 0 0
    clear hb
    replace hx := Lib.hid hx
    go_wp2_with fail
    refine (hty.out _ hT2).mono ?_
    cases hy : M.text t.data.toList with
    | error m =>
      intro e v3 hp
      obtain ⟨rfl, hb⟩ := hp.is_error rfl
      clear hp
      replace E := (E.step hb).box false none 0 0 none 0 0
      replace hy := Lib.hid hy
      clear hb
      go_wp2
      go_ret
      exact ⟨rfl, E.bel⟩
    | ok y =>
      intro e v3 hp
      obtain ⟨aY, cY, eY, kY, rfl, ra, rb, hb⟩ := hp.is_ok rfl
      clear hp
      replace E := (E.step hb).box y.ch aY y.s.length cY eY y.d.length kY
      replace hy := Lib.hid hy
      clear hb ra rb
      go_wp2
      go_ret
      exact ⟨rfl, E.bel⟩
  | ok x =>
    obtain ⟨hvx, rfl, hlx⟩ := text_parts hx
    intro e v2 hp
    obtain ⟨aX, cX, eX, kX, rfl, ra, rb, hb⟩ := hp.is_ok rfl
    have hszx := runesD_size _ _ (Nat.le_refl s.data.toList.length)
    rw [← Lib.size_eq] at hszx
    have hT2 := (hT1.below hb).below (push (start v2) (.cells #[.bool true, .slice aX 1 cX, .slice eX (runesD s.data.toList).length kX] 24))
    clear hp
    dsimp only [List.length_cons, List.length_nil, Nat.zero_add, Nat.reduceAdd] at ra rb ⊢
    replace E := (((E.step hb).addRow rb).addRow ra).box true aX 1 cX eX (runesD s.data.toList).length kX
    clear ra rb hb
    -- [boxX 0, raX 1, rbX 2, boxF ..]
    replace hx := Lib.hid hx
    replace hvx := Lib.hid hvx
    go_wp2_with fail
    refine (hty.out _ hT2).mono ?_
    cases hy : M.text t.data.toList with
    | error m =>
      intro e v3 hp
      obtain ⟨rfl, hb⟩ := hp.is_error rfl
      clear hp
      replace E := (E.step hb).box false none 0 0 none 0 0
      replace hy := Lib.hid hy
      clear hb hszx hlx
      go_wp2
      go_ret
      exact ⟨rfl, E.bel⟩
    | ok y =>
      obtain ⟨hvy, rfl, hly⟩ := text_parts hy
      intro e v3 hp
      obtain ⟨aY, cY, eY, kY, rfl, ra, rb, hb⟩ := hp.is_ok rfl
      have hszy := runesD_size _ _ (Nat.le_refl t.data.toList.length)
      rw [← Lib.size_eq] at hszy
      have hT3 := (hT2.below hb).below (push (start v3) (.cells #[.bool true, .slice aY 1 cY, .slice eY (runesD t.data.toList).length kY] 24))
      clear hp
      dsimp only [List.length_cons, List.length_nil, Nat.zero_add, Nat.reduceAdd] at ra rb ⊢
      have lX : v2.heap.size < v3.heap.size := ((E.step hb).getBox 0 rfl).lt
      replace E := (((E.step hb).addRow rb).addRow ra).box true aY 1 cY eY (runesD t.data.toList).length kY
      clear ra rb hb
      -- [boxY 0, raY 1, rbY 2, boxX 3, raX 4, rbX 5, boxF ..]
      have hta := text_append hvx.out hvy
      have hst : ¬ (s.size + t.size > 9223372036854775807) := by omega
      have hstm : (s ++ t).size ≤ maxLen := by
        have e : (s ++ t).size = s.size + t.size := ByteArray.size_append
        rw [e]; unfold maxLen; omega
      have hapd : (s ++ t).data.toList = s.data.toList ++ t.data.toList := by rw [ByteArray.data_append, Array.toList_append]
      have htz := fun W h => text_any (s ++ t) W hstm h
      rw [hapd] at htz
      clear hszx hszy hstm hapd
      replace hy := Lib.hid hy
      replace hvy := Lib.hid hvy
      generalize runesD s.data.toList = xs at *
      generalize runesD t.data.toList = ys at *
      obtain ⟨⟨u0, u1, u2⟩, -, -, -⟩ := E.getBox 3 rfl
      obtain ⟨⟨t0, t1, t2⟩, -, -, -⟩ := E.getBox 0 rfl
      by_cases hl : xs.length + ys.length ≤ 4096
      case neg =>
        have hg : (4096 : Int) < (xs.length : Int) + (ys.length : Int) := by omega
        have hbel := E.bel
        replace hta := Lib.hid hta
        replace htz := Lib.hid htz
        clear E hst hl
        go_wp2
        go_ret
        exact ⟨rfl, hbel⟩
      have hg : ¬ ((4096 : Int) < (xs.length : Int) + (ys.length : Int)) := by omega
      rw [hta hl] at htz
      clear hta
      have hzl : (xs ++ ys).length ≤ maxLen := by rw [List.length_append]; unfold maxLen; omega
      obtain ⟨zs, hzs⟩ : ∃ zs, zs = xs ++ ys := ⟨_, rfl⟩
      rw [← hzs] at htz hzl
      replace hzs := Lib.hid hzs
      have hjl : xs.length + ys.length < 17592186044416 := by omega
      replace htz := Lib.hid htz
      replace hzl := Lib.hid hzl
      replace hjl := Lib.hid hjl
      go_wp2_with fail
      refine (htz.out _ hT3).mono ?_
      intro e v4 hp
      obtain ⟨aZ, cZ, eZ, kZ, rfl, ra, rb, hb⟩ := hp.is_ok rfl
      clear hp u0 u1 u2 t0 t1 t2
      dsimp only [List.length_cons, List.length_nil, Nat.zero_add, Nat.reduceAdd] at ra rb ⊢
      have lX4 : v2.heap.size < v4.heap.size := ((E.step hb).getBox 3 rfl).lt
      have lY4 : v3.heap.size < v4.heap.size := ((E.step hb).getBox 0 rfl).lt
      replace E := (((E.step hb).addRow rb).addRow ra).box true aZ 1 cZ eZ zs.length kZ
      clear ra rb hb
      -- [boxZ 0, raZ 1, rbZ 2, boxY 3, raY 4, rbY 5, boxX 6, raX 7, rbX 8, boxF ..]
      replace E := E.drew 1
      have SS : (v4.alloc (.cells #[.bool true, .slice aZ 1 cZ, .slice eZ zs.length kZ] 24)).drew.cell? ⟨v4.heap.size, 2, none⟩ = some (.slice eZ zs.length kZ) ∧ (v4.alloc (.cells #[.bool true, .slice aZ 1 cZ, .slice eZ zs.length kZ] 24)).drew.cell? ⟨v3.heap.size, 2, none⟩ = some (.slice eY ys.length kY) ∧ (v4.alloc (.cells #[.bool true, .slice aZ 1 cZ, .slice eZ zs.length kZ] 24)).drew.cell? ⟨v2.heap.size, 2, none⟩ = some (.slice eX xs.length kX) := ⟨(E.getBox 0 rfl).1.2.2, (E.getBox 3 rfl).1.2.2, (E.getBox 6 rfl).1.2.2⟩
      have rX : Row (v4.alloc (.cells #[.bool true, .slice aZ 1 cZ, .slice eZ zs.length kZ] 24)).drew eX xs := E.getRow 8 rfl
      have rY : Row (v4.alloc (.cells #[.bool true, .slice aZ 1 cZ, .slice eZ zs.length kZ] 24)).drew eY ys := E.getRow 5 rfl
      have rZ : Row (v4.alloc (.cells #[.bool true, .slice aZ 1 cZ, .slice eZ zs.length kZ] 24)).drew eZ zs := E.getRow 2 rfl
      go_upto_region 9 with fail
      go_region_held3 (fun w' => w'.cell? ⟨v4.heap.size, 2, none⟩ = some (.slice eZ zs.length kZ) ∧ w'.cell? ⟨v3.heap.size, 2, none⟩ = some (.slice eY ys.length kY) ∧ w'.cell? ⟨v2.heap.size, 2, none⟩ = some (.slice eX xs.length kX))
        (first | assumption | (exact held3c hb8 (by assumption)) | go_keep)
        (first
          | (go_at_call 14; refine (joined_any eX eY xs ys _ _ kX kY _ rX rY hjl.out rfl rfl).mono ?_; rintro e v8 ⟨vv, rfl, hown, hb8⟩; rw [← hzs.out] at hown; obtain ⟨aj, cj, rfl, -, -, rj⟩ := hown.view)
          | (go_at_call 13; refine (ints_any eZ aj zs zs _ _ kZ cj _ (rZ.below hb8) rj hzl.out hzl.out rfl rfl).mono ?_; rintro e v9 ⟨rfl, n9, rfl⟩; rw [decide_eq_true (rfl : zs = zs)]))
      have E8 := (E.step hb8).drew n9
      clear SS rX rY rZ E
      obtain ⟨⟨t0, t1, t2⟩, -, -, -⟩ := E8.getBox 0 rfl
      go_wp2
      go_ret
      exact ⟨rfl, E8.bel⟩
end Go.Proofs.YtcenhemlgapkeaaDoor
