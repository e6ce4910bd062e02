/- The call cut.Join at the first axis. Condition: rows that lie as lists of ints of 64 bits. -/
import Derived.Test.YtfnoalbnkbifmaaJoinP
import Derived.Test.YtfnoalbnkbifmaaWkEach
import Derived.Test.YtfnoalbnkbifmaaWkClone
import Derived.Test.YtfnoalbnkbifmaaOwnAt
import Derived.Test.YtfnoalbnkbifmaaStepAt
import Derived.Test.YtfnoalbnkbifmaaConcatO
import Derived.Deep.Cut
import Derived.BigQuiet
namespace Go.Proofs.Ytfnoalbnkbifmaa
open Go.RowKit

/-- The array that is being joined, in its own variable O; its cells in an own slice. -/
def JoinAt (w6 : World) (O : Nat) (ch : Bool) (sv : Value) (N : Nat) (ys : List Int) (wx : World) : Prop :=
  ∃ g cap, (wx.cell? ⟨O, 0, none⟩ = some (.bool ch) ∧ wx.cell? ⟨O, 1, none⟩ = some sv ∧ wx.cell? ⟨O, 2, none⟩ = some (.slice (some ⟨g, 0, none⟩) ys.length cap)) ∧ wx.frozen? ⟨O, 2, none⟩ = false ∧ Own wx w6.heap.size (.slice (some ⟨g, 0, none⟩) ys.length cap) ys ∧ g ≠ O ∧ w6.heap.size ≤ O ∧ Below w6.heap.size w6 wx

theorem JoinAt.bel {w6 : World} {O : Nat} {ch : Bool} {sv : Value} {N : Nat} {ys : List Int} {wx : World} (h : JoinAt w6 O ch sv N ys wx) : Below w6.heap.size w6 wx := by
  obtain ⟨g, cap, -, -, -, -, -, hb⟩ := h; exact hb

theorem JoinAt.drewN {w6 : World} {O : Nat} {ch : Bool} {sv : Value} {N : Nat} {ys : List Int} {wx : World} (h : JoinAt w6 O ch sv N ys wx) (n : Nat) : JoinAt w6 O ch sv N ys (wx.drewN n) := by
  obtain ⟨g, cap, ⟨c0, c1, c2⟩, f2, ho, hne, hO, hb⟩ := h
  exact ⟨g, cap, ⟨c0, c1, c2⟩, f2, ho, hne, hO, below_drewN hb n⟩
/-- The variable gets its cells anew. -/
theorem JoinAt.step {w6 : World} {O : Nat} {ch : Bool} {sv : Value} {N : Nat} {zs : List Int} {wx w' : World} {g g' cap' L : Nat} (hL : L = zs.length)
    (c0 : wx.cell? ⟨O, 0, none⟩ = some (.bool ch)) (c1 : wx.cell? ⟨O, 1, none⟩ = some sv) (c2 : (wx.cell? ⟨O, 2, none⟩).isSome = true) (f2 : wx.frozen? ⟨O, 2, none⟩ = false) (hne : g ≠ O) (hO : w6.heap.size ≤ O) (hb : Below w6.heap.size w6 wx)
    (ho : Own w' w6.heap.size (.slice (some ⟨g', 0, none⟩) L cap') zs) (hg : g' = g ∨ wx.heap.size ≤ g') (hot : ∀ k, k < wx.heap.size → k ≠ g → w'.heap[k]? = wx.heap[k]?) (hb' : Below w6.heap.size wx w') :
    JoinAt w6 O ch sv N zs (w'.setCell ⟨O, 2, none⟩ (.slice (some ⟨g', 0, none⟩) L cap')) := by
  subst hL
  have hlt : O < wx.heap.size := World.block_lt_of_cell? _ _ c0
  have e := hot O hlt (Ne.symm hne)
  have hne' : g' ≠ O := by
    rcases hg with rfl | h
    · exact hne
    · omega
  refine ⟨g', cap', ⟨?_, ?_, ?_⟩, ?_, ?_, hne', hO, (hb.trans hb').setCell (by exact hO) _⟩
  · rw [World.cell?_setCell_other _ _ _ _ (by simp)]; exact (cell_of_eq e 0).trans c0
  · rw [World.cell?_setCell_other _ _ _ _ (by simp)]; exact (cell_of_eq e 1).trans c1
  · exact cell?_set_same _ _ _ (by rw [cell_of_eq e 2]; exact c2)
  · rw [World.frozen?_setCell]; exact (frozen_of_eq e 2).trans f2
  · exact own_other ho _ _ hne'

set_option maxRecDepth 20000 in
set_option maxHeartbeats 16000000 in
theorem join0_any (ch ch' : Bool) (a b a' b' : Option Addr) (s d s' d' : List Int) (m c n z m' c' n' z' : Nat) (w : World) (hs : Row w a s) (hd : Row w b d) (ls : s.length ≤ maxLen) (ld : d.length ≤ maxLen) (hd64 : All64 d) (hz : d.length ≤ z) (em : m = s.length) (en : n = d.length)
    (hs' : Row w a' s') (hd' : Row w b' d') (ls' : s'.length ≤ maxLen) (ld' : d'.length ≤ maxLen) (hd64' : All64 d') (hz' : d'.length ≤ z') (em' : m' = s'.length) (en' : n' = d'.length) :
    Calls Try.prog 13 #[.int .i64 0, arrV ch a m c b n z, arrV ch' a' m' c' b' n' z'] w fun e w' => ArrPost (M.join0 ⟨ch, s, d⟩ ⟨ch', s', d'⟩) w e w' := by
  subst em
  subst en
  subst em'
  subst en'
  have E := ((((((Env.start w).addRow hd').addRow hs').addRow hd).addRow hs).box ch a s.length c b d.length z).box ch' a' s'.length c' b' d'.length z' |>.box false none 0 0 none 0 0
  simp only [World.size_alloc] at E
  have kc1 := fun w h1 h2 => check_any ch a b s d _ c _ z w h1 h2 ls ld rfl rfl
  have kc2 := fun w h1 h2 => check_any ch' a' b' s' d' _ c' _ z' w h1 h2 ls' ld' rfl rfl
  have hr0 : M.join0 ⟨ch, s, d⟩ ⟨ch', s', d'⟩ = if M.flaws ⟨ch, s, d⟩ ⟨ch', s', d'⟩ ≠ 0 then .error (M.flaws ⟨ch, s, d⟩ ⟨ch', s', d'⟩)
      else if s.length ≠ s'.length then .error 3 else if s = [] then .error 5 else if s.tail ≠ s'.tail then .error 4 else if ch ≠ ch' then .error 6
      else match M.count ((s.headD 0 + s'.headD 0) :: s.tail) with
      | .error e => .error e
      | .ok _ => .ok ⟨ch, (s.headD 0 + s'.headD 0) :: s.tail, d ++ d'⟩ := rfl
  replace kc1 := Lib.hid kc1
  replace kc2 := Lib.hid kc2
  replace hr0 := Lib.hid hr0
  generalize hw1 : (((w.alloc _).alloc _).alloc _) = w1 at E
  clear hs hd hs' hd'
  obtain ⟨⟨u0, u1, u2⟩, -, -, -⟩ := E.getBox 2 rfl
  obtain ⟨⟨t0, t1, t2⟩, -, -, -⟩ := E.getBox 1 rfl
  go_enter Try.func13, Try.ntmps13
  go_wp2
  replace hw1 := Lib.hid hw1
  go_loopw [24] (fun v wr => ((v = .int .i64 0) ∨ (v = .int .i64 1 ∧ M.flaw ch s d = 0) ∨ (v = .int .i64 2 ∧ M.flaw ch s d = 0 ∧ M.flaw ch' s' d' = 0)) ∧ Below w1.heap.size w1 wr) (fun v _ => 2 - (intOf v).toNat)
  case atStart => exact ⟨.inl rfl, Below.refl _ _⟩
  case round =>
    clear u0 u1 u2 t0 t1 t2
    obtain ⟨hcase, hbw⟩ := hrel
    have Er := E.step hbw
    clear E
    rcases hcase with rfl | ⟨rfl, h1⟩ | ⟨rfl, h1, h2⟩
    · have Ex := Er.box ch a s.length c b d.length z
      have ix := idx_two0 (.bool ch) (.slice a s.length c) (.slice b d.length z) (.bool ch') (.slice a' s'.length c') (.slice b' d'.length z')
      go_wp2_with fail
      refine (kc1.out _ (Ex.getRow 4 rfl) (Ex.getRow 5 rfl)).mono ?_
      rintro e w5 ⟨rfl, hb⟩
      replace Ex := Ex.step hb
      by_cases hf : M.flaw ch s d = 0
      · rw [hf, errV_zero]
        have hbn := below_trans (hbw.alloc hbw.size (.cells #[.bool ch, .slice a s.length c, .slice b d.length z] 25)) ⟨hb.os, hb.tape, hb.output, hb.size, hb.block⟩
        replace hf := Lib.hid hf
        go_wp2
        go_roundw
        case rel => exact ⟨.inr (.inl ⟨by go_num, hf.out⟩), hbn⟩
        case measure => simp [intOf]
      · have hr := Lib.hid (hr0.out.trans ((if_pos (by unfold M.flaws; rw [if_neg hf]; exact hf)).trans (by unfold M.flaws; rw [if_neg hf])) : M.join0 ⟨ch, s, d⟩ ⟨ch', s', d'⟩ = .error (M.flaw ch s d))
        rw [errV_ne hf]
        generalize M.flaw ch s d = nn at *
        replace hf := Lib.hid hf
        obtain ⟨⟨z0, z1, z2⟩, y0, y1, y2⟩ := Ex.getBox 1 rfl
        have hbx := Ex.bel
        clear Ex Er
        go_wp2
        refine bodyPost_ret (v := .tuple #[arrV false none 0 0 none 0 0, .iface 45 (.int .i64 nn)]) (by simp [results, Try.results13, go_sem, cell?_set_same, z0, z1, z2]) rfl ?_
        exact .error hr.out rfl (set3 hbx (by omega) _ _ _)
    · have Ex := Er.box ch' a' s'.length c' b' d'.length z'
      have ix := idx_two1 (.bool ch) (.slice a s.length c) (.slice b d.length z) (.bool ch') (.slice a' s'.length c') (.slice b' d'.length z')
      go_wp2_with fail
      refine (kc2.out _ (Ex.getRow 6 rfl) (Ex.getRow 7 rfl)).mono ?_
      rintro e w5 ⟨rfl, hb⟩
      replace Ex := Ex.step hb
      by_cases hf : M.flaw ch' s' d' = 0
      · rw [hf, errV_zero]
        have hbn := below_trans (hbw.alloc hbw.size (.cells #[.bool ch', .slice a' s'.length c', .slice b' d'.length z'] 25)) ⟨hb.os, hb.tape, hb.output, hb.size, hb.block⟩
        replace hf := Lib.hid hf
        replace h1 := Lib.hid h1
        go_wp2
        go_roundw
        case rel => exact ⟨.inr (.inr ⟨by go_num, h1.out, hf.out⟩), hbn⟩
        case measure => simp [intOf]
      · have hr := Lib.hid (hr0.out.trans ((if_pos (by unfold M.flaws; rw [if_pos h1]; exact hf)).trans (by unfold M.flaws; rw [if_pos h1])) : M.join0 ⟨ch, s, d⟩ ⟨ch', s', d'⟩ = .error (M.flaw ch' s' d'))
        rw [errV_ne hf]
        generalize M.flaw ch' s' d' = nn at *
        replace hf := Lib.hid hf
        replace h1 := Lib.hid h1
        obtain ⟨⟨z0, z1, z2⟩, y0, y1, y2⟩ := Ex.getBox 1 rfl
        have hbx := Ex.bel
        clear Ex Er
        go_wp2
        refine bodyPost_ret (v := .tuple #[arrV false none 0 0 none 0 0, .iface 45 (.int .i64 nn)]) (by simp [results, Try.results13, go_sem, cell?_set_same, z0, z1, z2]) rfl ?_
        exact .error hr.out rfl (set3 hbx (by omega) _ _ _)
    · have hfl : M.flaws ⟨ch, s, d⟩ ⟨ch', s', d'⟩ = 0 := by unfold M.flaws; rw [if_pos h1]; exact h2
      have hr1 := hr0.out.trans (if_neg (fun h => h hfl))
      obtain ⟨q1, c1, f1⟩ := flaw_parts h1
      obtain ⟨q2, c2, f2⟩ := flaw_parts h2
      obtain ⟨a1, a2, a3, a4, a5⟩ := M.count_ok c1
      obtain ⟨b1, b2, b3, b4, b5⟩ := M.count_ok c2
      replace hfl := Lib.hid hfl
      replace f1 := Lib.hid f1
      replace f2 := Lib.hid f2
      replace h1 := Lib.hid h1
      replace h2 := Lib.hid h2
      clear hr0 c1 c2
      obtain ⟨⟨u0, u1, u2⟩, -, -, -⟩ := Er.getBox 2 rfl
      obtain ⟨⟨t0, t1, t2⟩, -, -, -⟩ := Er.getBox 1 rfl
      clear u0 u1 u2 t0 t1 t2
      by_cases hll : s.length = s'.length
      case neg =>
        have hr := Lib.hid (hr1.trans (if_pos hll))
        have en : (((s.length : Nat) : Int) != ((s'.length : Nat) : Int)) = true := by rw [bne_iff_ne]; omega
        obtain ⟨⟨u0, u1, u2⟩, -, -, -⟩ := Er.getBox 2 rfl
        obtain ⟨⟨t0, t1, t2⟩, -, -, -⟩ := Er.getBox 1 rfl
        obtain ⟨⟨z0, z1, z2⟩, y0, y1, y2⟩ := Er.getBox 0 rfl
        have hbx := Er.bel
        clear Er hr1 a3 b3
        go_wp2
        refine bodyPost_ret (v := .tuple #[arrV false none 0 0 none 0 0, .iface 45 (.int .i64 3)]) (by simp [results, Try.results13, go_sem, cell?_set_same, z0, z1, z2]) rfl ?_
        exact .error hr.out rfl (set3 hbx (by omega) _ _ _)
      have hr2 := hr1.trans (if_neg (fun h => h hll))
      have en : (((s.length : Nat) : Int) != ((s'.length : Nat) : Int)) = false := by rw [hll]; simp
      clear hr1
      by_cases hnil : s = []
      case pos =>
        have hr := Lib.hid (hr2.trans (if_pos hnil))
        have e0 : decide (((s.length : Nat) : Int) ≤ 0) = true := by rw [hnil]; rfl
        obtain ⟨⟨u0, u1, u2⟩, -, -, -⟩ := Er.getBox 2 rfl
        obtain ⟨⟨t0, t1, t2⟩, -, -, -⟩ := Er.getBox 1 rfl
        obtain ⟨⟨z0, z1, z2⟩, y0, y1, y2⟩ := Er.getBox 0 rfl
        have hbx := Er.bel
        replace hnil := Lib.hid hnil
        replace hll := Lib.hid hll
        clear Er hr2 a3 b3
        go_wp2
        refine bodyPost_ret (v := .tuple #[arrV false none 0 0 none 0 0, .iface 45 (.int .i64 5)]) (by simp [results, Try.results13, go_sem, cell?_set_same, z0, z1, z2]) rfl ?_
        exact .error hr.out rfl (set3 hbx (by omega) _ _ _)
      have hr3 := hr2.trans (if_neg hnil)
      clear hr2
      have hpos : 0 < s.length := Nat.pos_of_ne_zero fun h => hnil (List.eq_nil_of_length_eq_zero h)
      have e0 : decide (((s.length : Nat) : Int) ≤ 0) = false := decide_eq_false (by omega)
      have kcl := Lib.hid (fun W h => clone_any a s _ c W h (by omega) rfl)
      replace hnil := Lib.hid hnil
      replace hll := Lib.hid hll
      replace hr3 := Lib.hid hr3
      replace a2 := Lib.hid a2
      replace b2 := Lib.hid b2
      replace a3 := Lib.hid a3
      replace b3 := Lib.hid b3
      obtain ⟨⟨u0, u1, u2⟩, -, -, -⟩ := Er.getBox 2 rfl
      obtain ⟨⟨t0, t1, t2⟩, -, -, -⟩ := Er.getBox 1 rfl
      go_wp2_with fail
      refine (kcl.out _ (Er.getRow 3 rfl)).mono ?_
      rintro e w5 ⟨v5, rfl, o5, hb5⟩
      obtain ⟨g5, cp5, rfl, hg5, hg5'⟩ := own_slice o5 hpos
      have Er4 := Er
      have hbx4 := Er4.bel
      replace Er := Er.step hb5
      clear u0 u1 u2 t0 t1 t2 hbw kc1 kc2 kcl
      obtain ⟨⟨u0, u1, u2⟩, -, -, -⟩ := Er.getBox 2 rfl
      obtain ⟨⟨t0, t1, t2⟩, -, -, -⟩ := Er.getBox 1 rfl
      obtain ⟨⟨z0, z1, z2⟩, y0, y1, y2⟩ := Er.getBox 0 rfl
      have rs5 := Er.getRow 3 rfl
      have rs5' := Er.getRow 5 rfl
      have hbx := Er.bel
      replace o5 := Lib.hid o5
      go_wp2
      go_loopw [59] (fun v wr => ∃ k : Nat, k ≤ s.length ∧ v = .int .i64 k ∧ (∀ i, 1 ≤ i → i < k → s.getD i 0 = s'.getD i 0) ∧ ∃ n, wr = w5.drewN n) (fun v _ => s.length - (intOf v).toNat)
      case atStart => exact ⟨0, Nat.zero_le _, rfl, fun i h1 h2 => by omega, 0, rfl⟩
      case round =>
        obtain ⟨k, hk, rfl, hsame, nd, hnd⟩ := hrel
        subst hnd
        have hl' := hll.out
        by_cases hlt : k < s.length
        · obtain ⟨ba, oa, rfl, ca⟩ := rs5 k hlt
          obtain ⟨bb, ob, rfl, cb⟩ := rs5' k (by omega)
          by_cases hk0 : k = 0
          · subst hk0
            clear ca cb hsame hl'
            go_wp2_with fail
            go_quiet (fail)
            go_wp2
            go_roundw
            case rel => exact ⟨1, by omega, by go_num, fun i h1 h2 => by omega, _, rfl⟩
            case measure => simp [intOf]; omega
          · have ek : (((k : Nat) : Int) != 0) = true := by rw [bne_iff_ne]; omega
            have hks : k < s'.length := by omega
            by_cases he : s.getD k 0 = s'.getD k 0
            · have ee : (s.getD k 0 != s'.getD k 0) = false := by rw [he]; simp
              have hs2 := Lib.hid (show ∀ i, 1 ≤ i → i < k + 1 → s.getD i 0 = s'.getD i 0 from fun i h1 h2 => by
                by_cases e : i = k
                · rw [e]; exact he
                · exact hsame i h1 (by omega))
              replace he := Lib.hid he
              replace hsame := Lib.hid hsame
              clear hl'
              generalize s.getD k 0 = x at *
              generalize s'.getD k 0 = y at *
              go_wp2_with fail
              go_quiet (fail)
              go_wp2
              go_roundw
              case rel => exact ⟨k + 1, by omega, by go_num, hs2.out, _, rfl⟩
              case measure => simp [intOf]; omega
            · have ee : (s.getD k 0 != s'.getD k 0) = true := by rw [bne_iff_ne]; exact he
              have hr := Lib.hid (hr3.out.trans (if_pos (fun h => he (by
                obtain ⟨i, rfl⟩ : ∃ i, k = i + 1 := ⟨k - 1, by omega⟩
                have h1 : s.tail.getD i 0 = s'.tail.getD i 0 := by rw [h]
                rw [List.getD_eq_getElem?_getD, List.getD_eq_getElem?_getD] at h1 ⊢
                simpa using h1))))
              replace he := Lib.hid he
              replace hsame := Lib.hid hsame
              clear hl'
              generalize s.getD k 0 = x at *
              generalize s'.getD k 0 = y at *
              go_wp2_with fail
              go_quiet (fail)
              go_wp2
              refine bodyPost_ret (v := .tuple #[arrV false none 0 0 none 0 0, .iface 45 (.int .i64 4)]) (by simp [results, Try.results13, go_sem, cell?_set_same, z0, z1, z2]) rfl ?_
              exact .error hr.out rfl (set3 (below_drewN hbx _) (by omega) _ _ _)
        · obtain rfl : k = s.length := by omega
          have htl : s.tail = s'.tail := by
            refine List.ext_getElem (by simp; omega) fun i h1 h2 => ?_
            have h3 := hsame (i + 1) (by omega) (by simp at h1; omega)
            simp only [List.getElem_tail]
            have l1 : i + 1 < s.length := by simp at h1; omega
            have l2 : i + 1 < s'.length := by omega
            rw [List.getD_eq_getElem?_getD, List.getElem?_eq_getElem l1, List.getD_eq_getElem?_getD, List.getElem?_eq_getElem l2] at h3
            exact h3
          have hr4 := hr3.out.trans (if_neg (fun h => h htl))
          clear hsame hlt hk hl'
          replace htl := Lib.hid htl
          by_cases hch : ch = ch'
          case neg =>
            have hr := Lib.hid (hr4.trans (if_pos hch))
            have ec : (ch == ch') = false := by rw [beq_eq_false_iff_ne]; exact hch
            replace hch := Lib.hid hch
            clear hr4
            go_wp2
            refine bodyPost_ret (v := .tuple #[arrV false none 0 0 none 0 0, .iface 45 (.int .i64 6)]) (by simp [results, Try.results13, go_sem, cell?_set_same, z0, z1, z2]) rfl ?_
            exact .error hr.out rfl (set3 (below_drewN hbx _) (by omega) _ _ _)
          have ec : (ch == ch') = true := by rw [hch]; simp
          have hr5 := hr4.trans (if_neg (fun h => h hch))
          clear hr4
          obtain ⟨ba, oa, rfl, ca⟩ := rs5 0 hpos
          obtain ⟨bb, ob, rfl, cb⟩ := rs5' 0 (by have := hll.out; omega)
          rw [Nat.add_zero] at ca cb
          have cs := own_cell o5.out hpos
          have fs := own_frozen o5.out 0
          have os := own_store o5.out hpos (s.getD 0 0 + s'.getD 0 0)
          have hx : 0 ≤ s.getD 0 0 ∧ s.getD 0 0 ≤ 4096 := a2.out _ (by rw [List.getD_eq_getElem?_getD, List.getElem?_eq_getElem hpos]; exact List.getElem_mem hpos)
          have hy : 0 ≤ s'.getD 0 0 ∧ s'.getD 0 0 ≤ 4096 := b2.out _ (by
            have h0 : 0 < s'.length := by have := hll.out; omega
            rw [List.getD_eq_getElem?_getD, List.getElem?_eq_getElem h0]; exact List.getElem_mem h0)
          have hset : s.set 0 (s.getD 0 0 + s'.getD 0 0) = (s.headD 0 + s'.headD 0) :: s.tail := by
            cases s with
            | nil => simp at hpos
            | cons p q =>
              cases s' with
              | nil => have := hll.out; simp at this
              | cons p' q' => rfl
          rw [hset] at os
          have hh : (s.headD 0 + s'.headD 0) = s.getD 0 0 + s'.getD 0 0 := by
            cases s with
            | nil => simp at hpos
            | cons p q =>
              cases s' with
              | nil => have := hll.out; simp at this
              | cons p' q' => rfl
          rw [hh] at hr5 os
          have hw0 : wrap64 (s.getD 0 0 + s'.getD 0 0) = s.getD 0 0 + s'.getD 0 0 := IntWalk.wrap64_in _ (by omega)
          have hln5 : ((s.getD 0 0 + s'.getD 0 0) :: s.tail).length = s.length := by simp; omega
          have hps : M.prod s = s.getD 0 0 * M.prod s.tail := by
            cases s with
            | nil => simp at hpos
            | cons p q => rfl
          have hps' : M.prod s' = s'.getD 0 0 * M.prod s.tail := by
            rw [htl.out]
            cases s' with
            | nil => have h0 := hll.out; rw [List.length_nil] at h0; exact absurd h0 (by omega)
            | cons p' q' => rfl
          have hdd : ((d.length : Nat) : Int) = s.getD 0 0 * M.prod s.tail := by rw [f1.out, ← hps]; exact a3.out
          have hdd' : ((d'.length : Nat) : Int) = s'.getD 0 0 * M.prod s.tail := by rw [f2.out, ← hps']; exact b3.out
          replace hps := Lib.hid hps
          replace hps' := Lib.hid hps'
          replace hdd := Lib.hid hdd
          replace hdd' := Lib.hid hdd'
          replace hset := Lib.hid hset
          replace hh := Lib.hid hh
          replace hr5 := Lib.hid hr5
          replace os := Lib.hid os
          replace hln5 := Lib.hid hln5
          clear hx hy
          generalize s.getD 0 0 = X at *
          generalize s'.getD 0 0 = Y at *
          have i1 : (0 : Int) < ((s.length : Nat) : Int) := by omega
          have i2 : (0 : Int) < ((s'.length : Nat) : Int) := by have := hll.out; omega
          go_wp2_with fail
          go_region
          have hb6 := (below_drewN hb5 (nd + 1)).setCell (p := ⟨g5, 0, none⟩) (by exact hg5) (.int .i64 (X + Y))
          have E6 := Er4.step hb6
          have o6 : Own ((w5.drewN (nd + 1)).setCell ⟨g5, 0, none⟩ (.int .i64 (X + Y))) _ (.slice (some ⟨g5, 0, none⟩) s.length cp5) ((X + Y) :: s.tail) := own_same os.out rfl
          have hg6 : g5 < ((w5.drewN (nd + 1)).setCell ⟨g5, 0, none⟩ (.int .i64 (X + Y))).heap.size := by simp; exact hg5'
          clear Er Er4 u0 u1 u2 t0 t1 t2 z0 z1 z2 y0 y1 y2 rs5 rs5' ca cb cs fs os o5 hb5 hb6 hbx hw0
          generalize ((w5.drewN (nd + 1)).setCell ⟨g5, 0, none⟩ (.int .i64 (X + Y))) = w6 at *
          have r6 := o6.row
          have kcn := count_any (some ⟨g5, 0, none⟩) ((X + Y) :: s.tail) s.length cp5 w6 r6 (by rw [hln5.out]; exact ls) hln5.out.symm
          replace kcn := Lib.hid kcn
          have hbx6 := E6.bel
          obtain ⟨⟨u0, u1, u2⟩, -, -, -⟩ := E6.getBox 2 rfl
          obtain ⟨⟨t0, t1, t2⟩, -, -, -⟩ := E6.getBox 1 rfl
          obtain ⟨⟨z0, z1, z2⟩, y0, y1, y2⟩ := E6.getBox 0 rfl
          replace o6 := Lib.hid o6
          replace hch := Lib.hid hch
          cases hcn : M.count ((X + Y) :: s.tail) with
          | error x =>
            have hr := hr5.out
            rw [hcn] at hr
            replace hr := Lib.hid hr
            rw [hcn] at kcn
            replace hcn := Lib.hid hcn
            clear hr5
            go_wp2_with fail
            refine kcn.out.mono ?_
            rintro e w7 ⟨rfl, rfl⟩
            dsimp only [resI]
            go_wp2
            refine bodyPost_ret (v := .tuple #[arrV false none 0 0 none 0 0, .iface 45 (.int .i64 x)]) (by simp [results, Try.results13, go_sem, cell?_set_same, z0, z1, z2]) rfl ?_
            exact .error hr.out rfl (set3 hbx6 (by omega) _ _ _)
          | ok Q =>
            have hr := hr5.out
            rw [hcn] at hr
            dsimp only at hr
            replace hr := Lib.hid hr
            obtain ⟨k1, k2, k3, k4, k5⟩ := M.count_ok hcn
            obtain ⟨N, rfl⟩ : ∃ N : Nat, Q = (N : Int) := ⟨Q.toNat, by omega⟩
            rw [hcn] at kcn
            replace hcn := Lib.hid hcn
            clear hr5 k2
            have hmk := run_make_room0 N (by omega)
            replace k3 := Lib.hid k3
            go_wp2_with fail
            refine kcn.out.mono ?_
            rintro e w7 ⟨rfl, rfl⟩
            dsimp only [resI]
            go_wp2_with fail
            go_upto_region 25 with fail
            go_cut [15] from 108 (fun s15 wx => ∃ O, s15 = .pointer (some ⟨O, 0, none⟩) ∧ JoinAt w6 O ch (.slice (some ⟨g5, 0, none⟩) s.length cp5) N [] wx)
            case first =>
              go_region_held3 (fun w' => w'.cell? ⟨w.heap.size, 0, none⟩ = some (.bool ch))
                (first | go_keep)
                (first | fail)
              all_goals go_wp2
              all_goals go_meet
              · case rel =>
                  refine ⟨_, rfl, w6.heap.size, N, ⟨by simp [go_sem], by simp [go_sem], by simp [go_sem]⟩, by simp [go_sem], ?_, Nat.ne_of_lt (Nat.lt_succ_self _), Nat.le_succ _, ?_⟩
                  · have h := (own_room w6 N w6.heap.size (Nat.le_refl _) (by unfold maxLen; omega)).alloc (.cells #[.bool ch, .slice (some ⟨g5, 0, none⟩) s.length cp5, .slice (some ⟨w6.heap.size, 0, none⟩) 0 N] 25)
                    exact h
                  · exact (((Below.refl _ w6).alloc (Nat.le_refl _) _).alloc (by simp) _).drew
              · case rel =>
                  refine ⟨_, rfl, w6.heap.size + 1, N, ⟨by simp [go_sem], by simp [go_sem], by simp [go_sem]⟩, by simp [go_sem], ?_, Nat.succ_ne_self _, Nat.le_refl _, ?_⟩
                  · have h := own_room (w6.alloc (.cells #[.bool ch, .slice (some ⟨g5, 0, none⟩) s.length cp5, .slice (some ⟨w6.heap.size + 1, 0, none⟩) 0 N] 25)) N w6.heap.size (by simp) (by unfold maxLen; omega)
                    rw [World.size_alloc] at h
                    exact h
                  · exact (((Below.refl _ w6).alloc (Nat.le_refl _) _).alloc (by simp) _).drew
            case rest =>
              obtain ⟨O, rfl, hJ⟩ := hcut
              have hbw := hJ.bel
              have E8 := E6.step hbw
              have E6' := E6
              have rd6 := E6.getRow 4 rfl
              have rd6' := E6.getRow 6 rfl
              have r6' := r6
              have r8 := r6.below hbw
              replace hJ := Lib.hid hJ
              have hN : N = d.length + d'.length := by
                have h1 := k3.out
                have h2 : M.prod ((X + Y) :: s.tail) = (X + Y) * M.prod s.tail := rfl
                rw [h2, Int.add_mul, ← hdd.out, ← hdd'.out] at h1
                omega
              replace hN := Lib.hid hN
              clear E6 r6 u0 u1 u2 t0 t1 t2 z0 z1 z2 y0 y1 y2 hmk kcn
              obtain ⟨⟨u0, u1, u2⟩, -, -, -⟩ := E8.getBox 2 rfl
              obtain ⟨⟨t0, t1, t2⟩, -, -, -⟩ := E8.getBox 1 rfl
              have rs8 := E8.getRow 3 rfl
              have rs8' := E8.getRow 5 rfl
              have q0 : M.prod (s.take 0) = 1 := rfl
              have q0' : M.prod (s'.take 0) = 1 := rfl
              replace q0 := Lib.hid q0
              replace q0' := Lib.hid q0'
              go_wp2
              go_loopw [16, 17, 18] (fun p q v wr => ∃ k nd : Nat, k ≤ s.length ∧ v = .int .i64 k ∧ p = .int .i64 (M.prod (s.take k)) ∧ q = .int .i64 (M.prod (s'.take k)) ∧ wr = wc.drewN nd) (fun _ _ v _ => s.length - (intOf v).toNat)
              case atStart => exact ⟨0, 0, Nat.zero_le _, rfl, rfl, rfl, rfl⟩
              case round =>
                obtain ⟨k, nd, hk, rfl, rfl, rfl, hnd⟩ := hrel
                subst hnd
                have hl' := hll.out
                by_cases hlt : k < s.length
                · have hlt' : k < s'.length := by omega
                  obtain ⟨_, _, ea, ck⟩ := rs8 k hlt
                  obtain ⟨_, _, eb, ck'⟩ := rs8' k hlt'
                  cases ea
                  cases eb
                  have e1 := prod_take hlt
                  have e2 := prod_take hlt'
                  have g1 : s.getD k 0 = s[k] := by rw [List.getD_eq_getElem?_getD, List.getElem?_eq_getElem hlt, Option.getD_some]
                  have g2 : s'.getD k 0 = s'[k] := by rw [List.getD_eq_getElem?_getD, List.getElem?_eq_getElem hlt', Option.getD_some]
                  rw [← g1] at e1
                  rw [← g2] at e2
                  have v1 : 0 ≤ M.prod (s.take (k + 1)) ∧ M.prod (s.take (k + 1)) ≤ 1152921504606846976 := by
                    by_cases h5 : k + 1 ≤ 5
                    · exact prod_bound5 (l := s.take (k + 1)) (fun x hx => a2.out x (List.mem_of_mem_take hx)) (by rw [List.length_take]; omega)
                    · rw [List.take_of_length_le (by omega), ← a3.out]; have := f1.out; omega
                  have v2 : 0 ≤ M.prod (s'.take (k + 1)) ∧ M.prod (s'.take (k + 1)) ≤ 1152921504606846976 := by
                    by_cases h5 : k + 1 ≤ 5
                    · exact prod_bound5 (l := s'.take (k + 1)) (fun x hx => b2.out x (List.mem_of_mem_take hx)) (by rw [List.length_take]; omega)
                    · rw [List.take_of_length_le (by omega), ← b3.out]; have := f2.out; omega
                  have m1 : IntKind.i64.wrap (M.prod (s.take k) * s.getD k 0) = M.prod (s.take (k + 1)) := by rw [← e1, IntKind.wrap_i64]; omega
                  have m2 : IntKind.i64.wrap (M.prod (s'.take k) * s'.getD k 0) = M.prod (s'.take (k + 1)) := by rw [← e2, IntKind.wrap_i64]; omega
                  clear e1 e2 g1 g2 v1 v2 hl'
                  have z1 : M.prod (s.take (k + 1)) = M.prod (s.take (k + 1)) := rfl
                  obtain ⟨P1, hP1⟩ : ∃ P1, P1 = M.prod (s.take (k + 1)) := ⟨_, rfl⟩
                  obtain ⟨P2, hP2⟩ : ∃ P2, P2 = M.prod (s'.take (k + 1)) := ⟨_, rfl⟩
                  rw [← hP1] at m1
                  rw [← hP2] at m2
                  replace hP1 := Lib.hid hP1
                  replace hP2 := Lib.hid hP2
                  clear z1
                  generalize M.prod (s.take k) = p1 at *
                  generalize M.prod (s'.take k) = p2 at *
                  generalize s.getD k 0 = x at *
                  generalize s'.getD k 0 = y at *
                  go_wp2_with fail
                  go_quiet (fail)
                  go_wp2
                  go_roundw
                  case rel => exact ⟨k + 1, _, by omega, by go_num, by rw [← hP1.out], by rw [← hP2.out], rfl⟩
                  case measure => simp [intOf]; omega
                · obtain rfl : k = s.length := by omega
                  have e1 : M.prod (s.take s.length) = ((d.length : Nat) : Int) := by rw [List.take_length, ← a3.out, f1.out]
                  have e2 : M.prod (s'.take s.length) = ((d'.length : Nat) : Int) := by rw [hl', List.take_length, ← b3.out, f2.out]
                  rw [e1, e2]
                  clear e1 e2 hlt hk hl'
                  have hsz8 := hbw.size
                  have hbelA := E8.bel
                  have boxesA := E8.getBox 2 rfl
                  have boxesB := E8.getBox 1 rfl
                  have boxesR := E8.getBox 0 rfl
                  have rd8 := E8.getRow 4 rfl
                  have rd8' := E8.getRow 6 rfl
                  have hJ0 : JoinAt w6 O ch (.slice (some ⟨g5, 0, none⟩) s.length cp5) N [] (wc.drewN nd) := hJ.out.drewN nd
                  obtain ⟨D, hD⟩ : ∃ D, D = d ++ d' := ⟨_, rfl⟩
                  have hDl : D.length = N := by rw [hD, List.length_append]; exact hN.out.symm
                  have hkp : ∀ W : World, Below w6.heap.size w6 W → Row W b d ∧ Row W b' d' ∧ Row W (some ⟨g5, 0, none⟩) ((X + Y) :: s.tail) ∧ BoxF W w.heap.size ch (some ⟨ba, oa, none⟩) s.length c b d.length z ∧ BoxF W (w.heap.size + 1) ch' (some ⟨bb, ob, none⟩) s'.length c' b' d'.length z' ∧ BoxF W (w.heap.size + 1 + 1) false none 0 0 none 0 0 := fun W h =>
                    ⟨rd6.below h, rd6'.below h, r6'.below h, (E6'.step h).getBox 2 rfl, (E6'.step h).getBox 1 rfl, (E6'.step h).getBox 0 rfl⟩
                  replace hkp := Lib.hid hkp
                  replace hD := Lib.hid hD
                  replace hDl := Lib.hid hDl
                  replace hJ0 := Lib.hid hJ0
                  clear u0 u1 u2 t0 t1 t2 rs8 rs8' boxesA boxesB boxesR rd8 rd8' E8 hJ
                  go_wp2
                  go_loopw [19, 20] (fun i j wr => ((i = .int .i64 0 ∧ j = .int .i64 0 ∧ JoinAt w6 O ch (.slice (some ⟨g5, 0, none⟩) s.length cp5) N [] wr) ∨ (i = .int .i64 d.length ∧ j = .int .i64 d'.length ∧ JoinAt w6 O ch (.slice (some ⟨g5, 0, none⟩) s.length cp5) N D wr))) (fun i j _ => 8192 - ((intOf i).toNat + (intOf j).toNat))
                  case atStart => exact .inl ⟨rfl, rfl, hJ0.out⟩
                  case round =>
                    rcases hrel with ⟨rfl, rfl, hJr⟩ | ⟨rfl, rfl, hJr⟩
                    case inl =>
                      by_cases hN0 : N = 0
                      case pos =>
                        have d0 : ([] : List Int) = D := (List.eq_nil_of_length_eq_zero (by rw [hDl.out]; exact hN0)).symm
                        rw [d0] at hJr
                        replace d0 := Lib.hid d0
                        replace hN0 := Lib.hid hN0
                        obtain ⟨g, cap, ⟨c0, c1, c2⟩, fz2, ho, hne, hO, hb⟩ := hJr
                        rw [hDl.out] at c2 ho
                        obtain ⟨-, -, rS, -, -, ⟨⟨z0, z1, z2⟩, z3, z4, z5⟩⟩ := hkp.out _ hb
                        have rdat := ho.row
                        have hbl := hbx6.trans (hb.mono hbx6.size)
                        have hr' := Lib.hid (hr.out.trans (show _ = .ok (⟨ch, (X + Y) :: s.tail, D⟩ : Arr) by rw [← hD.out]))
                        clear hr k4 k5
                        go_wp2
                        refine bodyPost_ret (v := .tuple #[arrV ch (some ⟨g5, 0, none⟩) s.length cp5 (some ⟨g, 0, none⟩) N cap, .nilIface]) (by simp [results, Try.results13, go_sem, cell?_set_same, z0, z1, z2]) rfl ?_
                        refine ArrPost.ok (x := ⟨ch, (X + Y) :: s.tail, D⟩) hr'.out (by dsimp only; rw [hln5.out, hDl.out]) ?_ ?_ (set3 hbl (by omega) _ _ _)
                        · exact ((Row.set_ne rS z0 (by simp)).set_ne ((World.cell?_setCell_other _ _ _ _ (by simp)).trans z1) (by simp)).set_ne ((World.cell?_setCell_other _ _ _ _ (by simp)).trans ((World.cell?_setCell_other _ _ _ _ (by simp)).trans z2)) (by simp)
                        · exact ((Row.set_ne rdat z0 (by simp)).set_ne ((World.cell?_setCell_other _ _ _ _ (by simp)).trans z1) (by simp)).set_ne ((World.cell?_setCell_other _ _ _ _ (by simp)).trans ((World.cell?_setCell_other _ _ _ _ (by simp)).trans z2)) (by simp)
                      case neg =>
                        obtain ⟨g, cap, ⟨c0, c1, c2⟩, fz2, ho, hne, hO, hb⟩ := hJr
                        dsimp only [List.length_nil] at c2 ho
                        obtain ⟨rdd, rdd', -, ⟨⟨u0, u1, u2⟩, -⟩, ⟨⟨t0, t1, t2⟩, -⟩, -⟩ := hkp.out _ hb
                        have dN : d.length ≤ 4096 ∧ d'.length ≤ 4096 := by have := hN.out; omega
                        have hOl : O < wr.heap.size := World.block_lt_of_cell? _ _ c0
                        have n0 : (0 : Int) < ((N : Nat) : Int) := by omega
                        have wd : IntKind.i64.wrap ((d.length : Nat) : Int) = ((d.length : Nat) : Int) := by rw [IntKind.wrap_i64]; omega
                        have hzi : ((d.length : Nat) : Int) ≤ ((z : Nat) : Int) := by omega
                        have hsw := hbx6.trans (hb.mono hbx6.size)
                        replace hb := Lib.hid hb
                        replace ho := Lib.hid ho
                        go_wp2_with fail
                        go_region_law ((first
                          | (refine step_app_at rfl (.tmp 147) (.tmp 154) rfl w6.heap.size g 0 cap [] d b d.length z rfl (by exact ho.out) rfl rfl rfl (by exact rdd) (by simp; omega) (by exact hb.out.size) d.length (by simp) ?_; intro g' c9 w' ho' hg' hot' hb'; have c8 := (cell_of_eq (hot' O hOl (Ne.symm hne)) 2).trans c2; have f8 := (frozen_of_eq (hot' O hOl (Ne.symm hne)) 2).trans fz2; have hJ1 := Lib.hid (JoinAt.step (wx := wr.drew) (N := N) (zs := d) rfl c0 c1 (Option.isSome_iff_exists.2 ⟨_, c2⟩) fz2 hne hO hb.out.drew ho' hg' hot' hb'); replace ho' := Lib.hid ho'; replace hot' := Lib.hid hot'; replace hb' := Lib.hid hb'; replace hg' := Lib.hid hg')))
                        all_goals
                          obtain ⟨w2, hw2⟩ : ∃ w2 : World, w2 = w'.setCell ⟨O, 2, none⟩ (.slice (some ⟨g', 0, none⟩) d.length c9) := ⟨_, rfl⟩
                          rw [← hw2] at hJ1 ⊢
                          replace hw2 := Lib.hid hw2
                          clear c0 c1 c2 fz2 hne hO rdd rdd' u0 u1 u2 t0 t1 t2 hsw c8 f8
                          obtain ⟨g2, cap2, ⟨c0, c1, c2⟩, fz2, ho2, hne2, hO2, hb2⟩ := hJ1.out
                          obtain ⟨-, rdd', -, -, ⟨⟨t0, t1, t2⟩, -⟩, -⟩ := hkp.out _ hb2
                          have hOl2 : O < w2.heap.size := World.block_lt_of_cell? _ _ c0
                          have wd' : IntKind.i64.wrap ((d'.length : Nat) : Int) = ((d'.length : Nat) : Int) := by rw [IntKind.wrap_i64]; omega
                          have hzi' : ((d'.length : Nat) : Int) ≤ ((z' : Nat) : Int) := by omega
                          replace hb2 := Lib.hid hb2
                          replace ho2 := Lib.hid ho2
                          go_wp2_with fail
                          go_region_law ((first
                            | (refine step_app_at rfl (.tmp 158) (.tmp 165) rfl w6.heap.size g2 d.length cap2 d d' b' d'.length z' rfl (by exact ho2.out) rfl rfl rfl (by exact rdd') (by omega) (by exact hb2.out.size) (d.length + d'.length) rfl ?_; intro g3 c3 w3 ho3 hg3 hot3 hb3; have c8 := (cell_of_eq (hot3 O hOl2 (Ne.symm hne2)) 2).trans c2; have f8 := (frozen_of_eq (hot3 O hOl2 (Ne.symm hne2)) 2).trans fz2; have hJ2 := Lib.hid (JoinAt.step (wx := w2.drew) (N := N) (zs := d ++ d') (by simp) c0 c1 (Option.isSome_iff_exists.2 ⟨_, c2⟩) fz2 hne2 hO2 hb2.out.drew ho3 hg3 hot3 hb3); replace ho3 := Lib.hid ho3; replace hot3 := Lib.hid hot3; replace hb3 := Lib.hid hb3; replace hg3 := Lib.hid hg3)))
                          all_goals go_wp2
                          all_goals go_roundw
                          all_goals
                            first
                              | exact .inr ⟨by go_num, by go_num, by rw [hD.out]; exact hJ2.out⟩
                              | (have := hN.out; simp [intOf]; omega)
                    case inr =>
                      obtain ⟨g, cap, ⟨c0, c1, c2⟩, fz2, ho, hne, hO, hb⟩ := hJr
                      rw [hDl.out] at c2 ho
                      obtain ⟨-, -, rS, -, -, ⟨⟨z0, z1, z2⟩, z3, z4, z5⟩⟩ := hkp.out _ hb
                      have rdat := ho.row
                      have hbl := hbx6.trans (hb.mono hbx6.size)
                      have hr' := Lib.hid (hr.out.trans (show _ = .ok (⟨ch, (X + Y) :: s.tail, D⟩ : Arr) by rw [← hD.out]))
                      clear hr k4 k5
                      go_wp2
                      refine bodyPost_ret (v := .tuple #[arrV ch (some ⟨g5, 0, none⟩) s.length cp5 (some ⟨g, 0, none⟩) N cap, .nilIface]) (by simp [results, Try.results13, go_sem, cell?_set_same, z0, z1, z2]) rfl ?_
                      refine ArrPost.ok (x := ⟨ch, (X + Y) :: s.tail, D⟩) hr'.out (by dsimp only; rw [hln5.out, hDl.out]) ?_ ?_ (set3 hbl (by omega) _ _ _)
                      · exact ((Row.set_ne rS z0 (by simp)).set_ne ((World.cell?_setCell_other _ _ _ _ (by simp)).trans z1) (by simp)).set_ne ((World.cell?_setCell_other _ _ _ _ (by simp)).trans ((World.cell?_setCell_other _ _ _ _ (by simp)).trans z2)) (by simp)
                      · exact ((Row.set_ne rdat z0 (by simp)).set_ne ((World.cell?_setCell_other _ _ _ _ (by simp)).trans z1) (by simp)).set_ne ((World.cell?_setCell_other _ _ _ _ (by simp)).trans ((World.cell?_setCell_other _ _ _ _ (by simp)).trans z2)) (by simp)
end Go.Proofs.Ytfnoalbnkbifmaa
