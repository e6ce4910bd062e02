/- The document's EachTwo, TwoCells and Compares: the cells at one place. Condition: rows that lie as lists of ints of 64 bits. -/
import Derived.Test.YtiebknfmmanbiaaDoorDocP
import Derived.Test.YtiebknfmmanbiaaDoorEachTame
import Derived.Test.YtiebknfmmanbiaaDoorRefFlaws
import Derived.Test.YtiebknfmmanbiaaDoorRefTwo
import Derived.Test.YtiebknfmmanbiaaDoorRefShaped
import Derived.Test.YtiebknfmmanbiaaDoorOwnAt
import Derived.Deep.QuietTactic
import Derived.BigQuiet
import Derived.Deep.Cut
import Derived.Deep.CutRange
namespace Go.Proofs.YtiebknfmmanbiaaDoor
open Go.RowKit

theorem refCompares_any (f : Int) (w : World) : Calls Tryd.prog 100 #[.int .i64 f] w fun e w' => e = .returned (.bool (M.cmp f)) ∧ w = w' := by
  by_cases h8 : f = 8
  · subst h8
    go_enter Tryd.func100, Tryd.ntmps100
    go_wp2
    go_ret
    exact ⟨rfl, rfl⟩
  · have e8 : (f == 8) = false := beq_eq_false_iff_ne.2 h8
    by_cases h9 : f = 9
    · subst h9
      go_enter Tryd.func100, Tryd.ntmps100
      go_wp2
      go_ret
      exact ⟨rfl, rfl⟩
    · have e9 : (f == 9) = false := beq_eq_false_iff_ne.2 h9
      have hc := Lib.hid (show M.cmp f = false by unfold M.cmp; rw [e8, e9]; rfl)
      replace h8 := Lib.hid h8
      replace h9 := Lib.hid h9
      go_enter Tryd.func100, Tryd.ntmps100
      go_wp2
      go_ret
      exact ⟨by rw [hc.out]; rfl, rfl⟩

/-- The result of a call of the document's that tells an int and an error's number, 0 beside an error. -/
theorem twoCells_any (f : Int) (c1 c2 : Bool) (a b : Int) (w : World) (ha : I64 a) (hb : I64 b) :
    Calls Tryd.prog 101 #[.int .i64 f, .bool c1, .int .i64 a, .bool c2, .int .i64 b] w fun e w' => e = .returned (refI (M.tw f c1 c2 a b)) ∧ w = w' := by
  by_cases hc : c1 = c2
  · subst hc
    have ht := Lib.hid (show M.tw f c1 c1 a b = M.two f a b from if_pos rfl)
    have t1 : (c1 == c1) = true := beq_self_eq_true c1
    have h2 := refTwo_any f a b w ha hb
    cases hr : M.two f a b with
    | ok v =>
      rw [hr] at h2 ht
      replace h2 := Lib.hid h2
      replace hr := Lib.hid hr
      go_enter Tryd.func101, Tryd.ntmps101
      go_wp2_with fail
      refine h2.out.mono ?_
      rintro e w' ⟨rfl, rfl⟩
      dsimp only [refI]
      go_wp2
      go_ret2
      exact ⟨by rw [ht.out]; rfl, rfl⟩
    | error v =>
      rw [hr] at h2 ht
      replace h2 := Lib.hid h2
      replace hr := Lib.hid hr
      go_enter Tryd.func101, Tryd.ntmps101
      go_wp2_with fail
      refine h2.out.mono ?_
      rintro e w' ⟨rfl, rfl⟩
      dsimp only [refI]
      go_wp2
      go_ret2
      exact ⟨by rw [ht.out]; rfl, rfl⟩
  · have t1 : (c1 == c2) = false := beq_eq_false_iff_ne.2 hc
    have ht := Lib.hid (show M.tw f c1 c2 a b = .ok (if f = 9 then 1 else 0) from if_neg hc)
    have htr := Lib.hid (truth_any (f == 9))
    replace hc := Lib.hid hc
    go_enter Tryd.func101, Tryd.ntmps101
    go_wp2_with fail
    refine (htr.out _).mono ?_
    rintro e w' ⟨rfl, rfl⟩
    go_wp2
    go_ret2
    refine ⟨?_, rfl⟩
    rw [ht.out]
    by_cases h9 : f = 9
    · subst h9; rfl
    · rw [if_neg h9, beq_eq_false_iff_ne.2 h9]; rfl

theorem cyc_pick {x y : Arr} {s : List Int} {N : Nat} {k1 k2 : Bool} (h : M.fitE x y = .ok (s, N, k1, k2)) (hx : M.flaw x.ch x.s x.d = 0) (hy : M.flaw y.ch y.s y.d = 0) (z1 z2 : Int) {i : Nat} (hi : i < N) :
    (M.cycle x.d N z1).getD i 0 = M.pickC k1 x.d i ∧ (M.cycle y.d N z2).getD i 0 = M.pickC k2 y.d i := by
  have hp := fitE_parts h hx hy
  have g : ∀ (d : List Int) (z : Int), d.length ≠ 0 → (M.cycle d N z).getD i 0 = d.getD (i % d.length) 0 := fun d z hd => by
    rw [List.getD_eq_getElem?_getD]
    simp only [M.cycle, List.getElem?_map, List.getElem?_range hi, Option.map_some, Option.getD_some]
    rw [if_neg hd]
  obtain ⟨p1, p2, p3, p4, p5, p6⟩ := hp
  constructor
  · cases k1 with
    | true =>
      have hs : x.s = [] := by
        unfold M.fitE at h
        split at h
        · assumption
        · split at h
          · cases h
          · split at h
            · cases h
            · split at h
              · cases h
              · cases h
      have := one_cell hx hs
      rw [g _ _ (by omega), this, Nat.mod_one]; rfl
    | false =>
      have := p3 rfl
      rw [g _ _ (by omega), Nat.mod_eq_of_lt (by omega)]; rfl
  · cases k2 with
    | true =>
      have hs : y.s = [] := by
        unfold M.fitE at h
        split at h
        · cases h
        · split at h
          · assumption
          · split at h
            · cases h
            · split at h
              · cases h
              · cases h
      have := one_cell hy hs
      rw [g _ _ (by omega), this, Nat.mod_one]; rfl
    | false =>
      have := p4 rfl
      rw [g _ _ (by omega), Nat.mod_eq_of_lt (by omega)]; rfl

theorem own_eq2 {w w' : World} {B l c : Nat} {b : Option Addr} {ys : List Int} (h : Own w B (.slice b l c) ys) (E : ∀ q, b = some q → w'.heap[q.block]? = w.heap[q.block]?) : Own w' B (.slice b l c) ys := by
  refine ⟨h.1, ?_⟩
  rcases h.2 with h2 | ⟨g, cap, cur, hv, hg, hh, r⟩
  · exact .inl h2
  · have hb : b = some ⟨g, 0, none⟩ := by simp at hv; exact hv.1
    exact .inr ⟨g, cap, cur, hv, hg, by rw [E _ hb]; exact hh, r⟩
theorem own_other2 {w : World} {B l c : Nat} {b : Option Addr} {ys : List Int} (h : Own w B (.slice b l c) ys) (p : Addr) (v : Value) (hp : ∀ q, b = some q → q.block ≠ p.block) : Own (w.setCell p v) B (.slice b l c) ys :=
  own_eq2 h fun q e => Below.heap_setCell w p v _ (hp q e)
theorem BoxF.same2 {w v : World} {N : Nat} {ch : Bool} {a : Option Addr} {m c : Nat} {b : Option Addr} {n z : Nat} (h : BoxF w N ch a m c b n z) (e : v.heap[N]? = w.heap[N]?) : BoxF v N ch a m c b n z := by
  obtain ⟨⟨x0, x1, x2⟩, y0, y1, y2⟩ := h
  exact ⟨⟨(cell_of_eq e 0).trans x0, (cell_of_eq e 1).trans x1, (cell_of_eq e 2).trans x2⟩, (frozen_of_eq e 0).trans y0, (frozen_of_eq e 1).trans y1, (frozen_of_eq e 2).trans y2⟩
theorem Row.same3 {w0 w v : World} {a : Option Addr} {xs : List Int} (h : Row w a xs) (h0 : Row w0 a xs) (e : ∀ p, a = some p → p.block < w0.heap.size → v.heap[p.block]? = w.heap[p.block]?) : Row v a xs := by
  intro i hi
  obtain ⟨b, o, rfl, hc⟩ := h i hi
  obtain ⟨b', o', e', hc'⟩ := h0 i hi
  cases e'
  have hlt : b < w0.heap.size := World.block_lt_of_cell? _ _ hc'
  exact ⟨b, o, rfl, (cell_of_eq (e _ rfl hlt) (o + i)).trans hc⟩

set_option maxRecDepth 20000 in
set_option maxHeartbeats 16000000 in
theorem refEach2_any (f : Int) (ch ch' : Bool) (a b a' b' : Option Addr) (s d s' d' : List Int) (m c n z m' c' n' z' : Nat) (w : World) (hs : Row w a s) (hd : Row w b d) (ls : s.length ≤ maxLen) (ld : d.length ≤ maxLen) (hd64 : All64 d) (em : m = s.length) (en : n = d.length)
    (hs' : Row w a' s') (hd' : Row w b' d') (ls' : s'.length ≤ maxLen) (ld' : d'.length ≤ maxLen) (hd64' : All64 d') (em' : m' = s'.length) (en' : n' = d'.length) :
    Calls Tryd.prog 58 #[.int .i64 f, arrV ch a m c b n z, arrV ch' a' m' c' b' n' z'] w fun e w' => DocPost (M.each2 f ⟨ch, s, d⟩ ⟨ch', s', d'⟩) w e w' := by
  subst em
  subst en
  subst em'
  subst en'
  have E := ((((((Env.start w).addRow hd').addRow hs').addRow hd).addRow hs).box ch a s.length c b d.length z).box ch' a' s'.length c' b' d'.length z' |>.box false none 0 0 none 0 0
  simp only [World.size_alloc] at E
  have kf := fun w h1 h2 h3 h4 => refFlaws_any ch ch' a b a' b' s d s' d' _ c _ z _ c' _ z' w h1 h2 ls ld rfl rfl h3 h4 ls' ld' rfl rfl
  replace kf := Lib.hid kf
  by_cases hfn : M.fn2 f = true
  case neg =>
    have hr := Lib.hid (show M.each2 f ⟨ch, s, d⟩ ⟨ch', s', d'⟩ = .error 1 by unfold M.each2; rw [if_pos (by simpa using hfn)])
    have hn : ¬ (1 ≤ f ∧ f ≤ 16) := by intro h; exact hfn (by unfold M.fn2; exact decide_eq_true h)
    have hbel := E.bel
    obtain ⟨⟨z0, z1, z2⟩, y0, y1, y2⟩ := E.getBox 0 rfl
    clear E
    by_cases h1 : f < 1
    · have t1 : decide (f < 1) = true := decide_eq_true h1
      replace hn := Lib.hid hn
      replace hfn := Lib.hid hfn
      go_enter Tryd.func58, Tryd.ntmps58
      go_wp2
      refine bodyPost_ret (v := .tuple #[arrV false none 0 0 none 0 0, .int .i64 1]) (by simp [results, Tryd.results58, go_sem, cell?_set_same, z0, z1, z2]) rfl ?_
      exact .error hr.out rfl hbel
    · have t1 : decide (f < 1) = false := decide_eq_false h1
      have t2 : decide (16 < f) = true := decide_eq_true (by omega)
      replace hn := Lib.hid hn
      replace hfn := Lib.hid hfn
      go_enter Tryd.func58, Tryd.ntmps58
      go_wp2
      refine bodyPost_ret (v := .tuple #[arrV false none 0 0 none 0 0, .int .i64 1]) (by simp [results, Tryd.results58, go_sem, cell?_set_same, z0, z1, z2]) rfl ?_
      exact .error hr.out rfl hbel
  have hr0 : M.each2 f ⟨ch, s, d⟩ ⟨ch', s', d'⟩ = if M.flaws ⟨ch, s, d⟩ ⟨ch', s', d'⟩ ≠ 0 then .error (M.flaws ⟨ch, s, d⟩ ⟨ch', s', d'⟩)
      else match M.fitE ⟨ch, s, d⟩ ⟨ch', s', d'⟩ with
      | .error e => .error e
      | .ok (s0, N, k1, k2) => if ((!M.cmp f) && (ch || ch')) = true then .error 6
        else M.fillE s0 N fun i => M.tw f ch ch' (M.pickC k1 d i) (M.pickC k2 d' i) := by
    unfold M.each2; rw [if_neg (by rw [hfn]; simp)]; rfl
  have hn : 1 ≤ f ∧ f ≤ 16 := by unfold M.fn2 at hfn; exact of_decide_eq_true hfn
  have t1 : decide (f < 1) = false := decide_eq_false (by omega)
  have t2 : decide (16 < f) = false := decide_eq_false (by omega)
  replace hn := Lib.hid hn
  replace hfn := Lib.hid hfn
  replace hr0 := Lib.hid hr0
  obtain ⟨⟨u0, u1, u2⟩, -, -, -⟩ := E.getBox 2 rfl
  obtain ⟨⟨v0, v1, v2⟩, -, -, -⟩ := E.getBox 1 rfl
  go_enter Tryd.func58, Tryd.ntmps58
  go_wp2_with fail
  refine (kf.out _ (E.getRow 3 rfl) (E.getRow 4 rfl) (E.getRow 5 rfl) (E.getRow 6 rfl)).mono ?_
  rintro e w2 ⟨rfl, hb⟩
  replace E := E.step hb
  have lR : w.heap.size + 1 + 1 < w2.heap.size := (E.getBox 0 rfl).lt
  clear hb u0 u1 u2 v0 v1 v2 kf
  by_cases hfl : M.flaws ⟨ch, s, d⟩ ⟨ch', s', d'⟩ = 0
  case neg =>
    have hr := Lib.hid (hr0.out.trans (if_pos hfl))
    have hxz : (M.flaws ⟨ch, s, d⟩ ⟨ch', s', d'⟩ != 0) = true := by rw [bne_iff_ne]; exact hfl
    generalize M.flaws ⟨ch, s, d⟩ ⟨ch', s', d'⟩ = nn at *
    replace hfl := Lib.hid hfl
    obtain ⟨⟨z0, z1, z2⟩, y0, y1, y2⟩ := E.getBox 0 rfl
    have hbel := E.bel
    clear E
    go_wp2
    refine bodyPost_ret (v := .tuple #[arrV false none 0 0 none 0 0, .int .i64 nn]) (by simp [results, Tryd.results58, go_sem, cell?_set_same, z0, z1, z2]) rfl ?_
    exact .error hr.out rfl (set3 hbel (by omega) _ _ _)
  obtain ⟨f1, f2⟩ := flaws_ne hfl
  dsimp only at f1 f2
  have hr1 := hr0.out.trans (if_neg (fun h => h hfl))
  rw [hfl]
  have l6 := (flaw_len f1).2
  have l6' := (flaw_len f2).2
  have l4 := (flaw_len f1).1
  have l4' := (flaw_len f2).1
  replace hfl := Lib.hid hfl
  replace f1 := Lib.hid f1
  replace f2 := Lib.hid f2
  replace hr1 := Lib.hid hr1
  clear hr0 t1 t2
  have hfe : M.fitE ⟨ch, s, d⟩ ⟨ch', s', d'⟩ = if s = [] then .ok (s', d'.length, true, false) else if s' = [] then .ok (s, d.length, false, true) else if s.length ≠ s'.length then .error 3 else if s ≠ s' then .error 4 else .ok (s, d.length, false, false) := rfl
  replace hfe := Lib.hid hfe
  obtain ⟨⟨u0, u1, u2⟩, -, -, -⟩ := E.getBox 2 rfl
  go_upto_if 35 with fail
  clear u0 u1 u2
  go_cut [9, 10] from 32 to 68 (fun s9 s10 wx => ∃ (s0 : List Int) (N : Nat) (k1 k2 : Bool) (aS : Option Addr) (cS nd : Nat), M.fitE ⟨ch, s, d⟩ ⟨ch', s', d'⟩ = .ok (s0, N, k1, k2) ∧ s9 = .slice aS s0.length cS ∧ wx = w2.drewN nd ∧ Row w2 aS s0)
  case first =>
    obtain ⟨⟨u0, u1, u2⟩, -, -, -⟩ := E.getBox 2 rfl
    obtain ⟨⟨v0, v1, v2⟩, -, -, -⟩ := E.getBox 1 rfl
    by_cases h1 : s = []
    · have e1 : (((s.length : Nat) : Int) == 0) = true := by rw [h1]; rfl
      have hq := Lib.hid (hfe.out.trans (if_pos h1))
      replace h1 := Lib.hid h1
      have rr := E.getRow 5 rfl
      clear E
      go_wp2
      go_meet
      case rel => exact ⟨_, _, _, _, _, _, 0, hq.out, rfl, rfl, rr⟩
    have e1 : (((s.length : Nat) : Int) == 0) = false := by rw [beq_eq_false_iff_ne]; have := List.length_pos_iff.2 h1; omega
    by_cases h2 : s' = []
    · have e2 : decide (0 < ((s'.length : Nat) : Int)) = false := by rw [h2]; rfl
      have e2' : decide (0 < s'.length) = false := by rw [h2]; rfl
      have hq := Lib.hid (hfe.out.trans ((if_neg h1).trans (if_pos h2)))
      replace h1 := Lib.hid h1
      replace h2 := Lib.hid h2
      have rr := E.getRow 3 rfl
      clear E
      go_wp2
      go_meet
      case rel => exact ⟨_, _, _, _, _, _, 0, hq.out, rfl, rfl, rr⟩
    have e2 : decide (0 < ((s'.length : Nat) : Int)) = true := decide_eq_true (by have := List.length_pos_iff.2 h2; omega)
    have e2' : decide (0 < s'.length) = true := decide_eq_true (List.length_pos_iff.2 h2)
    by_cases h3 : s.length = s'.length
    case neg =>
      have e3 : (((s.length : Nat) : Int) != ((s'.length : Nat) : Int)) = true := by rw [bne_iff_ne]; omega
      have hq := hfe.out.trans ((if_neg h1).trans ((if_neg h2).trans (if_pos h3)))
      have hrx := hr1.out
      rw [hq] at hrx
      replace hrx := Lib.hid hrx
      clear hq
      replace h1 := Lib.hid h1
      replace h2 := Lib.hid h2
      replace h3 := Lib.hid h3
      obtain ⟨⟨z0, z1, z2⟩, y0, y1, y2⟩ := E.getBox 0 rfl
      have hbel := E.bel
      clear E
      go_wp2
      refine bodyPost_ret (v := .tuple #[arrV false none 0 0 none 0 0, .int .i64 3]) (by simp [results, Tryd.results58, go_sem, cell?_set_same, z0, z1, z2]) rfl ?_
      exact .error hrx.out rfl (set3 hbel (by omega) _ _ _)
    have e3 : (((s.length : Nat) : Int) != ((s'.length : Nat) : Int)) = false := by rw [bne_eq_false_iff_eq]; omega
    replace h1 := Lib.hid h1
    replace h2 := Lib.hid h2
    have h3' := Lib.hid h3
    have l33 : s.length ≤ s'.length := by omega
    clear h3
    have rS := E.getRow 3 rfl
    have rS' := E.getRow 5 rfl
    have bR := E.getBox 0 rfl
    have hbel := E.bel
    clear E
    go_wp2
    go_loopw [10] (fun v wr => ∃ (k nd : Nat), k ≤ s.length ∧ v = .int .i64 k ∧ (∀ j, j < k → s.getD j 0 = s'.getD j 0) ∧ wr = w2.drewN nd) (fun v _ => s.length - (intOf v).toNat)
    case atStart => exact ⟨0, 0, Nat.zero_le _, rfl, fun j hj => absurd hj (Nat.not_lt_zero _), rfl⟩
    case round =>
      clear e1 e2 e2' e3
      obtain ⟨k, nd, hk, rfl, heq, rfl⟩ := hrel
      by_cases hlt : k < s.length
      · obtain ⟨bb, oo, rfl, hc1⟩ := rS k hlt
        obtain ⟨bb', oo', rfl, hc2⟩ := rS' k (by omega)
        have hlt' : k < s'.length := by omega
        by_cases hxy : s.getD k 0 = s'.getD k 0
        · have hnx := Lib.hid (show ∀ j, j < k + 1 → s.getD j 0 = s'.getD j 0 from fun j hj => by
            by_cases e : j = k
            · subst e; exact hxy
            · exact heq j (by omega))
          rw [← hxy] at hc2
          generalize s.getD k 0 = x at *
          have tx : (x != x) = false := by simp
          replace hxy := Lib.hid hxy
          replace heq := Lib.hid heq
          go_wp2
          go_quiet (fail)
          go_wp2
          go_roundw
          case rel => exact ⟨k + 1, _, by omega, by go_num, hnx.out, by first | rfl | exact World.drewN_drewN _ _ _⟩
          case measure => simp [intOf]; omega
        · have hne : s ≠ s' := fun e => hxy (by rw [e])
          have hq := hfe.out.trans ((if_neg h1.out).trans ((if_neg h2.out).trans ((if_neg (fun h => h h3'.out)).trans (if_pos hne))))
          have hrx := hr1.out
          rw [hq] at hrx
          replace hrx := Lib.hid hrx
          have tx : (s.getD k 0 != s'.getD k 0) = true := by rw [bne_iff_ne]; exact hxy
          generalize s.getD k 0 = x at *
          generalize s'.getD k 0 = y at *
          clear hq
          replace hxy := Lib.hid hxy
          replace hne := Lib.hid hne
          replace heq := Lib.hid heq
          go_wp2
          go_quiet (fail)
          obtain ⟨⟨z0, z1, z2⟩, y0, y1, y2⟩ : BoxF ((w2.drewN nd).drewN nq) (w.heap.size + 1 + 1) false none 0 0 none 0 0 := bR
          have hbx : Below w.heap.size w ((w2.drewN nd).drewN nq) := below_drewN (below_drewN hbel _) _
          clear u0 u1 u2 v0 v1 v2 hc1 hc2
          generalize World.drewN _ nq = wq at *
          go_wp2
          refine bodyPost_ret (v := .tuple #[arrV false none 0 0 none 0 0, .int .i64 4]) (by simp [results, Tryd.results58, go_sem, cell?_set_same, z0, z1, z2]) rfl ?_
          exact .error hrx.out rfl (set3 hbx (by omega) _ _ _)
      · obtain rfl : k = s.length := by omega
        have hss : s = s' := by
          apply List.ext_getElem h3'.out
          intro j h1 h2
          have := heq j h1
          rw [List.getD_eq_getElem?_getD, List.getD_eq_getElem?_getD, List.getElem?_eq_getElem h1, List.getElem?_eq_getElem h2] at this
          exact this
        have hq := Lib.hid (hfe.out.trans ((if_neg h1.out).trans ((if_neg h2.out).trans ((if_neg (fun h => h h3'.out)).trans (if_neg (fun h => h hss))))))
        replace hss := Lib.hid hss
        replace heq := Lib.hid heq
        go_wp2
        go_meet
        case rel => exact ⟨_, _, _, _, _, _, _, hq.out, rfl, rfl, rS⟩
  case rest =>
    obtain ⟨s0, N, k1, k2, aS, cS, nd, hfit, rfl, rfl, rS⟩ := hcut
    have hr2 := hr1.out
    rw [hfit] at hr2
    dsimp only at hr2
    have hcount := fitE_count (x := ⟨ch, s, d⟩) (y := ⟨ch', s', d'⟩) f1.out f2.out hfit
    have hpt := fitE_parts (x := ⟨ch, s, d⟩) (y := ⟨ch', s', d'⟩) hfit f1.out f2.out
    dsimp only at hpt
    obtain ⟨p1, p2, p3, p4, p5, p6⟩ := hpt
    have hcyc := fun i (hi : i < N) => cyc_pick (x := ⟨ch, s, d⟩) (y := ⟨ch', s', d'⟩) hfit f1.out f2.out (M.fill ch) (M.fill ch') hi
    dsimp only at hcyc
    replace E := E.drew nd
    replace rS := rS.drewN nd
    have lR3 : w.heap.size + 1 + 1 < (w2.drewN nd).heap.size := lR
    generalize World.drewN _ nd = w3 at *
    have i64 : ∀ {l : List Int}, All64 l → ∀ (k : Bool) j, I64 (M.pickC k l j) := fun h k j => by unfold M.pickC; split <;> exact i64_of_all h _
    have hI1 := fun j => i64 hd64 k1 j
    have hI2 := fun j => i64 hd64' k2 j
    have hT : ∀ i, i < N → ∀ W, Calls Tryd.prog 101 #[.int .i64 f, .bool ch, .int .i64 (M.pickC k1 d i), .bool ch', .int .i64 (M.pickC k2 d' i)] W fun e w' => e = .returned (refI (M.tw f ch ch' (M.pickC k1 d i) (M.pickC k2 d' i))) ∧ W = w' := fun i _ W => twoCells_any f ch ch' _ _ W (hI1 i) (hI2 i)
    clear i64 hI1 hI2 hr1 hfe p3 p4 p5 p6 lR
    replace hfit := Lib.hid hfit
    replace hcount := Lib.hid hcount
    replace hcyc := Lib.hid hcyc
    replace hT := Lib.hid hT
    replace hr2 := Lib.hid hr2
    obtain ⟨⟨u0, u1, u2⟩, -, -, -⟩ := E.getBox 2 rfl
    obtain ⟨⟨v0, v1, v2⟩, -, -, -⟩ := E.getBox 1 rfl
    go_upto_region 17 with fail
    go_cut [79] from 69 to 78 (fun s79 wx => wx = w3 ∧ s79 = .bool ((!M.cmp f) && (ch || ch')))
    case first =>
      have hcm := Lib.hid (refCompares_any f w3)
      clear hr2 hfit hT hcyc hcount
      cases ch
      · cases ch'
        · go_wp2
          go_meet
          case rel => exact ⟨rfl, by simp⟩
        · go_wp2_with fail
          refine hcm.out.mono ?_
          rintro e w' ⟨rfl, rfl⟩
          go_wp2
          go_meet
          case rel => exact ⟨rfl, by simp⟩
      · go_wp2_with fail
        refine hcm.out.mono ?_
        rintro e w' ⟨rfl, rfl⟩
        go_wp2
        go_meet
        case rel => exact ⟨rfl, by simp⟩
    case rest =>
      obtain ⟨rfl, rfl⟩ := hcut
      cases hcc : ((!M.cmp f) && (ch || ch')) with
      | true =>
        have hr := Lib.hid (hr2.out.trans (if_pos hcc))
        replace hcc := Lib.hid hcc
        obtain ⟨⟨z0, z1, z2⟩, y0, y1, y2⟩ := E.getBox 0 rfl
        have hbel := E.bel
        clear E u0 u1 u2 v0 v1 v2
        go_wp2
        refine bodyPost_ret (v := .tuple #[arrV false none 0 0 none 0 0, .int .i64 6]) (by simp [results, Tryd.results58, go_sem, cell?_set_same, z0, z1, z2]) rfl ?_
        exact .error hr.out rfl (set3 hbel (by omega) _ _ _)
      | false =>
        have hr := Lib.hid (hr2.out.trans (if_neg (by rw [hcc]; simp)))
        replace hcc := Lib.hid hcc
        clear hr2
        go_wp2_with fail
        refine (shaped_any aS s0 _ cS ch a b s d _ c _ z N _ rS hcount.out rfl (E.getRow 4 rfl) ld rfl rfl).mono ?_
        rintro e w4 ⟨ax, cx, vx, rfl, rX, fX, oX, nX, hb⟩
        dsimp only at rX oX nX ⊢
        have lX := cycle_length d N (M.fill ch)
        obtain ⟨bx, kx, rfl, -, -, -⟩ := oX.view
        have nX' : ∀ p q, ax = some p → bx = some q → p.block ≠ q.block := fun p q e1 e2 => nX p q _ _ e1 (by rw [e2])
        have rX4 := rX
        clear nX
        rw [lX] at oX ⊢
        replace lX := Lib.hid lX
        replace E := E.step hb
        have s34 := hb.size
        have rS4 := rS.below hb
        clear hb u0 u1 u2 v0 v1 v2 rS
        have E4 := (E.addRow rX).box ch ax s0.length cx bx N kx
        have oX4 := oX.below (push (start w4) (.cells #[.bool ch, .slice ax s0.length cx, .slice bx N kx] 24))
        have rS5 := rS4.alloc (.cells #[.bool ch, .slice ax s0.length cx, .slice bx N kx] 24)
        have gX : ∀ p, bx = some p → wc.heap.size ≤ p.block ∧ p.block < w4.heap.size := fun p e => by
          subst e
          exact ⟨own_fresh oX _ rfl, by
            rcases oX.2 with ⟨e, _⟩ | ⟨g, cap, cur, e, _, hh, _⟩
            · simp at e
            · simp at e
              obtain ⟨rfl, -⟩ := e
              exact (Array.getElem?_eq_some_iff.1 hh).1⟩
        -- [X 0, rX 1, R 2, B 3, A 4, s 5, d 6, s' 7, d' 8]
        obtain ⟨⟨v0, v1, v2⟩, -, -, -⟩ := E4.getBox 3 rfl
        go_wp2_with fail
        refine (shaped_any aS s0 _ cS ch' a' b' s' d' _ c' _ z' N _ rS5 hcount.out rfl (E4.getRow 8 rfl) ld' rfl rfl).mono ?_
        rintro e w5 ⟨ay, cy, vy, rfl, rY, fY, oY, nY, hb⟩
        dsimp only at rY oY nY ⊢
        obtain ⟨by_, ky, rfl, -, -, rYd⟩ := oY.view
        have lY := cycle_length d' N (M.fill ch')
        rw [lY] at oY ⊢
        replace lY := Lib.hid lY
        have gY := own_fresh oY
        clear nY
        have s45 := hb.size
        rw [World.size_alloc] at s45 gY
        have oX5 := oX4.below hb
        replace E4 := E4.step hb
        have rYd' := rYd
        replace E4 := (E4.addRow rYd).box ch' ay s0.length cy by_ N ky
        have oX6 := oX5.below (push (start w5) (.cells #[.bool ch', .slice ay s0.length cy, .slice by_ N ky] 24))
        clear hb v0 v1 v2 oX oX4 oX5 rYd rYd' oY rS4 rS5
        -- [Y 0, rYd 1, X 2, rX 3, R 4, B 5, A 6, ..]
        obtain ⟨⟨x0, x1, x2⟩, g0, g1, g2⟩ := E4.getBox 2 rfl
        have bY := E4.getBox 0 rfl
        have rYd := E4.getRow 1 rfl
        have rX := E4.getRow 3 rfl
        have bR := E4.getBox 4 rfl
        have bB := E4.getBox 5 rfl
        have bA := E4.getBox 6 rfl
        have hbel := E4.bel
        clear E4 E
        have e5 : (w5.alloc (.cells #[.bool ch', .slice ay s0.length cy, .slice by_ N ky] 24)).heap.size = w5.heap.size + 1 := by simp
        go_wp2
        generalize hWY : w5.alloc (.cells #[.bool ch', .slice ay s0.length cy, .slice by_ N ky] 24) = WY at *
        have hkz : ∀ bq, bq ≠ w4.heap.size → (WY.setCell ⟨w4.heap.size, 0, none⟩ (.bool false)).heap[bq]? = WY.heap[bq]? := fun bq h => Below.heap_setCell WY _ _ bq h
        have sz : (WY.setCell ⟨w4.heap.size, 0, none⟩ (.bool false)).heap.size = w5.heap.size + 1 := by rw [World.size_setCell]; exact e5
        have x0z : (WY.setCell ⟨w4.heap.size, 0, none⟩ (.bool false)).cell? ⟨w4.heap.size, 0, none⟩ = some (.bool false) := cell?_set_same _ _ _ (by rw [x0]; rfl)
        have x1z : (WY.setCell ⟨w4.heap.size, 0, none⟩ (.bool false)).cell? ⟨w4.heap.size, 1, none⟩ = some (.slice ax s0.length cx) := (World.cell?_setCell_other _ _ _ _ (by simp)).trans x1
        have x2z : (WY.setCell ⟨w4.heap.size, 0, none⟩ (.bool false)).cell? ⟨w4.heap.size, 2, none⟩ = some (.slice bx N kx) := (World.cell?_setCell_other _ _ _ _ (by simp)).trans x2
        have oXz := own_other2 oX6 ⟨w4.heap.size, 0, none⟩ (.bool false) (fun q e => Nat.ne_of_lt (gX q e).2)
        have hbz : Below w.heap.size w (WY.setCell ⟨w4.heap.size, 0, none⟩ (.bool false)) := hbel.setCell (p := ⟨w4.heap.size, 0, none⟩) (by show w.heap.size ≤ w4.heap.size; omega) _
        generalize WY.setCell ⟨w4.heap.size, 0, none⟩ (.bool false) = wz at *
        have bAz := bA.same2 (hkz w.heap.size (by omega))
        have bBz := bB.same2 (hkz (w.heap.size + 1) (by omega))
        have bRz := bR.same2 (hkz (w.heap.size + 1 + 1) (by omega))
        have bYz := bY.same2 (hkz w5.heap.size (by omega))
        have rXz : Row wz ax s0 := rX.same3 rX4 fun p e hlt => hkz _ (by omega)
        have rYz : Row wz by_ (M.cycle d' N (M.fill ch')) := rYd.same3 rYd fun p e _ => hkz _ (by have := gY p e; omega)
        clear x0 x1 x2 g0 g1 g2 oX6 bA bB bR bY rX rYd hbel hkz
        clear rX4 fY rY
        generalize hcx : M.cycle d N (M.fill ch) = cx0 at *
        generalize hcy : M.cycle d' N (M.fill ch') = cy0 at *
        replace hcx := Lib.hid hcx
        replace hcy := Lib.hid hcy
        go_loopw [13] (fun v wr => ∃ (i : Nat) (l : List Int), i ≤ N ∧ v = .int .i64 i ∧ M.seqE i (fun i => M.tw f ch ch' (M.pickC k1 d i) (M.pickC k2 d' i)) = .ok l ∧ Own wr wc.heap.size (.slice bx N kx) (l ++ cx0.drop i) ∧ (∀ bq, bq < wz.heap.size → (∀ p, bx = some p → bq ≠ p.block) → wr.heap[bq]? = wz.heap[bq]?) ∧ Below w.heap.size w wr) (fun v _ => N - (intOf v).toNat)
        case atStart => exact ⟨0, [], Nat.zero_le _, rfl, rfl, by rw [List.nil_append, List.drop_zero]; exact oXz, fun _ _ _ => rfl, hbz⟩
        case round =>
          clear oXz hbz
          obtain ⟨i, l, hi, rfl, hseq, hown, hrest, hbel⟩ := hrel
          have hll := seqE_length hseq
          have qX := hrest w4.heap.size (by omega) (fun p e => by have := gX p e; omega)
          have y0 := (cell_of_eq qX 0).trans x0z
          have y1 := (cell_of_eq qX 1).trans x1z
          have y2 := (cell_of_eq qX 2).trans x2z
          have bRr := bRz.same2 (hrest (w.heap.size + 1 + 1) (by omega) (fun p e => by have := gX p e; omega))
          have rXr : Row wr ax s0 := rXz.same3 rXz fun p e hlt => hrest _ hlt (fun q e' => nX' p q e e')
          have rYr : Row wr by_ cy0 := rYz.same3 rYz fun p e hlt => hrest _ hlt (fun q e' => by have h1 := gY p e; have h2 := gX q e'; omega)
          by_cases hlt : i < N
          · obtain ⟨⟨a0, a1, a2⟩, -, -, -⟩ := bAz.same2 (hrest w.heap.size (by omega) (fun p e => by have := gX p e; omega))
            obtain ⟨⟨b0, b1, b2⟩, -, -, -⟩ := bBz.same2 (hrest (w.heap.size + 1) (by omega) (fun p e => by have := gX p e; omega))
            obtain ⟨⟨c0, c1, c2⟩, -, -, -⟩ := bYz.same2 (hrest w5.heap.size (by omega) (fun p e => by have := gX p e; omega))
            have hlen : (l ++ cx0.drop i).length = N := by rw [List.length_append, List.length_drop, lX.out, hll]; omega
            obtain ⟨gd, kq, hv, -, -⟩ := own_slice hown (by omega)
            have hbx : bx = some ⟨gd, 0, none⟩ := by simp at hv; exact hv.1
            subst hbx
            clear hv
            have e1 : (l ++ cx0.drop i).getD i 0 = M.pickC k1 d i := by
              rw [← (hcyc.out i hlt).1, List.getD_eq_getElem?_getD, List.getElem?_append_right (by omega), hll, Nat.sub_self, List.getElem?_drop, Nat.add_zero, ← List.getD_eq_getElem?_getD]
            have e3 : ∀ q, (l ++ cx0.drop i).set i q = (l ++ [q]) ++ cx0.drop (i + 1) := fun q => by
              rw [List.drop_eq_getElem_cons (by rw [lX.out]; exact hlt), List.set_append_right _ _ (by omega), hll, Nat.sub_self, List.set_cons_zero, List.append_assoc]; rfl
            have kfr := own_frozen hown i
            have kc := own_cell hown (i := i) (by omega)
            rw [e1] at kc
            have hstore := fun nq q => own_store (w := wr.drewN nq) hown (i := i) (by omega) q
            simp only [e3] at hstore
            obtain ⟨bb, oo, hyb, cy_⟩ := rYr i (by rw [lY.out]; exact hlt)
            subst hyb
            rw [show cy0.getD i 0 = M.pickC k2 d' i from (hcyc.out i hlt).2] at cy_
            have hcall := fun W => hT.out i hlt W
            have hgd := gX _ rfl
            have hrest' : ∀ (nq : Nat) (q : Int), ∀ bq, bq < wz.heap.size → (∀ p, some (⟨gd, 0, none⟩ : Addr) = some p → bq ≠ p.block) → ((wr.drewN nq).setCell ⟨gd, i, none⟩ (.int .i64 q)).heap[bq]? = wz.heap[bq]? := fun nq q bq h1 h2 => (Below.heap_setCell (wr.drewN nq) ⟨gd, i, none⟩ _ bq (h2 ⟨gd, 0, none⟩ rfl)).trans (hrest bq h1 h2)
            clear e1 e3 hrest qX rXr rYr
            replace hstore := Lib.hid hstore
            replace hrest' := Lib.hid hrest'
            replace hown := Lib.hid hown
            replace hlen := Lib.hid hlen
            replace hll := Lib.hid hll
            cases hTi : M.tw f ch ch' (M.pickC k1 d i) (M.pickC k2 d' i) with
            | error q =>
              have hrr := Lib.hid (hr.out.trans (fill_error (s := s0) hseq hlt hTi))
              have hq0 := tw_err hTi
              have hxz : (q != 0) = true := by rw [bne_iff_ne]; exact hq0
              simp only [hTi] at hcall
              dsimp only [refI] at hcall
              generalize M.pickC k1 d i = X at *
              generalize M.pickC k2 d' i = Y at *
              replace hcall := Lib.hid hcall
              replace hq0 := Lib.hid hq0
              replace hTi := Lib.hid hTi
              replace hseq := Lib.hid hseq
              go_wp2
              go_quiet ((go_at_call 101; exact Calls.quiet_of_same ((hcall.out _).mono fun _ _ h => ⟨h.1, h.2.symm⟩)))
              obtain ⟨⟨z0, z1, z2⟩, g0, g1, g2⟩ : BoxF (wr.drewN nq) (w.heap.size + 1 + 1) false none 0 0 none 0 0 := bRr
              have hbx := below_drewN hbel nq
              clear y0 y1 y2 a0 a1 a2 b0 b1 b2 c0 c1 c2 kc kfr cy_
              generalize World.drewN _ nq = wq at *
              go_wp2
              refine bodyPost_ret (v := .tuple #[arrV false none 0 0 none 0 0, .int .i64 q]) (by simp [results, Tryd.results58, go_sem, cell?_set_same, z0, z1, z2]) rfl ?_
              exact .error hrr.out rfl (set3 hbx (by omega) _ _ _)
            | ok q =>
              have hnx := Lib.hid (seqE_next hseq hTi)
              simp only [hTi] at hcall
              dsimp only [refI] at hcall
              generalize M.pickC k1 d i = X at *
              generalize M.pickC k2 d' i = Y at *
              replace hcall := Lib.hid hcall
              replace hTi := Lib.hid hTi
              replace hseq := Lib.hid hseq
              go_wp2
              go_quiet ((go_at_call 101; exact Calls.quiet_of_same ((hcall.out _).mono fun _ _ h => ⟨h.1, h.2.symm⟩)))
              go_wp2
              go_roundw
              case rel => exact ⟨i + 1, l ++ [q], by omega, by go_num, hnx.out, hstore.out _ _, hrest'.out _ _, (below_drewN hbel _).setCell (p := ⟨gd, i, none⟩) (by show w.heap.size ≤ gd; omega) _⟩
              case measure => simp [intOf]; omega
          · obtain rfl : i = N := by omega
            rw [List.drop_of_length_le (by rw [lX.out]; exact Nat.le_refl _), List.append_nil] at hown
            have hrr := Lib.hid (hr.out.trans (show M.fillE s0 i (fun i => M.tw f ch ch' (M.pickC k1 d i) (M.pickC k2 d' i)) = .ok ⟨false, s0, l⟩ by unfold M.fillE; rw [hseq]))
            obtain ⟨⟨z0, z1, z2⟩, g0, g1, g2⟩ := bRr
            have hll' := Lib.hid hll
            clear hrest qX hll
            replace hseq := Lib.hid hseq
            go_wp2
            refine bodyPost_ret (v := .tuple #[arrV false ax s0.length cx bx i kx, .int .i64 0]) (by simp [results, Tryd.results58, go_sem, cell?_set_same, z0, z1, z2]) rfl ?_
            have hlo : w.heap.size + 1 + 1 < wc.heap.size := by omega
            have hne : ∀ p, ax = some p → p.block ≠ w.heap.size + 1 + 1 := fun p e => by have := fX p e; omega
            refine .ok (x := ⟨false, s0, l⟩) (a := ax) (b := bx) (c := cx) (k := kx) hrr.out (by rw [← hll'.out]) ?_ (((hown.setCell _ _ hlo).setCell _ _ hlo).setCell _ _ hlo).row (set3 hbel (by omega) _ _ _)
            intro j hj
            obtain ⟨bb, oo, rfl, hc⟩ := rXr j hj
            exact ⟨bb, oo, rfl, by
              rw [World.cell?_setCell_far _ _ _ _ (fun e => hne _ rfl e.symm), World.cell?_setCell_far _ _ _ _ (fun e => hne _ rfl e.symm), World.cell?_setCell_far _ _ _ _ (fun e => hne _ rfl e.symm)]; exact hc⟩
end Go.Proofs.YtiebknfmmanbiaaDoor
