/- The document's EachOne: each cell by itself. Condition: rows that lie as lists of ints. -/
import Derived.Test.YtiebknfmmanbiaaDoorDocP
import Derived.Test.YtiebknfmmanbiaaDoorEachPlain2
import Derived.Test.YtiebknfmmanbiaaDoorRefArr
import Derived.Test.YtiebknfmmanbiaaDoorRefOnes
import Derived.Test.YtiebknfmmanbiaaDoorApp2
import Derived.Deep.RegionLaw
namespace Go.Proofs.YtiebknfmmanbiaaDoor
open Go.RowKit

theorem one_zero_err {f x : Int} (h : M.one f 0 = .error x) : x ≠ 0 := one_err h

set_option maxRecDepth 20000 in
set_option maxHeartbeats 8000000 in
theorem refEach1_any (f : Int) (ch : Bool) (a b : Option Addr) (s d : List Int) (m c n z : Nat) (w : World) (hs : Row w a s) (hd : Row w b d) (ls : s.length ≤ maxLen) (ld : d.length ≤ maxLen) (em : m = s.length) (en : n = d.length) :
    Calls Tryd.prog 38 #[.int .i64 f, arrV ch a m c b n z] w fun e w' => DocPost (M.each1 f ⟨ch, s, d⟩) w e w' := by
  subst em
  subst en
  have E := (((Env.start w).addRow hd).addRow hs).box ch a s.length c b d.length z |>.box false none 0 0 none 0 0
  simp only [World.size_alloc] at E
  have k0 := fun W => refOne_any f 0 W
  have kc := fun w h1 h2 => refFlaw_any ch a b s d _ c _ z w h1 h2 ls ld rfl rfl
  replace k0 := Lib.hid k0
  replace kc := Lib.hid kc
  cases hv : M.one f 0 with
  | error x =>
    have hr := Lib.hid (show M.each1 f ⟨ch, s, d⟩ = .error x by unfold M.each1; rw [hv])
    have hx := one_zero_err hv
    have hxz : (x != 0) = true := by rw [bne_iff_ne]; exact hx
    replace hx := Lib.hid hx
    replace hv := Lib.hid hv
    go_enter Tryd.func38, Tryd.ntmps38
    go_wp2_with fail
    refine (k0.out _).mono ?_
    rw [hv.out]
    rintro e w1 ⟨rfl, rfl⟩
    dsimp only [refI]
    obtain ⟨⟨z0, z1, z2⟩, y0, y1, y2⟩ := E.getBox 0 rfl
    have hbel := E.bel
    clear E
    go_wp2
    refine bodyPost_ret (v := .tuple #[arrV false none 0 0 none 0 0, .int .i64 x]) (by simp [results, Tryd.results38, go_sem, cell?_set_same, z0, z1, z2]) rfl ?_
    exact .error hr.out rfl hbel
  | ok v0 =>
  have hr0 : M.each1 f ⟨ch, s, d⟩ = if M.flaw ch s d ≠ 0 then .error (M.flaw ch s d) else if ch = true then .error 6 else M.fillE s d.length fun i => M.one f (d.getD i 0) := by unfold M.each1; rw [hv]
  replace hv := Lib.hid hv
  replace hr0 := Lib.hid hr0
  go_enter Tryd.func38, Tryd.ntmps38
  go_wp2_with fail
  refine (k0.out _).mono ?_
  rw [hv.out]
  rintro e w1 ⟨rfl, rfl⟩
  dsimp only [refI]
  obtain ⟨⟨u0, u1, u2⟩, -, -, -⟩ := E.getBox 1 rfl
  go_wp2_with fail
  refine (kc.out _ (E.getRow 2 rfl) (E.getRow 3 rfl)).mono ?_
  rintro e w2 ⟨rfl, hb⟩
  replace E := E.step hb
  clear hb u0 u1 u2
  by_cases hf : M.flaw ch s d = 0
  case neg =>
    have hr := Lib.hid (hr0.out.trans (if_pos hf))
    have hxz : (M.flaw ch s d != 0) = true := by rw [bne_iff_ne]; exact hf
    generalize M.flaw ch s d = nn at *
    replace hf := Lib.hid hf
    obtain ⟨⟨z0, z1, z2⟩, y0, y1, y2⟩ := E.getBox 0 rfl
    have hbel := E.bel
    clear E
    go_wp2
    refine bodyPost_ret (v := .tuple #[arrV false none 0 0 none 0 0, .int .i64 nn]) (by simp [results, Tryd.results38, go_sem, cell?_set_same, z0, z1, z2]) rfl ?_
    exact .error hr.out rfl (set3 hbel (by omega) _ _ _)
  rw [hf]
  have l6 := (flaw_len hf).2
  have l4 := (flaw_len hf).1
  have hr1 := hr0.out.trans (if_neg (fun h => h hf))
  replace hf := Lib.hid hf
  clear hr0
  cases ch with
  | true =>
    have hr := Lib.hid (hr1.trans (if_pos rfl))
    obtain ⟨⟨z0, z1, z2⟩, y0, y1, y2⟩ := E.getBox 0 rfl
    obtain ⟨⟨u0, u1, u2⟩, -, -, -⟩ := E.getBox 1 rfl
    have hbel := E.bel
    clear E hr1
    go_wp2
    refine bodyPost_ret (v := .tuple #[arrV false none 0 0 none 0 0, .int .i64 6]) (by simp [results, Tryd.results38, go_sem, cell?_set_same, z0, z1, z2]) rfl ?_
    exact .error hr.out rfl (set3 hbel (by omega) _ _ _)
  | false =>
    have hr := Lib.hid (hr1.trans (if_neg (by simp)))
    clear hr1
    obtain ⟨⟨u0, u1, u2⟩, -, -, -⟩ := E.getBox 1 rfl
    have lR : w.heap.size + 1 < w2.heap.size := (E.getBox 0 rfl).lt
    replace E := E.box false none 0 0 none 0 0
    have hst : OutS w (w2.alloc (.cells #[.bool false, .slice none 0 0, .slice none 0 0] 24)) w2.heap.size (w2.heap.size + 1) false (.slice none 0 0) [] (w2.alloc (.cells #[.bool false, .slice none 0 0, .slice none 0 0] 24)) :=
      ⟨⟨(E.getBox 0 rfl).1, (E.getBox 0 rfl).2⟩, Own.nil _ _, E.bel, by rw [World.size_alloc]; exact Nat.le_refl _, fun _ _ _ => rfl⟩
    have bA := E.getBox 2 rfl
    have bR := E.getBox 1 rfl
    have rA := E.getRow 3 rfl
    have rD := E.getRow 4 rfl
    clear E
    unfold maxLen at ld ls
    go_wp2
    generalize hwC : w2.alloc _ = wC at *
    have lC : wC.heap.size = w2.heap.size + 1 := by rw [← hwC]; simp
    replace hwC := Lib.hid hwC
    replace lC := Lib.hid lC
    clear u0 u1 u2
    go_loopw [9] (fun v wr => ∃ (k : Nat) (sv : Value), k ≤ s.length ∧ v = .int .i64 k ∧ OutS w wC w2.heap.size (w2.heap.size + 1) false sv (s.take k) wr) (fun v _ => s.length - (intOf v).toNat)
    case atStart => exact ⟨0, .slice none 0 0, Nat.zero_le _, rfl, by rw [List.take_zero]; exact hst⟩
    case round =>
      clear hst
      obtain ⟨k, sv, hk, rfl, hI⟩ := hrel
      obtain ⟨⟨⟨x0, x1, x2⟩, f0, f1, f2⟩, hown, hbel, hsz, hrest⟩ := id hI
      obtain ⟨⟨u0, u1, u2⟩, -, -, -⟩ := hI.box (R := w.heap.size) (by omega) (by omega) bA
      by_cases hlt : k < s.length
      · obtain ⟨bb, oo, rfl, hcd⟩ := hs.below hbel k hlt
        have hts : s.take (k + 1) = s.take k ++ [s.getD k 0] := by rw [List.take_succ_eq_append_getElem hlt, List.getD_eq_getElem?_getD, List.getElem?_eq_getElem hlt]; rfl
        have hlk : (s.take k).length = k := by rw [List.length_take]; omega
        generalize s.getD k 0 = x at *
        generalize s.take k = ys at *
        have hlen : ys.length < 17592186044416 := by omega
        obtain ⟨av, cv, rfl, _, _, _⟩ := hown.view
        rw [hlk] at x1 hown hI
        obtain ⟨x0', x1', x2'⟩ := alloc3 ⟨x0, x1, x2⟩ (.cells #[.int .i64 x] 3)
        have hownA : Own (wr.alloc (.cells #[.int .i64 x] 3)) (w2.heap.size + 1) (.slice av k cv) ys := hown.below (push (start wr) _)
        have hown' : Own (wr.alloc (.cells #[.int .i64 x] 3)).drew (w2.heap.size + 1) (.slice av k cv) ys := hownA
        have hBr : Below (w2.heap.size + 1) wr (wr.alloc (.cells #[.int .i64 x] 3)).drew := ((Below.refl _ wr).alloc hsz _).drew
        have hlk2 := Lib.hid (show k + 1 = ys.length + 1 by rw [hlk])
        clear hownA hown hrest
        replace hlk := Lib.hid hlk
        replace hts := Lib.hid hts
        go_wp2_with fail
        go_region_law ((refine step_app_int rfl (.tmp 39) (.tmp 45) rfl (w2.heap.size + 1) _ ys x wr.heap.size rfl hown' rfl (by simp [go_sem]) hlen (by simp; omega) (k + 1) hlk2.out ?_; intro a' c' w' ho' hb'; have d2 := (hb'.cell (by show w2.heap.size < _; omega)).trans ((hBr.cell (by show w2.heap.size < _; omega)).trans x1); have g2 := (hb'.frozen (by show w2.heap.size < _; omega)).trans ((hBr.frozen (by show w2.heap.size < _; omega)).trans f1)))
        all_goals go_wp2
        all_goals go_roundw
        all_goals
          first
            | exact ⟨k + 1, _, by omega, by go_num, by rw [hts.out]; exact hI.step (by omega) (Nat.lt_succ_self _) (hBr.trans hb') ho'⟩
            | (simp [intOf]; omega)
      · obtain rfl : k = s.length := by omega
        rw [List.take_length] at hown hI
        obtain ⟨av, cv, rfl, _, _, rS⟩ := hown.view
        have hH := hI.start
        have bA' := hI.box (R := w.heap.size) (by omega) (by omega) bA
        have bR' := hI.box (R := w.heap.size + 1) (by omega) (by omega) bR
        have hfr := own_fresh hown
        clear hrest x0 x1 x2 f0 f1 f2 hI hown
        go_wp2
        clear u0 u1 u2
        generalize hwo : wr = wo at *
        go_loopw [10] (fun v wr => ∃ (i : Nat) (dv : Value) (l : List Int), i ≤ d.length ∧ v = .int .i64 i ∧ M.seqE i (fun j => M.one f (d.getD j 0)) = .ok l ∧ OutAt w wo w2.heap.size wo.heap.size false (.slice av s.length cv) dv l wr) (fun v _ => d.length - (intOf v).toNat)
        case atStart => exact ⟨0, .slice none 0 0, [], Nat.zero_le _, rfl, rfl, hH⟩
        case round =>
          clear hH
          obtain ⟨i, dv, l, hi, rfl, hseq, hI⟩ := hrel
          have hll := seqE_length hseq
          obtain ⟨⟨⟨x0, x1, x2⟩, f2⟩, hown, hbel2, hsz2, hrest⟩ := id hI
          obtain ⟨⟨u0, u1, u2⟩, -, -, -⟩ := hI.box (R := w.heap.size) (by omega) (by omega) bA'
          have hR := hI.box (R := w.heap.size + 1) (by omega) (by omega) bR'
          by_cases hlt : i < d.length
          · obtain ⟨bb, oo, rfl, hcd⟩ := hd.below hbel2 i hlt
            have kx := fun W => refOne_any f (d.getD i 0) W
            cases hx : M.one f (d.getD i 0) with
            | error q =>
              have hrr := Lib.hid (hr.out.trans (fill_error (s := s) hseq hlt hx))
              have hq0 := one_err hx
              have hxz : (q != 0) = true := by rw [bne_iff_ne]; exact hq0
              rw [hx] at kx
              generalize d.getD i 0 = x at *
              replace kx := Lib.hid kx
              replace hx := Lib.hid hx
              replace hq0 := Lib.hid hq0
              replace hseq := Lib.hid hseq
              replace hll := Lib.hid hll
              clear hrest hI
              go_wp2_with fail
              refine (kx.out _).mono ?_
              rintro e w5 ⟨rfl, rfl⟩
              dsimp only [refI]
              obtain ⟨⟨z0, z1, z2⟩, y0, y1, y2⟩ := hR
              go_wp2
              refine bodyPost_ret (v := .tuple #[arrV false none 0 0 none 0 0, .int .i64 q]) (by simp [results, Tryd.results38, go_sem, cell?_set_same, z0, z1, z2]) rfl ?_
              exact .error hrr.out rfl (set3 hbel2 (by omega) _ _ _)
            | ok q =>
              have hnx := Lib.hid (seqE_next hseq hx)
              rw [hx] at kx
              generalize d.getD i 0 = x at *
              obtain ⟨dva, dvc, rfl, _, _, _⟩ := hown.view
              rw [hll] at x2 hown hI
              have hlen : l.length < 17592186044416 := by omega
              have hlk2 := Lib.hid (show i + 1 = l.length + 1 by rw [hll])
              obtain ⟨x0', x1', x2'⟩ := alloc3 ⟨x0, x1, x2⟩ (.cells #[.int .i64 q] 3)
              replace kx := Lib.hid kx
              replace hx := Lib.hid hx
              replace hseq := Lib.hid hseq
              replace hll := Lib.hid hll
              clear hrest
              go_wp2_with fail
              refine (kx.out _).mono ?_
              rintro e w5 ⟨rfl, rfl⟩
              dsimp only [refI]
              go_wp2_with (refine app_int2 rfl (.tmp 70) (.tmp 72) rfl wo.heap.size _ l q rfl hown rfl hlen hsz2 (i + 1) hlk2.out ?_; intro a' c' w' ho' hb' hs'; have d2 := (hb'.cell (p := ⟨w2.heap.size, 2, none⟩) (by show w2.heap.size < _; omega)).trans x2; have g2 := (hb'.frozen (p := ⟨w2.heap.size, 2, none⟩) (by show w2.heap.size < _; omega)).trans f2)
              go_roundw
              case rel => exact ⟨i + 1, _, l ++ [q], by omega, by go_num, hnx.out, hI.step (by omega) (by omega) hb' ho'⟩
              case measure => simp [intOf]; omega
          · obtain rfl : i = d.length := by omega
            obtain ⟨dva, dvc, rfl, _, _, _⟩ := hown.view
            have hrow := hI.keep (Nat.le_refl _) rS (fun p e => by have := hfr p e; omega)
            have hrr := Lib.hid (hr.out.trans (show M.fillE s d.length (fun j => M.one f (d.getD j 0)) = .ok ⟨false, s, l⟩ by unfold M.fillE; rw [hseq]))
            obtain ⟨⟨z0, z1, z2⟩, y0, y1, y2⟩ := hR
            replace hseq := Lib.hid hseq
            replace hll := Lib.hid hll
            clear hrest hI
            go_wp2
            refine bodyPost_ret (v := .tuple #[arrV false av s.length cv dva l.length dvc, .int .i64 0]) (by simp [results, Tryd.results38, go_sem, cell?_set_same, z0, z1, z2]) rfl ?_
            have hne : ∀ p, av = some p → p.block ≠ w.heap.size + 1 := fun p e => by have := hfr p e; omega
            have hlo : w.heap.size + 1 < wo.heap.size := by omega
            refine .ok (x := ⟨false, s, l⟩) hrr.out rfl ?_ (((hown.setCell _ _ hlo).setCell _ _ hlo).setCell _ _ hlo).row (set3 hbel2 (by omega) _ _ _)
            intro j hj
            obtain ⟨bb, oo, rfl, hc⟩ := hrow j hj
            exact ⟨bb, oo, rfl, by
              rw [World.cell?_setCell_far _ _ _ _ (fun e => hne _ rfl e.symm), World.cell?_setCell_far _ _ _ _ (fun e => hne _ rfl e.symm), World.cell?_setCell_far _ _ _ _ (fun e => hne _ rfl e.symm)]; exact hc⟩
end Go.Proofs.YtiebknfmmanbiaaDoor
