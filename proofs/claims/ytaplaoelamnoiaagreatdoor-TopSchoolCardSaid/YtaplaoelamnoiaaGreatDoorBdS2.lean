/- Texts that lie in one file: what is plain, rows, boxes, squares, and what is known of a world. No condition. -/
import Derived.Test.YtaplaoelamnoiaaGreatDoorBd19
import Derived.Test.YtaplaoelamnoiaaGreatDoorWkRadix
/- The calls prim.numbers, prim.number, prim.list and radix calls' frames. Condition: arrays of numbers. -/
namespace Go.Proofs.YtaplaoelamnoiaaGreatDoor
open Go.RowKit

set_option maxRecDepth 20000 in
set_option maxHeartbeats 4000000 in
theorem numbers_any (a : Option Addr) (n c : Nat) (b : Option Addr) (m k : Nat) (w : World) (hn : n ≤ 1) :
    Calls Tryz.prog 146 #[arrV false a n c b m k] w fun en w' => en = .returned (.tuple #[.slice b m k, .nilIface]) ∧ Below w.heap.size w w' := by
  have hb := Lib.hid (push (start w) (.cells #[.bool false, .slice a n c, .slice b m k] 24))
  have e0 : decide (1 < ((n : Nat) : Int)) = false := decide_eq_false (by omega)
  go_enter Tryz.func146, Tryz.ntmps146
  go_wp2
  go_ret2
  exact ⟨rfl, hb.out⟩

set_option maxRecDepth 20000 in
set_option maxHeartbeats 4000000 in
theorem pnumber_any (a : Option Addr) (c : Nat) (b : Option Addr) (k : Nat) (v : Int) (w : World) (hd : Row w b [v]) :
    Calls Tryz.prog 109 #[arrV false a 0 c b 1 k] w fun en w' => en = .returned (.tuple #[.int .i64 v, .nilIface]) ∧ Below w.heap.size w w' := by
  obtain ⟨W, hWe⟩ : ∃ W : World, W = w.alloc (.cells #[.bool false, .slice a 0 c, .slice b 1 k] 24) := ⟨_, rfl⟩
  have hb : Below w.heap.size w W := by rw [hWe]; exact push (start w) _
  have X := boxC_alloc w #[.bool false, .slice a 0 c, .slice b 1 k] 24
  rw [← hWe] at X
  obtain ⟨b1, o1, rfl, c1⟩ := (hd.below hb) 0 (by simp)
  obtain ⟨y0, -⟩ := X 0 _ rfl
  obtain ⟨y1, -⟩ := X 1 _ rfl
  obtain ⟨y2, -⟩ := X 2 _ rfl
  simp only [List.getD_cons_zero, Nat.add_zero] at c1
  have hWe' := Lib.hid hWe.symm
  replace hWe := Lib.hid hWe
  replace hb := Lib.hid hb
  replace hd := Lib.hid hd
  clear X
  go_enter Tryz.func109, Tryz.ntmps109
  go_upto_region 1 with fail
  rw [hWe'.out]
  go_wp2
  go_ret2
  exact ⟨rfl, hb.out⟩

set_option maxRecDepth 20000 in
set_option maxHeartbeats 4000000 in
theorem plist_any (b : Option Addr) (l : List Int) (m k : Nat) (w : World) (hd : Row w b l) (hm : m = l.length) :
    Calls Tryz.prog 154 #[.slice b m k] w fun en w' => ∃ g : Nat, en = .returned (arrV false (some ⟨g, 0, none⟩) 1 1 b m k) ∧ w.heap.size ≤ g ∧ Row w' (some ⟨g, 0, none⟩) [(l.length : Int)] ∧ Row w' b l ∧ Below w.heap.size w w' := by
  subst hm
  replace hd := Lib.hid hd
  go_enter Tryz.func154, Tryz.ntmps154
  go_wp2
  have hb := push (push (start w) (.cells #[.bool false, .slice (some ⟨w.heap.size + 1, 0, none⟩) 1 1, .slice b l.length k] 24)) (.cells #[.int .i64 (l.length : Int)] 3)
  refine bodyPost_ret (v := arrV false (some ⟨w.heap.size + 1, 0, none⟩) 1 1 b l.length k) (by simp [results, Tryz.results154, go_sem, arrV]) rfl ?_
  exact ⟨w.heap.size + 1, rfl, by omega, row_one (by simp [go_sem]), hd.out.below hb, hb⟩
end Go.Proofs.YtaplaoelamnoiaaGreatDoor

/- The call prim.byList where a number is told by its digits. Condition: a list of numbers, and a number. -/
namespace Go.Proofs.YtaplaoelamnoiaaGreatDoor
open Go.RowKit

set_option maxRecDepth 20000 in
set_option maxHeartbeats 8000000 in
theorem byList_enc (n : Nat) (base : List Int) (v : Int) (hn : n ≤ 1) (h64 : All64 base) (hv : I64 v) (h4 : base.length ≤ 4096)
    (w : World) (a : Option Addr) (c : Nat) (b : Option Addr) (k : Nat) (a' : Option Addr) (c' : Nat) (b' : Option Addr) (k' : Nat) (hd : Row w b base) (hd' : Row w b' [v]) :
    Calls Tryz.prog 113 #[.int .i64 31, arrV false a n c b base.length k, arrV false a' 0 c' b' 1 k'] w fun e w' => ArrPostF (.ok ⟨false, [((M.digs base v).1.length : Int)], (M.digs base v).1⟩) w e w' := by
  have kl := fun W => last_any false a' 0 c' b' 1 k' W (by omega)
  have kn := fun W => numbers_any a n c b base.length k W hn
  have kv := fun W h => pnumber_any a' c' b' k' v W h
  have kd : ∀ W (_ : Row W b base), Calls Tryz.prog 153 #[.slice b base.length k, .int .i64 v] W fun e w' => ∃ (g k : Nat), e = .returned (.tuple #[.slice (some ⟨g, 0, none⟩) (M.digs base v).1.length k, .nilIface]) ∧ W.heap.size ≤ g ∧ Row w' (some ⟨g, 0, none⟩) (M.digs base v).1 ∧ Below W.heap.size W w' :=
    fun W h => (digits_any b k base v W h h64 hv h4).mono fun e w' ⟨g, k, h1, h2, h3, h5, h6⟩ => ⟨g, k, by rw [digs_len]; exact h1, h2, h3, h6⟩
  generalize (M.digs base v).1 = L at *
  have kp := fun W b k h => plist_any b L L.length k W h rfl
  have E := (((Env.start w).addRow hd').addRow hd)
  replace E := E.box false a n c b base.length k
  replace E := E.box false a' 0 c' b' 1 k'
  replace E := E.box false none 0 0 none 0 0
  simp only [World.size_alloc] at E
  obtain ⟨W, hWe⟩ : ∃ W : World, W = ((w.alloc (.cells #[.bool false, .slice a n c, .slice b base.length k] 24)).alloc (.cells #[.bool false, .slice a' 0 c', .slice b' 1 k'] 24)).alloc (.cells #[.bool false, .slice none 0 0, .slice none 0 0] 24) := ⟨_, rfl⟩
  rw [← hWe] at E
  have hWe' := Lib.hid hWe.symm
  replace hWe := Lib.hid hWe
  replace kl := Lib.hid kl
  replace kn := Lib.hid kn
  replace kv := Lib.hid kv
  replace kd := Lib.hid kd
  replace kp := Lib.hid kp
  clear h64 hv h4 hd hd' hn
  replace E := Lib.hid E
  go_enter Tryz.func113, Tryz.ntmps113
  go_wp2_with fail
  rw [hWe'.out]
  replace E := E.out
  refine (kl.out _).mono ?_
  rintro en w1 ⟨rfl, hb⟩
  replace E := E.step hb
  clear hb
  obtain ⟨⟨y0, y1, y2⟩, -⟩ := E.getBox 2 rfl
  replace E := Lib.hid E
  go_wp2_with fail
  replace E := E.out
  refine (kn.out _).mono ?_
  rintro en w2 ⟨rfl, hb⟩
  replace E := E.step hb
  clear hb
  clear y0 y1 y2
  obtain ⟨⟨y0, y1, y2⟩, -⟩ := E.getBox 1 rfl
  replace E := Lib.hid E
  go_wp2_with fail
  replace E := E.out
  refine (kv.out _ (E.getRow 4 rfl)).mono ?_
  rintro en w3 ⟨rfl, hb⟩
  replace E := E.step hb
  clear hb
  clear y0 y1 y2
  replace E := Lib.hid E
  go_wp2_with fail
  replace E := E.out
  refine (kd.out w3 (E.getRow 3 rfl)).mono ?_
  rintro en w4 ⟨g, k5, rfl, hg, rg, hb4⟩
  replace E := Lib.hid E
  replace rg := Lib.hid rg
  replace hb4 := Lib.hid hb4
  go_wp2_with fail
  replace E := E.out
  refine (kp.out w4 _ _ rg.out).mono ?_
  rintro en w6 ⟨g2, rfl, hg2, r1, r2, hb5⟩
  have hb6 := hb4.out.trans (hb5.mono hb4.out.size)
  have f1 : Fresh w3 (some ⟨g2, 0, none⟩) := fun p e => by cases e; exact Nat.le_trans hb4.out.size hg2
  have f2 : Fresh w3 (some ⟨g, 0, none⟩) := fun p e => by cases e; exact hg
  have hc : [(L.length : Int)].length ≤ 1 := Nat.le_refl 1
  clear hb5 hb4 rg
  have hlt := (E.getBox 0 rfl).lt
  have hfin := Lib.hid (result_any (x := ⟨false, [(L.length : Int)], L⟩) (k := k5) (n0 := w.heap.size + 1 + 1) (by omega) E.bel hlt r1 r2 f1 f2 hc hb6)
  obtain ⟨⟨t0, t1, t2⟩, u0, u1, u2⟩ := (E.step hb6).getBox 0 rfl
  clear E r1 r2 f1 f2 hc hb6 hlt
  go_wp2
  refine bodyPost_ret (v := .tuple #[arrV false (some ⟨g2, 0, none⟩) 1 1 (some ⟨g, 0, none⟩) L.length k5, .nilIface]) (by simp [results, Tryz.results113, go_sem, cell?_set_same, arrV, t0, t1, t2]) rfl ?_
  exact hfin.out
end Go.Proofs.YtaplaoelamnoiaaGreatDoor

/- The calls prim.valued and prim.byList where digits in one base are told as a number. Condition: a number, and a list of numbers. -/
namespace Go.Proofs.YtaplaoelamnoiaaGreatDoor
open Go.RowKit

theorem rep_fill (i m : Nat) (v : Int) (h : i < m) : (List.replicate i v ++ List.replicate (m - i) 0).set i v = List.replicate (i + 1) v ++ List.replicate (m - (i + 1)) 0 := by
  rw [List.set_append_right _ _ (by simp), List.length_replicate, Nat.sub_self, show m - i = m - (i + 1) + 1 by omega, List.replicate_succ, List.set_cons_zero, List.replicate_succ', List.append_assoc]
  rfl
set_option maxRecDepth 20000 in
set_option maxHeartbeats 8000000 in
theorem valued_any (a : Option Addr) (k0 : Nat) (b0 : Int) (ay : Option Addr) (ny cy : Nat) (b : Option Addr) (ds : List Int) (k : Nat) (w : World) (ha : Row w a [b0]) (hd : Row w b ds) (hn : ny ≤ 1) (h4 : ds.length ≤ 4096) :
    Calls Tryz.prog 152 #[.slice a 1 k0, .bool true, arrV false ay ny cy b ds.length k] w fun e w' => ArrPostF (.ok ⟨false, [], [M.radV (List.replicate ds.length b0) ds ds.length]⟩) w e w' := by
  have kn := fun W => numbers_any ay ny cy b ds.length k W hn
  have kr := fun W a c h1 h2 => radV_any a b c k (List.replicate ds.length b0) ds W h1 h2 (by simp) (by simp; omega)
  rw [List.length_replicate] at kr
  have E := ((Env.start w).addRow hd).addRow ha
  replace E := E.box false ay ny cy b ds.length k
  replace E := E.box false none 0 0 none 0 0
  simp only [World.size_alloc] at E
  obtain ⟨W, hWe⟩ : ∃ W : World, W = (w.alloc (.cells #[.bool false, .slice ay ny cy, .slice b ds.length k] 24)).alloc (.cells #[.bool false, .slice none 0 0, .slice none 0 0] 24) := ⟨_, rfl⟩
  rw [← hWe] at E
  have hWe' := Lib.hid hWe.symm
  replace hWe := Lib.hid hWe
  have hmk := run_make_room ds.length ds.length (Nat.le_refl _) (by omega)
  generalize M.radV (List.replicate ds.length b0) ds ds.length = r at *
  obtain ⟨nl, hnl⟩ : ∃ nl, nl = ds.length := ⟨_, rfl⟩
  rw [← hnl] at hmk E hWe' hWe kn kr h4
  rw [← hnl]
  replace kn := Lib.hid kn
  replace kr := Lib.hid kr
  replace hnl := Lib.hid hnl
  replace E := Lib.hid E
  clear ha hd hn
  go_enter Tryz.func152, Tryz.ntmps152
  go_wp2_with fail
  rw [hWe'.out]
  replace E := E.out
  refine (kn.out _).mono ?_
  rintro en w1 ⟨rfl, hb⟩
  replace E := E.step hb
  clear hb
  obtain ⟨b1, o1, rfl, c1⟩ := E.getRow 2 rfl 0 (by simp)
  simp only [List.getD_cons_zero, Nat.add_zero] at c1
  have hb0 : Below w1.heap.size w1 (w1.alloc (.cells (roomCells nl) 3)) := push (start w1) _
  have bO : BoxC w1.heap.size ((List.replicate 0 b0 ++ List.replicate (nl - 0) (0 : Int)).map (Value.int .i64)) (w1.alloc (.cells (roomCells nl) 3)) := by
    have h := boxC_alloc w1 (roomCells nl) 3
    have e : (roomCells nl).toList = ((List.replicate 0 b0 ++ List.replicate (nl - 0) (0 : Int)).map (Value.int .i64)) := by simp [roomCells]
    rw [e] at h
    exact h
  obtain ⟨W2, hW2⟩ : ∃ W : World, W = w1.alloc (.cells (roomCells nl) 3) := ⟨_, rfl⟩
  have sW : w1.heap.size < W2.heap.size := by rw [hW2]; simp
  rw [← hW2] at hb0 bO
  have hW2' := Lib.hid hW2.symm
  replace hW2 := Lib.hid hW2
  replace E := Lib.hid E
  replace hb0 := Lib.hid hb0
  replace bO := Lib.hid bO
  replace sW := Lib.hid sW
  go_wp2
  rw [hW2'.out]
  go_loopw [31] (fun v wr => ∃ i : Nat, v = .int .i64 (i : Int) ∧ i ≤ nl ∧ BoxC w1.heap.size ((List.replicate i b0 ++ List.replicate (nl - i) (0 : Int)).map (Value.int .i64)) wr ∧ Below w1.heap.size w1 wr ∧ w1.heap.size < wr.heap.size) (fun v _ => nl - (intOf v).toNat)
  case atStart => exact ⟨0, rfl, Nat.zero_le _, bO.out, hb0.out, sW.out⟩
  case round =>
    obtain ⟨i, rfl, hi, hO, hbl, hsz⟩ := hrel
    clear c1
    by_cases hlt : i < nl
    · have hcell : ((List.replicate i b0 ++ List.replicate (nl - i) (0 : Int)).map (Value.int .i64))[i]? = some (.int .i64 0) := by
        rw [List.getElem?_map, List.getElem?_append_right (by simp), List.length_replicate, Nat.sub_self, List.getElem?_replicate, if_pos (by omega)]
        rfl
      obtain ⟨y0, x0⟩ := hO i _ hcell
      have hput := hO.put i (by simp; omega) (.int .i64 b0)
      rw [← List.map_set, rep_fill i nl b0 hlt] at hput
      have z0 : (0 : Int) ≤ ((i : Nat) : Int) := by omega
      have z1 : ((i : Nat) : Int) < ((nl : Nat) : Int) := by omega
      have zz : ((i : Nat) : Int).toNat = i := by simp
      replace hcell := Lib.hid hcell
      replace hO := Lib.hid hO
      replace hbl := Lib.hid hbl
      replace hput := Lib.hid hput
      replace hsz := Lib.hid hsz
      go_wp2
      go_roundw
      case rel => exact ⟨i + 1, by simp, hlt, hput.out, hbl.out.setCell (Nat.le_refl _) _, by rw [World.size_setCell]; exact hsz.out⟩
      case measure => simp [intOf]; omega
    · have hie : i = nl := by omega
      subst hie
      rw [Nat.sub_self, List.replicate_zero, List.append_nil] at hO
      have rO : Row wr (some ⟨w1.heap.size, 0, none⟩) (List.replicate i b0) := fun j hj => ⟨w1.heap.size, 0, rfl, by
        rw [List.length_replicate] at hj
        have h := (hO j (.int .i64 b0) (by rw [List.getElem?_map, List.getElem?_replicate, if_pos hj]; rfl)).1
        rw [Nat.zero_add]
        simpa [hj] using h⟩
      have E2 := E.out.step hbl
      have hbl' := Lib.hid hbl
      clear hO hbl
      have e1 : decide (((i : Nat) : Int) < ((i : Nat) : Int)) = false := decide_eq_false (by omega)
      replace E2 := Lib.hid E2
      replace rO := Lib.hid rO
      replace hsz := Lib.hid hsz
      go_wp2_with fail
      refine (kr.out wr _ _ rO.out (E2.out.getRow 3 rfl)).mono ?_
      rintro en w5 ⟨rfl, rfl⟩
      have E3 := E2.out.alloc (.cells #[.int .i64 r] 3)
      have r2 : Row (w5.alloc (.cells #[.int .i64 r] 3)) (some ⟨w5.heap.size, 0, none⟩) [r] := row_one (by simp [go_sem])
      have hlt := (E2.out.getBox 0 rfl).lt
      have hb6 : Below w5.heap.size w5 (w5.alloc (.cells #[.int .i64 r] 3)) := push (start w5) _
      have r1 : Row (w5.alloc (.cells #[.int .i64 r] 3)) none [] := fun i h => absurd h (by simp)
      have f1 : Fresh w5 none := fun p e => by cases e
      have f2 : Fresh w5 (some ⟨w5.heap.size, 0, none⟩) := fun p e => by cases e; exact Nat.le_refl _
      have hfin := Lib.hid (result_any (x := ⟨false, [], [r]⟩) (c := 0) (k := 1) (n0 := w.heap.size + 1) (by omega) E2.out.bel hlt r1 r2 f1 f2 (Nat.le_refl 0) hb6)
      obtain ⟨⟨t0, t1, t2⟩, u0, u1, u2⟩ := E3.getBox 0 rfl
      replace E2 := Lib.hid E2
      clear E3 r1 r2 f1 f2 hlt hb6
      go_wp2
      refine bodyPost_ret (v := .tuple #[arrV false none 0 0 (some ⟨w5.heap.size, 0, none⟩) 1 1, .nilIface]) (by simp [results, Tryz.results152, go_sem, cell?_set_same, arrV, t0, t1, t2]) rfl ?_
      exact hfin.out
set_option maxRecDepth 20000 in
set_option maxHeartbeats 8000000 in
theorem byList_dec (b0 : Int) (ny : Nat) (ds : List Int) (hn : ny ≤ 1) (h4 : ds.length ≤ 4096)
    (w : World) (a : Option Addr) (c : Nat) (b : Option Addr) (k : Nat) (a' : Option Addr) (c' : Nat) (b' : Option Addr) (k' : Nat) (hd : Row w b [b0]) (hd' : Row w b' ds) :
    Calls Tryz.prog 113 #[.int .i64 30, arrV false a 0 c b 1 k, arrV false a' ny c' b' ds.length k'] w fun e w' => ArrPostF (.ok ⟨false, [], [M.radV (List.replicate ds.length b0) ds ds.length]⟩) w e w' := by
  have kl := fun W => last_any false a' ny c' b' ds.length k' W (by omega)
  have kn := fun W => numbers_any a 0 c b 1 k W (by omega)
  have kv := fun W h1 h2 => valued_any b k b0 a' ny c' b' ds k' W h1 h2 hn h4
  generalize M.radV (List.replicate ds.length b0) ds ds.length = r at *
  have E := (((Env.start w).addRow hd').addRow hd)
  replace E := E.box false a 0 c b 1 k
  replace E := E.box false a' ny c' b' ds.length k'
  replace E := E.box false none 0 0 none 0 0
  simp only [World.size_alloc] at E
  obtain ⟨W, hWe⟩ : ∃ W : World, W = ((w.alloc (.cells #[.bool false, .slice a 0 c, .slice b 1 k] 24)).alloc (.cells #[.bool false, .slice a' ny c', .slice b' ds.length k'] 24)).alloc (.cells #[.bool false, .slice none 0 0, .slice none 0 0] 24) := ⟨_, rfl⟩
  rw [← hWe] at E
  have hWe' := Lib.hid hWe.symm
  replace hWe := Lib.hid hWe
  replace kl := Lib.hid kl
  replace kn := Lib.hid kn
  replace kv := Lib.hid kv
  clear h4 hd hd' hn
  replace E := Lib.hid E
  go_enter Tryz.func113, Tryz.ntmps113
  go_wp2_with fail
  rw [hWe'.out]
  replace E := E.out
  refine (kl.out _).mono ?_
  rintro en w1 ⟨rfl, hb⟩
  replace E := E.step hb
  clear hb
  obtain ⟨⟨y0, y1, y2⟩, -⟩ := E.getBox 2 rfl
  replace E := Lib.hid E
  go_wp2_with fail
  replace E := E.out
  refine (kn.out _).mono ?_
  rintro en w2 ⟨rfl, hb⟩
  replace E := E.step hb
  clear hb
  clear y0 y1 y2
  obtain ⟨⟨x0, x1, x2⟩, -⟩ := E.getBox 2 rfl
  obtain ⟨⟨y0, y1, y2⟩, -⟩ := E.getBox 1 rfl
  replace E := Lib.hid E
  go_wp2_with fail
  replace E := E.out
  refine (kv.out w2 (E.getRow 3 rfl) (E.getRow 4 rfl)).mono ?_
  intro en w6 hp
  obtain ⟨a5, c5, b5, k5, rfl, r1, r2, f1, f2, hc, hb6⟩ := hp.is_ok rfl
  clear hp x0 x1 x2
  clear y0 y1 y2
  have hlt := (E.getBox 0 rfl).lt
  have hfin := Lib.hid (result_any (x := ⟨false, [], [r]⟩) (k := k5) (n0 := w.heap.size + 1 + 1) (by omega) E.bel hlt r1 r2 f1 f2 hc hb6)
  obtain ⟨⟨t0, t1, t2⟩, u0, u1, u2⟩ := (E.step hb6).getBox 0 rfl
  clear E r1 r2 f1 f2 hc hb6 hlt
  go_wp2
  refine bodyPost_ret (v := .tuple #[arrV false a5 0 c5 b5 1 k5, .nilIface]) (by simp [results, Tryz.results113, go_sem, cell?_set_same, arrV, t0, t1, t2]) rfl ?_
  exact hfin.out
end Go.Proofs.YtaplaoelamnoiaaGreatDoor
