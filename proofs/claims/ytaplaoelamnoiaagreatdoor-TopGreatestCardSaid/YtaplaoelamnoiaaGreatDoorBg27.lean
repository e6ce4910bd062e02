/- Texts that lie in one file: what is plain, rows, boxes, squares, and what is known of a world. No condition. -/
import Derived.Test.YtaplaoelamnoiaaGreatDoorBg25
import Derived.Test.YtaplaoelamnoiaaGreatDoorBg04
import Derived.Test.YtaplaoelamnoiaaGreatDoorBg02
/- The call order of grade's rows: the indices, sorted by their rows. Condition: one row at least, at most 4096, of one cell each. -/
namespace Go.Proofs.YtaplaoelamnoiaaGreatDoor
open Go.RowKit

theorem SRel.put {w0 w : World} {g n : Nat} {f : Nat → Int} (h : SRel w0 g n f w) {i : Nat} (hi : i < n) (v : Int) :
    SRel w0 g n (fun p => if p = i then v else f p) (w.setCell ⟨g, i, none⟩ (.int .i64 v)) := by
  refine ⟨fun p hp => ?_, fun p => ?_, h.but.set _ _, h.bel.setCell (by show g ≤ g; omega) _⟩
  · by_cases e : p = i
    · subst e
      simp only [if_true]
      exact World.cell?_setCell_same' _ _ _ (by rw [h.row p hp]; rfl)
    · simp only [if_neg e]
      rw [World.cell?_setCell_other _ _ _ _ (by first | (simp; done) | (simp; omega))]
      exact h.row p hp
  · rw [World.frozen?_setCell]; exact h.fz p
theorem srel_new (W : World) (n : Nat) : SRel (W.alloc (.cells (roomCells n) 3)) W.heap.size n (fun _ => 0) (W.alloc (.cells (roomCells n) 3)) := by
  refine ⟨fun p hp => ?_, fun p => ?_, But.refl _ _, Below.refl _ _⟩
  · rw [World.cell?_alloc_new]
    simp [roomCells, hp]
  · simp [go_sem]
/-- The row that a sorted one is. -/
def rowL (n : Nat) (f : Nat → Int) : List Int := (List.range n).map f
theorem rowL_length (n : Nat) (f : Nat → Int) : (rowL n f).length = n := by simp [rowL]
theorem rowL_at {n : Nat} {f : Nat → Int} {i : Nat} (h : i < n) : (rowL n f).getD i 0 = f i := by simp [rowL, h]
theorem srel_row {w0 w : World} {g n : Nat} {f : Nat → Int} (h : SRel w0 g n f w) : Row w (some ⟨g, 0, none⟩) (rowL n f) := by
  intro i hi
  rw [rowL_length] at hi
  refine ⟨g, 0, rfl, ?_⟩
  have e : (rowL n f)[i]'(by rw [rowL_length]; exact hi) = f i := by simp [rowL]
  rw [Nat.zero_add, h.row i hi, rowL_at hi]

set_option maxRecDepth 20000 in
set_option maxHeartbeats 4000000 in
theorem gorder_any (gr bd od n k : Nat) (d : List Int) (w : World) (hR : Rows1 gr bd od n k d w) (h0 : 0 < n) (h4 : n ≤ 4096) :
    Calls Tryz.prog 215 #[.slice (some ⟨gr, 0, none⟩) n n, .func (.func 216) #[] #[]] w fun e w' => ∃ (ga : Nat) (f : Nat → Int), e = .returned (.slice (some ⟨ga, 0, none⟩) n n) ∧ w.heap.size ≤ ga ∧ Row w' (some ⟨ga, 0, none⟩) (rowL n f) ∧ Mv 0 n (fun p => (p : Int)) f ∧ Srt (keyD d) f 0 n ∧ St (keyD d) f 0 n ∧ Below w.heap.size w w' := by
  obtain ⟨WA, hWA⟩ : ∃ W : World, W = (w.alloc (.cells #[.slice (some ⟨gr, 0, none⟩) n n] 271)).alloc (.cells #[.func (.func 216) #[] #[]] 275) := ⟨_, rfl⟩
  have sA : WA.heap.size = w.heap.size + 1 + 1 := by rw [hWA]; simp
  have bA : Below w.heap.size w WA := by rw [hWA]; exact push (push (start w) _) _
  have c2 : WA.cell? ⟨w.heap.size, 0, none⟩ = some (.slice (some ⟨gr, 0, none⟩) n n) := by rw [hWA]; simp [go_sem]
  have c3 : WA.cell? ⟨w.heap.size + 1, 0, none⟩ = some (.func (.func 216) #[] #[]) := by rw [hWA]; simp [go_sem]
  obtain ⟨W0, hW0⟩ : ∃ W : World, W = WA.alloc (.cells (roomCells n) 3) := ⟨_, rfl⟩
  have b0 : Below WA.heap.size WA W0 := by rw [hW0]; exact push (start WA) _
  have hS0 := srel_new WA n
  rw [← hW0] at hS0
  have hmk : (Instr.makeSlice 22 (.int .i64 n) (.int .i64 n)).run Tryz.prog WA = .ok (.slice (some ⟨WA.heap.size, 0, none⟩) n n) W0 := by rw [hW0]; exact run_make_room n n (Nat.le_refl _) (by omega) WA
  have lgr : gr < w.heap.size := World.block_lt_of_cell? w _ (hR.row 0 h0)
  have lbd : bd < w.heap.size := World.block_lt_of_cell? w _ (hR.cell 0 h0)
  have up : ∀ {p : Addr} {v : Value}, w.cell? p = some v → W0.cell? p = some v := fun {p v} hc => by
    have h1 := World.block_lt_of_cell? w _ hc
    exact (b0.cell (by omega)).trans ((bA.cell h1).trans hc)
  have hok : CmpOk W0 WA.heap.size n (keyD d) (.pointer (some ⟨w.heap.size + 1, 0, none⟩)) (.pointer (some ⟨w.heap.size, 0, none⟩)) :=
    cmpOk_of (gr := gr) (bd := bd) (od := od) (k := k) ⟨fun i hi => up (hR.row i hi), fun i hi => up (hR.cell i hi)⟩ ⟨(b0.cell (by show w.heap.size + 1 < _; omega)).trans c3, (b0.cell (by show w.heap.size < _; omega)).trans c2⟩ (by omega) (by omega) (by omega) (by omega) h4
  have hbW := below_trans bA b0
  obtain ⟨g, hg⟩ : ∃ g, g = WA.heap.size := ⟨_, rfl⟩
  rw [← hg] at hS0 hmk hok
  have hgw : w.heap.size < g := by omega
  have ksort := fun W f h1 h2 h3 => sortStable_any W0 g n n f (keyD d) (.pointer (some ⟨w.heap.size + 1, 0, none⟩)) (.pointer (some ⟨w.heap.size, 0, none⟩)) hok W h1 h2 h3 h4
  have hWA' := Lib.hid hWA.symm
  replace ksort := Lib.hid ksort
  replace hS0 := Lib.hid hS0
  replace hWA := Lib.hid hWA
  replace hW0 := Lib.hid hW0
  replace hg := Lib.hid hg
  replace sA := Lib.hid sA
  replace bA := Lib.hid bA
  replace b0 := Lib.hid b0
  replace hbW := Lib.hid hbW
  clear hok up c3 hR lgr lbd
  go_enter Tryz.func215, Tryz.ntmps215
  go_upto_region 1 with fail
  rw [hWA'.out]
  go_wp2
  go_loopw [12] (fun vi wr => ∃ (i : Nat) (f : Nat → Int), vi = .int .i64 i ∧ i ≤ n ∧ (∀ p, p < i → f p = p) ∧ SRel W0 g n f wr) (fun vi _ => n - (intOf vi).toNat)
  case atStart => exact ⟨0, _, rfl, Nat.zero_le _, fun p hp => absurd hp (by omega), hS0.out⟩
  case round =>
    clear c2
    obtain ⟨i, f, rfl, hi, hf, hR⟩ := hrel
    by_cases hlt : i < n
    · have c1 := hR.row i hlt
      have f1 := hR.fz i
      have hw := Lib.hid (hR.put hlt i)
      generalize f i = x1 at *
      have l1 : (i : Int) < (n : Int) := by omega
      replace hR := Lib.hid hR
      replace hf := Lib.hid hf
      go_wp2
      go_roundw
      case rel =>
        refine ⟨i + 1, _, by go_num, hlt, fun p hp => ?_, hw.out⟩
        by_cases e : p = i
        · simp only [e, if_true]
        · simp only [if_neg e]; exact hf.out p (by omega)
      case measure => simp [intOf]; omega
    · obtain rfl : i = n := by omega
      have hR2 := hR.same (f' := fun p => (p : Int)) fun p hp => (hf p hp).symm
      have hin : InR i (fun p => (p : Int)) := fun p hp => ⟨by simp, by simp; omega⟩
      have kc := Lib.hid (ksort.out wr _ hR2 hin (fun p q _ h2 _ _ => by simp; omega))
      have t1 : decide (((i : Nat) : Int) < ((i : Nat) : Int)) = false := decide_eq_false (by omega)
      replace hR := Lib.hid hR
      replace hf := Lib.hid hf
      clear hR2 hin
      go_wp2_with fail
      refine kc.out.mono ?_
      rintro e w5 ⟨rfl, f', h5, h6, h7, h8⟩
      replace h8 := Lib.hid h8
      replace h5 := Lib.hid h5
      replace h6 := Lib.hid h6
      replace h7 := Lib.hid h7
      go_wp2
      go_ret
      exact ⟨g, f', rfl, by omega, srel_row h5.out, h6.out, h7.out, h8.out, hbW.out.trans (h5.out.bel.mono (by omega))⟩
end Go.Proofs.YtaplaoelamnoiaaGreatDoor

/- The order of a list's indices, in plain Lean: by their cells, of one cell the lesser first; there is but one. No program in sight; no condition. -/
namespace Go.Proofs.YtaplaoelamnoiaaGreatDoor
open Go.RowKit

/-- By their cells, of one cell the lesser index. -/
def lexLe (d : List Int) (i j : Int) : Bool := decide (keyD d i < keyD d j) || (decide (keyD d i = keyD d j) && decide (i ≤ j))
theorem lexLe_iff {d : List Int} {i j : Int} : lexLe d i j = true ↔ keyD d i < keyD d j ∨ (keyD d i = keyD d j ∧ i ≤ j) := by
  unfold lexLe
  rw [Bool.or_eq_true, Bool.and_eq_true, decide_eq_true_eq, decide_eq_true_eq, decide_eq_true_eq]
/-- The indices of a list, in order. -/
def gradeL (d : List Int) : List Int := (rowL d.length fun p => (p : Int)).mergeSort (lexLe d)
theorem gradeL_length (d : List Int) : (gradeL d).length = d.length := by unfold gradeL; rw [List.length_mergeSort, rowL_length]
theorem gradeL_pairwise (d : List Int) : (gradeL d).Pairwise fun a b => lexLe d a b = true := by
  refine List.pairwise_mergeSort (fun a b c h1 h2 => ?_) (fun a b => ?_) _
  · rw [lexLe_iff] at h1 h2 ⊢
    omega
  · rw [Bool.or_eq_true, lexLe_iff, lexLe_iff]
    omega
theorem rowL_get {n : Nat} {f : Nat → Int} {i : Nat} (h : i < (rowL n f).length) : (rowL n f)[i] = f i := by simp [rowL]
theorem idx_nodup (n : Nat) : (rowL n fun p => (p : Int)).Nodup := by
  unfold List.Nodup
  rw [List.pairwise_iff_getElem]
  intro i j hi hj hij
  rw [rowL_get, rowL_get]
  omega
theorem gradeL_nodup (d : List Int) : (gradeL d).Nodup := ((List.mergeSort_perm _ _).nodup_iff).2 (idx_nodup _)
theorem mem_gradeL {d : List Int} {v : Int} : v ∈ gradeL d ↔ ∃ q : Nat, q < d.length ∧ v = (q : Int) := by
  unfold gradeL
  rw [List.mem_mergeSort]
  simp only [rowL, List.mem_map, List.mem_range]
  constructor
  · rintro ⟨q, h1, h2⟩; exact ⟨q, h1, h2.symm⟩
  · rintro ⟨q, h1, h2⟩; exact ⟨q, h1, h2.symm⟩
/-- An order of the indices. -/
structure Good (d : List Int) (n : Nat) (f : Nat → Int) : Prop where
  mv : Mv 0 n (fun p => (p : Int)) f
  srt : Srt (keyD d) f 0 n
  st : St (keyD d) f 0 n
theorem Good.lt {d : List Int} {n : Nat} {f : Nat → Int} (h : Good d n f) {p q : Nat} (hpq : p < q) (hq : q < n) : keyD d (f p) < keyD d (f q) ∨ (keyD d (f p) = keyD d (f q) ∧ f p < f q) := by
  have h1 := h.srt p q (Nat.zero_le _) (Nat.le_of_lt hpq) hq
  by_cases e : keyD d (f p) = keyD d (f q)
  · exact .inr ⟨e, h.st p q (Nat.zero_le _) hpq hq e⟩
  · exact .inl (by omega)
theorem Good.eq {d : List Int} {n : Nat} {f g : Nat → Int} (hf : Good d n f) (hg : Good d n g) (p : Nat) : p < n → f p = g p := by
  induction p using Nat.strongRecOn with
  | ind p ih =>
    intro hp
    obtain ⟨q0, _, h1, e1⟩ := hf.mv.fwd p (Nat.zero_le _) hp
    obtain ⟨r, _, h2, e2⟩ := hg.mv.bwd q0 (Nat.zero_le _) h1
    have er : g r = f p := e2.trans e1.symm
    obtain ⟨q1, _, h3, e3⟩ := hg.mv.fwd p (Nat.zero_le _) hp
    obtain ⟨s, _, h4, e4⟩ := hf.mv.bwd q1 (Nat.zero_le _) h3
    have es : f s = g p := e4.trans e3.symm
    have hr : p ≤ r := by
      by_cases hrp : r < p
      · have h5 := ih r hrp h2
        have h6 := hf.lt hrp hp
        rw [h5, er] at h6
        omega
      · omega
    have hs : p ≤ s := by
      by_cases hsp : s < p
      · have h5 := ih s hsp h4
        have h6 := hg.lt hsp hp
        rw [← h5, es] at h6
        omega
      · omega
    by_cases e : r = p
    · rw [← er, e]
    · by_cases e' : s = p
      · rw [← es, e']
      · have h5 := hg.lt (show p < r by omega) h2
        have h6 := hf.lt (show p < s by omega) h4
        rw [er] at h5
        rw [es] at h6
        omega
theorem good_grade (d : List Int) : Good d d.length (fun p => if p < d.length then (gradeL d).getD p 0 else (p : Int)) := by
  have hl := gradeL_length d
  have hg : ∀ p (h : p < d.length), (gradeL d).getD p 0 = (gradeL d)[p]'(by omega) := fun p h => by simp [show p < (gradeL d).length by omega]
  have hpw := List.pairwise_iff_getElem.1 (gradeL_pairwise d)
  have hnd := List.pairwise_iff_getElem.1 (gradeL_nodup d)
  refine ⟨⟨fun p hp => by rw [if_neg (by omega)], fun p _ hp => ?_, fun q _ hq => ?_⟩, fun p q _ h2 h3 => ?_, fun p q _ h2 h3 h4 => ?_⟩
  · simp only [if_pos hp]
    rw [hg p hp]
    obtain ⟨q, h1, h2⟩ := mem_gradeL.1 (List.getElem_mem (show p < (gradeL d).length by omega))
    exact ⟨q, Nat.zero_le _, h1, h2⟩
  · obtain ⟨p, h1, h2⟩ := List.mem_iff_getElem.1 (mem_gradeL.2 ⟨q, hq, rfl⟩)
    exact ⟨p, Nat.zero_le _, by omega, by simp only [if_pos (show p < d.length by omega)]; rw [hg p (by omega), h2]⟩
  · simp only [if_pos (show p < d.length by omega), if_pos h3]
    rw [hg p (by omega), hg q h3]
    by_cases e : p = q
    · subst e; exact Int.le_refl _
    · have h := lexLe_iff.1 (hpw p q (by omega) (by omega) (by omega))
      omega
  · simp only [if_pos (show p < d.length by omega), if_pos h3] at h4 ⊢
    rw [hg p (by omega), hg q h3] at h4 ⊢
    have h := lexLe_iff.1 (hpw p q (by omega) (by omega) h2)
    have h' := hnd p q (by omega) (by omega) h2
    omega
theorem grade_eq {d : List Int} {f : Nat → Int} (h : Good d d.length f) : rowL d.length f = gradeL d := by
  apply List.ext_getElem
  · rw [rowL_length, gradeL_length]
  · intro i h1 h2
    rw [rowL_get]
    have hi : i < d.length := by rw [rowL_length] at h1; exact h1
    rw [h.eq (good_grade d) i hi]
    simp only [if_pos hi]
    simp [h2]
/-- The last one in order is the greatest, the first one the least. -/
theorem grade_bounds {d : List Int} {p : Nat} (hp : p < d.length) : ∃ i : Nat, i < d.length ∧ (gradeL d).getD p 0 = (i : Int) ∧ (p + 1 = d.length → ∀ j, j < d.length → d.getD j 0 ≤ d.getD i 0) ∧ (p = 0 → ∀ j, j < d.length → d.getD i 0 ≤ d.getD j 0) := by
  have hG := good_grade d
  obtain ⟨i, _, h1, e1⟩ := hG.mv.fwd p (Nat.zero_le _) hp
  simp only [if_pos hp] at e1
  refine ⟨i, h1, e1, fun hl j hj => ?_, fun h0 j hj => ?_⟩
  · obtain ⟨q, _, h2, e2⟩ := hG.mv.bwd j (Nat.zero_le _) hj
    have h3 := hG.srt q p (Nat.zero_le _) (by omega) hp
    simp only [if_pos h2, if_pos hp] at h3 e2
    rw [e1, e2] at h3
    simpa using h3
  · obtain ⟨q, _, h2, e2⟩ := hG.mv.bwd j (Nat.zero_le _) hj
    have h3 := hG.srt p q (Nat.zero_le _) (by omega) h2
    simp only [if_pos h2, if_pos hp] at h3 e2
    rw [e1, e2] at h3
    simpa using h3
end Go.Proofs.YtaplaoelamnoiaaGreatDoor

/- The call grade.cut on a list of numbers: its cells, one by one. Condition: a sound list with one cell at least, in a room that holds it. -/
namespace Go.Proofs.YtaplaoelamnoiaaGreatDoor
open Go.RowKit

theorem Tryz.infoRow : (Tryz.prog.info? 22).map (fun i => (i.zero, i.size, i.bytes)) = some (some (.slice none 0 0), 1, 24) := by kernel_rfl
/-- The cells that make(rows, n) lays. -/
def nilCells (n : Nat) : Array Value := (List.replicate n (Value.slice none 0 0)).toArray
theorem run_make_rows (n : Nat) (hb : n < 1000000) (W : World) :
    (Instr.makeSlice 271 (.int .i64 (n : Int)) (.int .i64 (n : Int))).run Tryz.prog W = .ok (.slice (some ⟨W.heap.size, 0, none⟩) n n) (W.alloc (.cells (nilCells n) 22)) := by
  obtain ⟨i0, hi, hz0, hz1, hz2⟩ := info_parts Tryz.infoRow
  have h := run_make (P := Tryz.prog) W 271 22 i0 (.slice none 0 0) Tryz.underlying271 hi hz0 .i64 .i64 n n (by omega) (by omega) (by rw [hz2]; omega) (by omega)
  rw [hz1, Int.toNat_natCast, Nat.mul_one] at h
  rw [h]
  have e : madeCells (Value.slice none 0 0).cells n = nilCells n := by
    apply Array.toList_inj.1
    exact (toList_madeCells_one _ _).trans rfl
  rw [e]
/-- A row of values that is being filled: its cells, and all else as it was. -/
structure VRel (w0 : World) (g n : Nat) (f : Nat → Value) (w : World) : Prop where
  row : ∀ p, p < n → w.cell? ⟨g, p, none⟩ = some (f p)
  fz : ∀ p, w.frozen? ⟨g, p, none⟩ = false
  but : But g w0 w
  bel : Below g w0 w
theorem VRel.put {w0 w : World} {g n : Nat} {f : Nat → Value} (h : VRel w0 g n f w) {i : Nat} (hi : i < n) (v : Value) :
    VRel w0 g n (fun p => if p = i then v else f p) (w.setCell ⟨g, i, none⟩ v) := by
  refine ⟨fun p hp => ?_, fun p => ?_, h.but.set _ _, h.bel.setCell (by show g ≤ g; omega) _⟩
  · by_cases e : p = i
    · subst e
      simp only [if_true]
      exact World.cell?_setCell_same' _ _ _ (by rw [h.row p hp]; rfl)
    · simp only [if_neg e]
      rw [World.cell?_setCell_other _ _ _ _ (by first | (simp; done) | (simp; omega))]
      exact h.row p hp
  · rw [World.frozen?_setCell]; exact h.fz p
theorem vrel_new (W : World) (n : Nat) : VRel (W.alloc (.cells (nilCells n) 22)) W.heap.size n (fun _ => .slice none 0 0) (W.alloc (.cells (nilCells n) 22)) := by
  refine ⟨fun p hp => ?_, fun p => ?_, But.refl _ _, Below.refl _ _⟩
  · rw [World.cell?_alloc_new]
    simp [nilCells, hp]
  · simp [go_sem]

set_option maxRecDepth 20000 in
set_option maxHeartbeats 4000000 in
theorem gcut_any (a : Option Addr) (c : Nat) (b : Option Addr) (k n : Nat) (d : List Int) (w : World) (hn : n = d.length) (hf : M.flaw false [(d.length : Int)] d = 0) (h0 : 0 < n) (hk : n ≤ k) (hs : Row w a [(d.length : Int)]) (hd : Row w b d) :
    Calls Tryz.prog 214 #[arrV false a 1 c b n k] w fun e w' => ∃ gr bd od : Nat, e = .returned (.tuple #[.slice (some ⟨gr, 0, none⟩) n n, .nilIface]) ∧ Rows1 gr bd od n k d w' ∧ Below w.heap.size w w' := by
  have l2 := (flaw_len hf).1
  have kc := fun W h1 h2 => check_any false a b [(d.length : Int)] d 1 c d.length k W h1 h2 (by simp [maxLen]) (by simp only [maxLen]; omega) rfl rfl
  rw [hf, errV_zero] at kc
  rw [← hn] at kc hs l2
  have E := (((Env.start w).addRow hd).addRow hs).box false a 1 c b n k
  obtain ⟨W, hW⟩ : ∃ W : World, W = w.alloc (.cells #[.bool false, .slice a 1 c, .slice b n k] 24) := ⟨_, rfl⟩
  rw [← hW] at E
  have hW' := Lib.hid hW.symm
  replace hW := Lib.hid hW
  replace kc := Lib.hid kc
  replace E := Lib.hid E
  replace hn := Lib.hid hn
  clear hs hd hf
  go_enter Tryz.func214, Tryz.ntmps214
  go_wp2_with fail
  rw [hW'.out]
  refine (kc.out W (E.out.getRow 1 rfl) (E.out.getRow 2 rfl)).mono ?_
  rintro en w1 ⟨rfl, hb⟩
  replace E := E.out.step hb
  clear hb
  obtain ⟨⟨y0, y1, y2⟩, -⟩ := E.getBox 0 rfl
  obtain ⟨ba, oa, rfl, kA⟩ := E.getRow 1 rfl 0 (by simp)
  obtain ⟨bd, od, rfl, -⟩ := E.getRow 2 rfl 0 (by rw [← hn.out]; exact h0)
  simp only [List.getD_cons_zero, Nat.add_zero] at kA
  have hmk := run_make_rows n (by omega) w1
  have hV0 := vrel_new w1 n
  obtain ⟨w2, hw2⟩ : ∃ W : World, W = w1.alloc (.cells (nilCells n) 22) := ⟨_, rfl⟩
  rw [← hw2] at hmk hV0
  have hb2 : Below w1.heap.size w1 w2 := by rw [hw2]; exact push (start w1) _
  have E2 := E.step hb2
  obtain ⟨gr, hgr⟩ : ∃ gr, gr = w1.heap.size := ⟨_, rfl⟩
  rw [← hgr] at hmk hV0
  have hlx : w.heap.size < gr := by rw [hgr]; exact (E.getBox 0 rfl).lt
  obtain ⟨⟨z0, z1, z2⟩, -⟩ := E2.getBox 0 rfl
  have hnz : ((n : Int) == 0) = false := by rw [beq_eq_false_iff_ne]; omega
  have hnz2 : (n : Int) ≠ 0 := by omega
  have hq1 : (n : Int) / (n : Int) = 1 := Int.ediv_self (by omega)
  have hq2 : (n : Int).tdiv (n : Int) = 1 := Int.tdiv_self (by omega)
  have hdb : gr ≠ bd := by
    obtain ⟨_, _, e, hc⟩ := E.getRow 2 rfl 0 (by rw [← hn.out]; exact h0)
    cases e
    have h : bd < w1.heap.size := World.block_lt_of_cell? _ _ hc
    omega
  replace hw2 := Lib.hid hw2
  replace hV0 := Lib.hid hV0
  replace E := Lib.hid E
  replace E2 := Lib.hid E2
  replace hb2 := Lib.hid hb2
  replace hgr := Lib.hid hgr
  go_wp2
  go_loopw [35] (fun vi wr => ∃ (i : Nat) (f : Nat → Value), vi = .int .i64 i ∧ i ≤ n ∧ (∀ p, p < i → f p = .slice (some ⟨bd, od + p, none⟩) 1 (k - p)) ∧ VRel w2 gr n f wr) (fun vi _ => n - (intOf vi).toNat)
  case atStart => exact ⟨0, _, rfl, Nat.zero_le _, fun p hp => absurd hp (by omega), hV0.out⟩
  case round =>
    clear y0 y1 y2 kA z0 z1
    obtain ⟨i, f, rfl, hi, hf, hV⟩ := hrel
    by_cases hlt : i < n
    · have c1 := hV.row i hlt
      have f1 := hV.fz i
      have x2 := (cell_of_eq1 (hV.but w.heap.size (by have := (E2.out.getBox 0 rfl).lt; omega) (by omega)) 2).trans z2
      have hw := Lib.hid (hV.put hlt (.slice (some ⟨bd, od + i, none⟩) 1 (k - i)))
      generalize f i = x1 at *
      have hkj : ¬ k = i := by omega
      have l1 : (i : Int) < (n : Int) := by omega
      have s1 : (i : Int) ≤ (i : Int) + 1 := by omega
      have s2 : (i : Int) + 1 ≤ ((k : Nat) : Int) := by omega
      have s3 : (0 : Int) ≤ (i : Int) + 1 := by omega
      replace hV := Lib.hid hV
      replace hf := Lib.hid hf
      clear z2
      go_wp2
      go_roundw
      case rel =>
        refine ⟨i + 1, _, by go_num, hlt, fun p hp => ?_, hw.out⟩
        by_cases e : p = i
        · simp only [e, if_true]
        · simp only [if_neg e]; exact hf.out p (by omega)
      case measure => simp [intOf]; omega
    · obtain rfl : i = n := by omega
      have t1 : decide (((i : Nat) : Int) < ((i : Nat) : Int)) = false := decide_eq_false (by omega)
      have hfin : Rows1 gr bd od i k d wr := ⟨fun p hp => by rw [← hf p hp]; exact hV.row p hp, fun p hp => by
        obtain ⟨_, _, e, hc⟩ := E2.out.getRow 2 rfl p (by rw [← hn.out]; exact hp)
        cases e
        exact (cell_of_eq1 (hV.but bd (World.block_lt_of_cell? _ _ hc) (Ne.symm hdb)) _).trans hc⟩
      have hbel := E2.out.bel.trans (hV.bel.mono (Nat.le_of_lt hlx))
      replace hfin := Lib.hid hfin
      replace hbel := Lib.hid hbel
      replace hV := Lib.hid hV
      replace hf := Lib.hid hf
      clear z2
      go_wp2
      refine bodyPost_ret (v := .tuple #[.slice (some ⟨gr, 0, none⟩) i i, .nilIface]) (by simp [results, Tryz.results214, go_sem]) rfl ?_
      exact ⟨gr, bd, od, rfl, hfin.out, hbel.out⟩
end Go.Proofs.YtaplaoelamnoiaaGreatDoor

/- The call grade.Up on a list of numbers. Condition: a sound list with one cell at least, in a room that holds it. -/
namespace Go.Proofs.YtaplaoelamnoiaaGreatDoor
open Go.RowKit

set_option maxRecDepth 20000 in
set_option maxHeartbeats 4000000 in
theorem gup_any (a : Option Addr) (c : Nat) (b : Option Addr) (k n : Nat) (d : List Int) (w : World) (hn : n = d.length) (hf : M.flaw false [(d.length : Int)] d = 0) (h0 : 0 < n) (hk : n ≤ k) (hs : Row w a [(d.length : Int)]) (hd : Row w b d) :
    Calls Tryz.prog 171 #[arrV false a 1 c b n k] w fun e w' => ∃ g : Nat, e = .returned (.tuple #[.slice (some ⟨g, 0, none⟩) n n, .nilIface]) ∧ w.heap.size ≤ g ∧ Row w' (some ⟨g, 0, none⟩) (gradeL d) ∧ Below w.heap.size w w' := by
  have l2 := (flaw_len hf).1
  have kc := fun W h1 h2 => gcut_any a c b k n d W hn hf h0 hk h1 h2
  have ko := fun gr bd od W h => gorder_any gr bd od n k d W h h0 (by omega)
  have hba := push (start w) (.cells #[.bool false, .slice a 1 c, .slice b n k] 24)
  obtain ⟨W, hW⟩ : ∃ W : World, W = w.alloc (.cells #[.bool false, .slice a 1 c, .slice b n k] 24) := ⟨_, rfl⟩
  rw [← hW] at hba
  have r1 := hs.below hba
  have r2 := hd.below hba
  have hW' := Lib.hid hW.symm
  replace hW := Lib.hid hW
  replace kc := Lib.hid kc
  replace ko := Lib.hid ko
  replace r1 := Lib.hid r1
  replace r2 := Lib.hid r2
  replace hba := Lib.hid hba
  replace hn := Lib.hid hn
  clear hs hd hf
  go_enter Tryz.func171, Tryz.ntmps171
  go_wp2_with fail
  rw [hW'.out]
  refine (kc.out W r1.out r2.out).mono ?_
  rintro en w1 ⟨gr, bd, od, rfl, hR, hb1⟩
  replace hR := Lib.hid hR
  replace hb1 := Lib.hid hb1
  go_wp2_with fail
  refine (ko.out gr bd od w1 hR.out).mono ?_
  rintro en w2 ⟨ga, f, rfl, hg, hr, hm, hs1, ht, hb2⟩
  have hfin : Row w2 (some ⟨ga, 0, none⟩) (gradeL d) := by
    have hG : Good d n f := ⟨hm, hs1, ht⟩
    have e := hn.out
    rw [e] at hG hr
    rw [grade_eq hG] at hr
    exact hr
  have hbel := Lib.hid (below_trans (below_trans hba.out hb1.out) hb2)
  have hgl : Hid (w.heap.size ≤ ga) := Lib.hid (by have := hba.out.size; have := hb1.out.size; omega)
  replace hfin := Lib.hid hfin
  clear hr hm hs1 ht hb2
  go_wp2
  refine bodyPost_ret (v := .tuple #[.slice (some ⟨ga, 0, none⟩) n n, .nilIface]) (by simp [results, Tryz.results171, go_sem]) rfl ?_
  exact ⟨ga, rfl, hgl.out, hfin.out, hbel.out⟩
end Go.Proofs.YtaplaoelamnoiaaGreatDoor
