/- The document's Ordered: the least thing that waits for none, again and again. Condition: a matrix of 0 and 1 of at most 24 rows, in a row of ints. -/
import Derived.Test.YtiebknfmmanbiaaDoorRefClosed
import Derived.Test.YtiebknfmmanbiaaDoorWkOrder
import Derived.Test.YtiebknfmmanbiaaDoorBdA
namespace Go.Proofs.YtiebknfmmanbiaaDoor
open Go.RowKit

/-- A block of booleans. -/
def boolCells (bs : List Bool) : Array Value := (bs.map Value.bool).toArray
theorem Tryd.infoBool : (Tryd.prog.info? 4).map (fun i => (i.zero, i.size, i.bytes)) = some (some (.bool false), 1, 1) := by kernel_rfl
theorem run_make_bools (n : Nat) (hb : n < 17592186044416) (W : World) :
    (Instr.makeSlice 90 (.int .i64 (n : Int)) (.int .i64 (n : Int))).run Tryd.prog W = .ok (.slice (some ⟨W.heap.size, 0, none⟩) n n) (W.alloc (.cells (boolCells (List.replicate n false)) 4)) := by
  obtain ⟨i0, hi, hz0, hz1, hz2⟩ := info_parts Tryd.infoBool
  have h := run_make (P := Tryd.prog) W 90 4 i0 (.bool false) (by kernel_rfl) hi hz0 .i64 .i64 n n (by omega) (Int.le_refl _) (by rw [hz2]; omega) (by omega)
  rw [hz1, Int.toNat_natCast, Nat.mul_one] at h
  rw [h]
  have e : madeCells (Value.bool false).cells n = boolCells (List.replicate n false) := by
    apply Array.toList_inj.1
    refine (toList_madeCells_one _ _).trans ?_
    simp [boolCells]
  rw [e]
theorem bool_cell {W : World} {b : Nat} {e : TypeId} {ys : List Bool} (h : W.heap[b]? = some (.cells (boolCells ys) e (0, 0))) {k : Nat} (hk : k < ys.length) :
    W.cell? ⟨b, k, none⟩ = some (.bool (ys.getD k false)) := by
  rw [cell_of_row W b k _ e (0, 0) h]
  simp [boolCells, hk]
theorem bool_set {W : World} {b : Nat} {e : TypeId} {ys : List Bool} (h : W.heap[b]? = some (.cells (boolCells ys) e (0, 0))) (k : Nat) (v : Bool) :
    (W.setCell ⟨b, k, none⟩ (.bool v)).heap[b]? = some (.cells (boolCells (ys.set k v)) e (0, 0)) := by
  rw [heap_setCell_same W b k _ e _ h]
  congr 2
  apply Array.toList_inj.1
  simp [boolCells]

/-- Which things are out. -/
def dnL (n : Nat) (out : List Nat) : List Bool := (List.range n).map fun j => out.contains j
theorem dnL_length (n : Nat) (out : List Nat) : (dnL n out).length = n := by simp [dnL]
theorem dnL_get {n j : Nat} {out : List Nat} (hj : j < n) : (dnL n out).getD j false = out.contains j := by
  rw [List.getD_eq_getElem?_getD]; simp [dnL, hj]
theorem dnL_nil (n : Nat) : dnL n [] = List.replicate n false := by
  apply List.ext_getElem <;> simp [dnL]
theorem dnL_add {n x : Nat} {out : List Nat} : (dnL n out).set x true = dnL n (out ++ [x]) := by
  apply List.ext_getElem
  · simp [dnL]
  · intro j h1 h2
    rw [List.getElem_set]
    simp only [dnL, List.getElem_map, List.getElem_range]
    by_cases e : x = j
    · subst e; rw [if_pos rfl]; simp
    · rw [if_neg e, Bool.eq_iff_iff]
      simp only [List.contains_iff_mem, List.mem_append, List.mem_singleton]
      exact ⟨.inl, fun h => h.resolve_right fun k => e k.symm⟩
/-- The least one from m on, or n. -/
def NxD (n : Nat) (P : Nat → Bool) (m x : Nat) : Prop := (x = n ∧ ∀ j, m ≤ j → j < n → P j = false) ∨ (m ≤ x ∧ x < n ∧ P x = true ∧ ∀ j, m ≤ j → j < x → P j = false)
theorem nxD_start (n : Nat) (P : Nat → Bool) : NxD n P n n := .inl ⟨rfl, fun j h1 h2 => by omega⟩
theorem nxD_hit {n i x : Nat} {P : Nat → Bool} (hi : i < n) (h : P i = true) (_ : NxD n P (i + 1) x) : NxD n P i i := .inr ⟨Nat.le_refl _, hi, h, fun j h1 h2 => by omega⟩
theorem nxD_miss {n i x : Nat} {P : Nat → Bool} (h : P i = false) (hx : NxD n P (i + 1) x) : NxD n P i x := by
  rcases hx with ⟨h1, h2⟩ | ⟨h1, h2, h3, h4⟩
  · refine .inl ⟨h1, fun j k1 k2 => ?_⟩
    by_cases e : j = i
    · subst e; exact h
    · exact h2 j (by omega) k2
  · refine .inr ⟨by omega, h2, h3, fun j k1 k2 => ?_⟩
    by_cases e : j = i
    · subst e; exact h
    · exact h4 j (by omega) k2
theorem nxD_end {n x : Nat} {F : Nat → Nat → Bool} {out : List Nat} (h : NxD n (Re.free n F out) 0 x) : Re.next n F out = x := by
  rcases h with ⟨h1, h2⟩ | ⟨-, h2, h3, h4⟩
  · rw [h1]; exact next_none fun j hj => h2 j (Nat.zero_le _) hj
  · exact next_hit h2 (fun j hj => h4 j (Nat.zero_le _) hj) h3
/-- Does i wait for one of the first q that are not out? -/
def wtUp (F : Nat → Nat → Bool) (out : List Nat) (i q : Nat) : Bool := out.contains i || !frUp F out i q
theorem wt_zero (F : Nat → Nat → Bool) (out : List Nat) (i : Nat) : wtUp F out i 0 = out.contains i := by simp [wtUp, frUp_zero]
theorem wt_gone {F : Nat → Nat → Bool} {out : List Nat} {i q : Nat} (h : out.contains q = true) : wtUp F out i (q + 1) = wtUp F out i q := by
  unfold wtUp; rw [frUp_succ, h]; simp
theorem wt_off {F : Nat → Nat → Bool} {out : List Nat} {i q : Nat} (h : F q i = false) : wtUp F out i (q + 1) = wtUp F out i q := by
  unfold wtUp; rw [frUp_succ, h]; simp
theorem wt_on {F : Nat → Nat → Bool} {out : List Nat} {i q : Nat} (h : out.contains q = false) (h2 : F q i = true) : wtUp F out i (q + 1) = true := by
  unfold wtUp; rw [frUp_succ, h, h2]; simp
theorem wt_all {n : Nat} {F : Nat → Nat → Bool} {out : List Nat} {i : Nat} : wtUp F out i n = !Re.free n F out i := by
  unfold wtUp
  cases h : out.contains i
  · rw [frUp_all h, Bool.false_or]
  · rw [free_out (by simpa using h)]; rfl

def lenOf : Value → Nat
  | .slice _ l _ => l
  | _ => 0
theorem lenOf_slice (a : Option Addr) (l c : Nat) : lenOf (.slice a l c) = l := rfl
/-- An append, the literal's block named by its number. -/
theorem app_int3 {w : World} {ops : Array Oper} {rest : List Oper} {o : Oper} {a : Act} {Q : Exit → Act → World → Prop} (hgd : o.guard = none) (s x : Operand)
    (ho : o.op = .call { callee := .builtin .append, args := #[s, x], argTypes := #[22, 22] })
    (B : Nat) (v : Value) (ys : List Int) (n : Int) (hs : a.eval s = v) (hown : Own w B v ys) (H : Nat) (hx : a.eval x = .slice (some ⟨H, 0, none⟩) 1 1) (eH : H = w.heap.size)
    (hlen : ys.length < 17592186044416) (hB : B ≤ w.heap.size) (m : Nat) (em : m = ys.length + 1)
    (h : ∀ a' c' w', Own w' B (.slice a' m c') (ys ++ [n]) → Below B w w' → w.heap.size < w'.heap.size → wpList Tryd.prog ops Q rest (a.put o.dst (.slice a' m c')) w') :
    wpList Tryd.prog ops Q (o :: rest) a (w.alloc (.cells #[.int .i64 n] 3)) := by
  subst eH
  refine app_int hgd s x ho B v ys n hs hown hx hlen hB fun v' w' h1 h2 h3 => ?_
  obtain ⟨a', c', rfl, -, -, -⟩ := h1.view
  have e : (ys ++ [n]).length = m := by rw [em]; simp
  rw [e] at h1 ⊢
  exact h a' c' w' h1 h2 h3
/-- What the call tells. -/
def OrdPost (n : Nat) (F : Nat → Nat → Bool) (w : World) (e : Ending) (w' : World) : Prop :=
  ((Re.ordK n F n).length = n → ∃ v, e = .returned (.tuple #[v, .bool true]) ∧ Own w' w.heap.size v (M.ordL n F n)) ∧
  ((Re.ordK n F n).length ≠ n → e = .returned (.tuple #[.slice none 0 0, .bool false])) ∧ Below w.heap.size w w'

set_option maxRecDepth 20000 in
set_option maxHeartbeats 16000000 in
theorem refOrdered_any (n : Nat) (F : Nat → Nat → Bool) (b : Option Addr) (d : List Int) (m z : Nat) (w : World) (hd : Row w b d) (hn : n ≤ 24) (hl : d.length = n * n) (hF : ∀ i j, i < n → j < n → (d.getD (i * n + j) 0 == 1) = F i j) (em : m = d.length) :
    Calls Tryd.prog 35 #[.int .i64 (n : Int), .slice b m z] w (OrdPost n F w) := by
  have hnn : n * n ≤ 24 * 24 := Nat.mul_le_mul hn hn
  obtain ⟨N, hNN⟩ : ∃ N, N = n * n := ⟨_, rfl⟩
  rw [← hNN] at hnn
  have N1 : N ≤ 576 := hnn
  have hmk := fun W => run_make_bools n (by omega) W
  have hdl : d.length = N := by rw [hl, ← hNN]
  subst em
  rw [hdl]
  clear hnn hl
  replace hF := Lib.hid hF
  replace hNN := Lib.hid hNN
  replace hdl := Lib.hid hdl
  go_enter Tryd.func35, Tryd.ntmps35
  go_wp2
  have hb0 := push (start w) (.cells (boolCells (List.replicate n false)) 4)
  have h0 : (w.alloc (.cells (boolCells (List.replicate n false)) 4)).heap[w.heap.size]? = some (.cells (boolCells (dnL n (Re.ordK n F 0))) 4 (0, 0)) := by rw [heap_alloc_new, show Re.ordK n F 0 = [] from rfl, dnL_nil]
  have s0 : (w.alloc (.cells (boolCells (List.replicate n false)) 4)).heap.size = w.heap.size + 1 := by simp
  generalize hwa : w.alloc (.cells (boolCells (List.replicate n false)) 4) = wa at *
  replace hwa := Lib.hid hwa
  obtain ⟨g, hg⟩ : ∃ g, g = w.heap.size := ⟨_, rfl⟩
  rw [← hg] at s0 h0 ⊢
  have hF0 : Re.Full n F 0 := fun m hm => absurd hm (Nat.not_lt_zero _)
  replace hF0 := Lib.hid hF0
  replace h0 := Lib.hid h0
  replace s0 := Lib.hid s0
  replace hb0 := Lib.hid hb0
  replace hg := Lib.hid hg
  clear hmk
  go_loopw [6] (fun v6 wr => ∃ k : Nat, k ≤ n ∧ Re.Full n F k ∧ Own wr (g + 1) v6 (M.ordL n F k) ∧ wr.heap[g]? = some (.cells (boolCells (dnL n (Re.ordK n F k))) 4 (0, 0)) ∧ Below w.heap.size w wr ∧ g + 1 ≤ wr.heap.size) (fun v _ => n - lenOf v)
  case atStart => exact ⟨0, Nat.zero_le _, hF0.out, Own.nil _ _, h0.out, hb0.out, by rw [s0.out]; exact Nat.le_refl _⟩
  case round =>
    clear hF0 h0 s0 hb0 hwa
    obtain ⟨k, hk, hFu, hown, hG, hbel, hBs⟩ := hrel
    have hlen : (M.ordL n F k).length < 17592186044416 := by rw [ordL_length hFu]; omega
    have hlk := Lib.hid (show k + 1 = (M.ordL n F k).length + 1 by rw [ordL_length hFu])
    obtain ⟨av, cv, rfl, -, -, -⟩ := hown.view
    rw [ordL_length hFu] at hown ⊢
    have hwg : w.heap.size ≤ g := Nat.le_of_eq hg.out.symm
    by_cases hkn : k < n
    · have hdc := fun j (hj : j < n) => bool_cell hG (k := j) (by rw [dnL_length]; exact hj)
      have hfr := fun j => frozen_of_row wr g j _ 4 hG
      have hrow : Row wr b d := hd.below hbel
      replace hdc := Lib.hid hdc
      replace hfr := Lib.hid hfr
      replace hown := Lib.hid hown
      replace hG := Lib.hid hG
      replace hFu := Lib.hid hFu
      replace hrow := Lib.hid hrow
      replace hwg := Lib.hid hwg
      go_wp2
      go_loop [8, 9] (fun v8 v9 => ∃ m x : Nat, m ≤ n ∧ v9 = .int .i64 ((m : Int) - 1) ∧ v8 = .int .i64 x ∧ NxD n (Re.free n F (Re.ordK n F k)) m x) (fun _ v => (intOf v + 1).toNat)
      case atStart => exact ⟨n, n, Nat.le_refl _, rfl, rfl, nxD_start _ _⟩
      case round =>
        obtain ⟨m, x, hm, rfl, rfl, hx⟩ := hrel
        cases m with
        | succ i =>
          have hi : i < n := hm
          have e1 : (((i + 1 : Nat) : Int) - 1) = (i : Int) := by omega
          rw [e1]
          have t0 : decide ((i : Int) ≥ 0) = true := decide_eq_true (by omega)
          have c1 := hdc.out i hi
          rw [dnL_get hi] at c1
          have z0 := wt_zero F (Re.ordK n F k) i
          rw [← z0] at c1
          replace z0 := Lib.hid z0
          replace hx := Lib.hid hx
          clear e1
          go_wp2
          clear t0 c1
          go_loop [10, 11] (fun v10 v11 => ∃ q : Nat, q ≤ n ∧ v11 = .int .i64 q ∧ v10 = .bool (wtUp F (Re.ordK n F k) i q)) (fun _ v => n - (intOf v).toNat)
          case atStart => exact ⟨0, Nat.zero_le _, rfl, rfl⟩
          case round =>
            obtain ⟨q, hq, rfl, rfl⟩ := hrel
            by_cases hlq : q < n
            · have c2 := hdc.out q hlq
              rw [dnL_get hlq] at c2
              cases hbq : (Re.ordK n F k).contains q
              · rw [hbq] at c2
                have q1 := index_lt hlq hi
                have hFq := hF.out q i hlq hi
                obtain ⟨bd, od, rfl, c3⟩ := hrow.out (q * n + i) (by rw [hdl.out, hNN.out]; exact q1)
                have e1 : ((q : Int) * (n : Int)) = ((q * n : Nat) : Int) := by simp
                rw [← hNN.out] at q1
                obtain ⟨p, hp⟩ : ∃ p, p = q * n := ⟨_, rfl⟩
                rw [← hp] at q1 e1 c3 hFq
                have i1 : (p : Int) + (i : Int) < (N : Int) := by clear e1; omega
                have pw : -9223372036854775808 ≤ (p : Int) ∧ (p : Int) ≤ 9223372036854775807 := by clear e1; omega
                have w1' : ∀ m : Nat, m = n → wrap64 ((q : Int) * (m : Int)) = (p : Int) := by rintro m rfl; rw [e1]; exact IntWalk.wrap64_in _ pw
                clear e1 pw
                replace hp := Lib.hid hp
                generalize d.getD (p + i) 0 = dx at *
                cases hqi : F q i
                · rw [hqi] at hFq
                  have hw := Lib.hid (wt_off (out := Re.ordK n F k) hqi)
                  replace hbq := Lib.hid hbq
                  replace hqi := Lib.hid hqi
                  go_wp2
                  go_roundw
                  case rel => exact ⟨q + 1, hlq, num1 q, by rw [hw.out]⟩
                  case measure => exact meas1 hlq
                · rw [hqi] at hFq
                  have hw := Lib.hid (wt_on hbq hqi)
                  replace hbq := Lib.hid hbq
                  replace hqi := Lib.hid hqi
                  go_wp2
                  go_roundw
                  case rel => exact ⟨q + 1, hlq, num1 q, by rw [hw.out]⟩
                  case measure => exact meas1 hlq
              · rw [hbq] at c2
                have hw := Lib.hid (wt_gone (F := F) (i := i) hbq)
                replace hbq := Lib.hid hbq
                go_wp2
                go_roundw
                case rel => exact ⟨q + 1, hlq, num1 q, by rw [hw.out]⟩
                case measure => exact meas1 hlq
            · obtain rfl : q = n := by omega
              have hwa := wt_all (n := q) (F := F) (out := Re.ordK q F k) (i := i)
              generalize wtUp F (Re.ordK q F k) i q = wv at *
              cases hfe : Re.free q F (Re.ordK q F k) i
              · rw [hfe] at hwa
                subst hwa
                have hx' := Lib.hid (nxD_miss hfe hx.out)
                replace hfe := Lib.hid hfe
                go_wp2
                go_roundw
                case rel => exact ⟨i, x, Nat.le_of_lt hi, rfl, rfl, hx'.out⟩
                case measure => (simp [intOf]; try omega)
              · rw [hfe] at hwa
                subst hwa
                have hx' := Lib.hid (nxD_hit hi hfe hx.out)
                replace hfe := Lib.hid hfe
                go_wp2
                go_roundw
                case rel => exact ⟨i, i, Nat.le_of_lt hi, rfl, rfl, hx'.out⟩
                case measure => (simp [intOf]; try omega)
        | zero =>
          have hnx := nxD_end hx
          have t0 : decide ((((0 : Nat) : Int) - 1) ≥ 0) = false := by decide
          by_cases hxn : x = n
          · have t1 : ((x : Int) == (n : Int)) = true := by rw [beq_iff_eq, hxn]
            have hsh := Lib.hid (ord_short hFu.out hkn (hnx.trans hxn))
            replace hx := Lib.hid hx
            replace hnx := Lib.hid hnx
            replace hxn := Lib.hid hxn
            go_wp2
            go_ret2
            exact ⟨fun h => absurd h hsh.out, fun _ => rfl, hbel⟩
          · have hxl : x < n := by
              rcases hx with ⟨h, -⟩ | ⟨-, h, -⟩
              · exact absurd h hxn
              · exact h
            have t1 : ((x : Int) == (n : Int)) = false := by rw [beq_eq_false_iff_ne]; omega
            have c2 := hdc.out x hxl
            have f2 := hfr.out x
            have hset := bool_set hG.out x true
            rw [dnL_add] at hset
            have hst := ordL_step hxl hnx
            have hFs := full_next hFu.out hxl hnx
            have eo : Re.ordK n F (k + 1) = Re.ordK n F k ++ [x] := by rw [hFs.succ, hnx]
            rw [← eo] at hset
            have hown' := hown.out.setCell ⟨g, x, none⟩ (.bool true) (Nat.lt_succ_self g)
            have hbs := hbel.setCell (p := ⟨g, x, none⟩) hwg.out (.bool true)
            have hsz : (wr.setCell ⟨g, x, none⟩ (.bool true)).heap.size = wr.heap.size := by simp
            have hBs' : g + 1 ≤ (wr.setCell ⟨g, x, none⟩ (.bool true)).heap.size := by rw [hsz]; exact hBs
            replace hsz := Lib.hid hsz
            replace hx := Lib.hid hx
            replace hnx := Lib.hid hnx
            replace hset := Lib.hid hset
            replace hst := Lib.hid hst
            replace hFs := Lib.hid hFs
            replace eo := Lib.hid eo
            replace hown' := Lib.hid hown'
            replace hbs := Lib.hid hbs
            replace hBs' := Lib.hid hBs'
            go_wp2_with (refine app_int3 rfl (.tmp 59) (.tmp 61) rfl (g + 1) _ (M.ordL n F k) (x : Int) rfl hown'.out wr.heap.size rfl hsz.out.symm hlen hBs'.out (k + 1) hlk.out ?_; intro a' c' w' ho' hb' hs')
            go_roundw
            case rel => exact ⟨k + 1, hkn, hFs.out, by rw [hst.out]; exact ho', (hb'.block g (Nat.lt_succ_self g)).trans hset.out, hbs.out.trans (hb'.mono (Nat.le_succ_of_le hwg.out)), Nat.le_trans hBs'.out (Nat.le_of_lt hs')⟩
            case measure => (rw [lenOf_slice, lenOf_slice]; omega)
    · obtain rfl : k = n := by omega
      have hfl := Lib.hid (hFu.len)
      have ho := hown.low (Nat.le_succ_of_le hwg)
      replace hown := Lib.hid hown
      replace hG := Lib.hid hG
      replace hFu := Lib.hid hFu
      replace hwg := Lib.hid hwg
      go_wp2
      go_ret2
      exact ⟨fun _ => ⟨_, rfl, ho⟩, fun h => absurd hfl.out h, hbel⟩
end Go.Proofs.YtiebknfmmanbiaaDoor
