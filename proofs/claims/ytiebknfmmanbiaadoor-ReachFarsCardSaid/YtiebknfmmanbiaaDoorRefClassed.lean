/- The document's Classed: the least one of each class. Condition: a matrix of 0 and 1 of at most 24 rows, in a row of ints. -/
import Derived.Test.YtiebknfmmanbiaaDoorRefClosed
import Derived.Test.YtiebknfmmanbiaaDoorWkClasses
import Derived.Test.YtiebknfmmanbiaaDoorApp2
namespace Go.Proofs.YtiebknfmmanbiaaDoor
open Go.RowKit

/-- The classes' names of the first i things. -/
def cnUp (n : Nat) (F : Nat → Nat → Bool) (i : Nat) : List Int := (List.range i).map fun k => (Re.cname n F k : Int)
theorem cnUp_length (n : Nat) (F : Nat → Nat → Bool) (i : Nat) : (cnUp n F i).length = i := by simp [cnUp]
theorem cnUp_succ (n : Nat) (F : Nat → Nat → Bool) (i : Nat) : cnUp n F (i + 1) = cnUp n F i ++ [(Re.cname n F i : Int)] := by simp [cnUp, List.range_succ]
theorem cnUp_next {n i j B : Nat} {F : Nat → Nat → Bool} {w : World} {v : Value} (h : Re.cname n F i = j) (ho : Own w B v (cnUp n F i ++ [(j : Int)])) : Own w B v (cnUp n F (i + 1)) := by rw [cnUp_succ, h]; exact ho
/-- What a call leaves that tells a list of its own. -/
def OwnPost (ys : List Int) (w : World) (e : Ending) (w' : World) : Prop := ∃ v, e = .returned v ∧ Own w' w.heap.size v ys ∧ Below w.heap.size w w'

set_option maxRecDepth 20000 in
set_option maxHeartbeats 16000000 in
theorem refClassed_any (n : Nat) (F : Nat → Nat → Bool) (b : Option Addr) (d : List Int) (m z : Nat) (w : World) (hd : Row w b d) (hn : n ≤ 24) (hl : d.length = n * n) (hF : ∀ i j, i < n → j < n → (d.getD (i * n + j) 0 == 1) = F i j) (em : m = d.length) :
    Calls Tryd.prog 47 #[.int .i64 (n : Int), .slice b m z] w (OwnPost (cnUp n F n) w) := by
  have hnn : n * n ≤ 24 * 24 := Nat.mul_le_mul hn hn
  obtain ⟨N, hNN⟩ : ∃ N, N = n * n := ⟨_, rfl⟩
  rw [← hNN] at hnn
  have N1 : N ≤ 576 := hnn
  have hcl := refClosed_any n F b d m z w hd hn hl hF em
  rw [← hNN] at hcl
  replace hcl := Lib.hid hcl
  replace hNN := Lib.hid hNN
  clear hnn hl hF em hd
  go_enter Tryd.func47, Tryd.ntmps47
  go_wp2_with fail
  refine hcl.out.mono ?_
  rintro e w1 ⟨g, rfl, hg, hwg, hb⟩
  have hlg := lt_of_some hg
  have hws := hb.size
  clear hcl
  obtain ⟨B, hB⟩ : ∃ B, B = w1.heap.size := ⟨_, rfl⟩
  go_wp2
  rename World => w1
  go_loopw [6, 7] (fun v6 v7 wr => ∃ (i : Nat), i ≤ n ∧ v7 = .int .i64 i ∧ Own wr B v6 (cnUp n F i) ∧ wr.heap[g]? = some (.cells (cellsOf (relCells n (Re.clo n F))) 3 (0, 0)) ∧ Below w.heap.size w wr ∧ B ≤ wr.heap.size) (fun _ v _ => n - (intOf v).toNat)
  case atStart => exact ⟨0, Nat.zero_le _, rfl, Own.nil _ _, hg, hb, by rw [hB]; exact Nat.le_refl _⟩
  case round =>
    have hgB : g < B := by rw [hB]; exact hlg
    have hwB : w.heap.size ≤ B := by rw [hB]; exact hws
    clear hg hb hws hlg
    replace hB := Lib.hid hB
    obtain ⟨i, hi, rfl, hown, hg, hbel, hBs⟩ := hrel
    by_cases hli : i < n
    · have hlk := Lib.hid (show i + 1 = (cnUp n F i).length + 1 by rw [cnUp_length])
      have hlen : (cnUp n F i).length < 17592186044416 := by rw [cnUp_length]; omega
      have hv := hown.view
      rw [cnUp_length] at hv
      obtain ⟨av, cv, rfl, -, -, -⟩ := hv
      have hgc := fun k l (hk : k < n) (hl : l < n) => block_cell hg (k := k * n + l) (by rw [relCells_length]; exact index_lt hk hl)
      have hgv := fun k l (hk : k < n) (hl : l < n) => relCells_get (Re.clo n F) hk hl
      replace hown := Lib.hid hown
      replace hg := Lib.hid hg
      replace hgc := Lib.hid hgc
      replace hgv := Lib.hid hgv
      go_wp2
      go_loop [8] (fun v => ∃ j : Nat, j ≤ i ∧ v = .int .i64 j ∧ ∀ k, k < j → (Re.clo n F i k && Re.clo n F k i) = false) (fun v => i - (intOf v).toNat)
      case atStart => exact ⟨0, Nat.zero_le _, rfl, fun k hk => absurd hk (Nat.not_lt_zero _)⟩
      case round =>
        obtain ⟨j, hj, rfl, hno⟩ := hrel
        by_cases hlj : j < i
        · have hljn : j < n := Nat.lt_trans hlj hli
          have t1 : ((j : Int) != (i : Int)) = true := by rw [bne_iff_ne]; omega
          have c1 := hgc.out i j hli hljn
          rw [hgv.out i j hli hljn] at c1
          have c2 := hgc.out j i hljn hli
          rw [hgv.out j i hljn hli] at c2
          have q1 := index_lt hli hljn
          have q2 := index_lt hljn hli
          rw [← hNN.out] at q1 q2
          have e1 : ((i : Int) * (n : Int)) = ((i * n : Nat) : Int) := by simp
          have e2 : ((j : Int) * (n : Int)) = ((j * n : Nat) : Int) := by simp
          obtain ⟨p, hp⟩ : ∃ p, p = i * n := ⟨_, rfl⟩
          obtain ⟨q, hq⟩ : ∃ q, q = j * n := ⟨_, rfl⟩
          rw [← hp] at q1 e1 c1
          rw [← hq] at q2 e2 c2
          have j1 : (p : Int) + (j : Int) < (N : Int) := by clear e1 e2; omega
          have j2 : (q : Int) + (i : Int) < (N : Int) := by clear e1 e2; omega
          have pw1 : -9223372036854775808 ≤ (p : Int) ∧ (p : Int) ≤ 9223372036854775807 := by clear e1 e2; omega
          have pw2 : -9223372036854775808 ≤ (q : Int) ∧ (q : Int) ≤ 9223372036854775807 := by clear e1 e2; omega
          have w1' : ∀ m : Nat, m = n → wrap64 ((i : Int) * (m : Int)) = (p : Int) := by rintro m rfl; rw [e1]; exact IntWalk.wrap64_in _ pw1
          have w2' : ∀ m : Nat, m = n → wrap64 ((j : Int) * (m : Int)) = (q : Int) := by rintro m rfl; rw [e2]; exact IntWalk.wrap64_in _ pw2
          clear e1 e2 pw1 pw2
          replace hp := Lib.hid hp
          replace hq := Lib.hid hq
          have hnx : (Re.clo n F i j && Re.clo n F j i) = false → ∀ k, k < j + 1 → (Re.clo n F i k && Re.clo n F k i) = false := fun h k hk => by
            by_cases e : k = j
            · subst e; exact h
            · exact hno k (by omega)
          have hj1 : j + 1 ≤ i := hlj
          have hhit := fun h => Lib.hid (show Re.cname n F i = j from first_hit hlj hno h)
          replace hno := Lib.hid hno
          cases hb1 : Re.clo n F i j
          · have hn1 := Lib.hid (hnx (by rw [hb1]; rfl))
            rw [hb1] at c1
            simp only [Bool.false_eq_true, if_false] at c1
            replace hb1 := Lib.hid hb1
            clear hhit hnx
            go_wp2
            exact ⟨⟨j + 1, hj1, num1 j, hn1.out⟩, meas1 hlj⟩
          · cases hb2 : Re.clo n F j i
            · have hn1 := Lib.hid (hnx (by rw [hb1, hb2]; rfl))
              rw [hb1] at c1
              rw [hb2] at c2
              simp only [Bool.false_eq_true, if_false, if_true] at c1 c2
              replace hb1 := Lib.hid hb1
              replace hb2 := Lib.hid hb2
              clear hhit hnx
              go_wp2
              exact ⟨⟨j + 1, hj1, num1 j, hn1.out⟩, meas1 hlj⟩
            · have hcn := hhit (by rw [hb1, hb2]; rfl)
              rw [hb1] at c1
              rw [hb2] at c2
              simp only [if_true] at c1 c2
              replace hb1 := Lib.hid hb1
              replace hb2 := Lib.hid hb2
              clear hhit hnx
              go_wp2_with (refine app_int2 rfl (.tmp 44) (.tmp 46) rfl B _ (cnUp n F i) (j : Int) rfl hown.out rfl hlen hBs (i + 1) hlk.out ?_; intro a' c' w' ho' hb' hs')
              go_roundw
              case rel => exact ⟨i + 1, hli, num1 i, cnUp_next hcn.out ho', (hb'.block g hgB).trans hg.out, hbel.trans (hb'.mono hwB), by omega⟩
              case measure => exact meas1 hli
        · obtain rfl : j = i := by omega
          have t1 : ((j : Int) != (j : Int)) = false := by simp
          have hcn := Lib.hid (show Re.cname n F j = j from first_none hno)
          replace hno := Lib.hid hno
          go_wp2_with (refine app_int2 rfl (.tmp 44) (.tmp 46) rfl B _ (cnUp n F j) (j : Int) rfl hown.out rfl hlen hBs (j + 1) hlk.out ?_; intro a' c' w' ho' hb' hs')
          go_roundw
          case rel => exact ⟨j + 1, hli, num1 j, cnUp_next hcn.out ho', (hb'.block g hgB).trans hg.out, hbel.trans (hb'.mono hwB), by omega⟩
          case measure => exact meas1 hli
    · obtain rfl : i = n := by omega
      have hv := hown.view
      obtain ⟨av, cv, rfl, -, -, -⟩ := hv
      rw [cnUp_length] at hown
      replace hown := Lib.hid hown
      replace hg := Lib.hid hg
      rw [cnUp_length]
      go_wp2
      go_ret
      exact ⟨_, rfl, hown.out.low hwB, hbel⟩
end Go.Proofs.YtiebknfmmanbiaaDoor
