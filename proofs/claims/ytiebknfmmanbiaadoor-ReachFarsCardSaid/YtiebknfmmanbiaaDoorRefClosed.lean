/- The document's Closed: a step more each time. Condition: a matrix of 0 and 1 of at most 24 rows, in a row of ints. -/
import Derived.Test.YtiebknfmmanbiaaDoorClPlain
import Derived.Test.YtiebknfmmanbiaaDoorWkClose
import Derived.Test.YtiebknfmmanbiaaDoorInBlk
import Derived.Deep.Cut
import Derived.Deep.CutRange
namespace Go.Proofs.YtiebknfmmanbiaaDoor
open Go.RowKit

/-- The next round's cells, the first q of them. -/
def nxC (n : Nat) (G : Nat → Nat → Bool) (q : Nat) : List Int := (List.range (n * n)).map fun p => if p < q ∧ G (p / n) (p % n) = true then 1 else 0
theorem nxC_length (n : Nat) (G : Nat → Nat → Bool) (q : Nat) : (nxC n G q).length = n * n := by simp [nxC]
theorem nxC_zero (n : Nat) (G : Nat → Nat → Bool) : nxC n G 0 = List.replicate (n * n) 0 := by
  apply List.ext_getElem <;> simp [nxC]
theorem nxC_all (n : Nat) (G : Nat → Nat → Bool) : nxC n G (n * n) = relCells n G := by
  unfold nxC relCells
  refine List.map_congr_left fun p hp => ?_
  have hp := List.mem_range.1 hp
  simp [hp]
theorem nxC_step {n : Nat} {G : Nat → Nat → Bool} {i j : Nat} (hi : i < n) (hj : j < n) : (G i j = true → (nxC n G (i * n + j)).set (i * n + j) 1 = nxC n G (i * n + j + 1)) ∧ (G i j = false → nxC n G (i * n + j) = nxC n G (i * n + j + 1)) := by
  obtain ⟨h1, h2⟩ := (at_index (p := i * n + j) (i := i) hj).1 rfl
  constructor
  · intro h
    apply List.ext_getElem
    · simp [nxC]
    · intro p q1 q2
      rw [List.getElem_set]
      simp only [nxC, List.getElem_map, List.getElem_range]
      by_cases e : i * n + j = p
      · subst e
        rw [if_pos rfl, ← h1, ← h2, if_pos ⟨by omega, h⟩]
      · rw [if_neg e]
        have : (p < i * n + j ∧ G (p / n) (p % n) = true) = (p < i * n + j + 1 ∧ G (p / n) (p % n) = true) := propext (by constructor <;> (rintro ⟨a, b⟩; exact ⟨by omega, b⟩))
        simp only [this]
  · intro h
    unfold nxC
    refine List.map_congr_left fun p hp => ?_
    by_cases e : i * n + j = p
    · subst e
      rw [← h1, ← h2, h]
      simp
    · have : (p < i * n + j ∧ G (p / n) (p % n) = true) = (p < i * n + j + 1 ∧ G (p / n) (p % n) = true) := propext (by constructor <;> (rintro ⟨a, b⟩; exact ⟨by omega, b⟩))
      simp only [this]
theorem any_succ (k : Nat) (P : Nat → Bool) : (List.range (k + 1)).any P = ((List.range k).any P || P k) := by
  rw [List.range_succ, List.any_append]; simp
theorem room_cells (N : Nat) : zeroCells N = cellsOf (List.replicate N 0) := by simp [zeroCells, cellsOf]

/-- What a call leaves that tells a list of its own, in a block known whole. -/
def BlockPost (N : Nat) (ys : List Int) (w : World) (e : Ending) (w' : World) : Prop :=
  ∃ g, e = .returned (.slice (some ⟨g, 0, none⟩) N N) ∧ w'.heap[g]? = some (.cells (cellsOf ys) 3 (0, 0)) ∧ w.heap.size ≤ g ∧ Below w.heap.size w w'

theorem meas1 {n k : Nat} (h : k < n) : n - (intOf (Value.int .i64 ((k : Int) + 1))).toNat < n - (intOf (Value.int .i64 (k : Int))).toNat := by simp [intOf]; omega
theorem num1 (k : Nat) : Value.int .i64 ((k : Int) + 1) = Value.int .i64 ((k + 1 : Nat) : Int) := rfl

set_option maxRecDepth 20000 in
set_option maxHeartbeats 16000000 in
theorem refClosed_any (n : Nat) (F : Nat → Nat → Bool) (b : Option Addr) (d : List Int) (m z : Nat) (w : World) (hd : Row w b d) (hn : n ≤ 24) (hl : d.length = n * n) (hF : ∀ i j, i < n → j < n → (d.getD (i * n + j) 0 == 1) = F i j) (em : m = d.length) :
    Calls Tryd.prog 46 #[.int .i64 (n : Int), .slice b m z] w (BlockPost (n * n) (relCells n (Re.clo n F)) w) := by
  have hnn : n * n ≤ 24 * 24 := Nat.mul_le_mul hn hn
  obtain ⟨N, hNN⟩ : ∃ N, N = n * n := ⟨_, rfl⟩
  rw [← hNN] at hnn ⊢
  have N1 : N ≤ 576 := hnn
  have hmk := fun W => run_make_ints N (by omega) W
  have wN : wrap64 ((n : Int) * (n : Int)) = (N : Int) := by
    have : ((n : Int) * (n : Int)) = ((n * n : Nat) : Int) := by simp
    rw [this, ← hNN]; exact IntWalk.wrap64_in _ (by omega)
  have hdl : d.length = N := by rw [hl, ← hNN]
  subst em
  rw [hdl]
  clear hnn hl
  replace hF := Lib.hid hF
  replace hNN := Lib.hid hNN
  replace hdl := Lib.hid hdl
  go_enter Tryd.func46, Tryd.ntmps46
  go_wp2
  replace wN := Lib.hid wN
  have hb0 := push (start w) (.cells (zeroCells N) 3)
  have e0 : zeroCells N = cellsOf (relCells n (Re.cl n F 0)) := by
    rw [room_cells, hNN.out, ← nxC_zero n fun _ _ => false]
    unfold nxC relCells
    refine congrArg cellsOf ?_
    exact List.map_congr_left fun p _ => by simp [Re.cl]
  have h0 : (w.alloc (.cells (zeroCells N) 3)).heap[w.heap.size]? = some (.cells (cellsOf (relCells n (Re.cl n F 0))) 3 (0, 0)) := by rw [heap_alloc_new, e0]
  generalize hwa : w.alloc (.cells (zeroCells N) 3) = wa at *
  replace hwa := Lib.hid hwa
  replace e0 := Lib.hid e0
  go_loopw [5, 6] (fun v5 v6 wr => ∃ (t g : Nat), t ≤ n ∧ v6 = .int .i64 t ∧ v5 = .slice (some ⟨g, 0, none⟩) N N ∧ wr.heap[g]? = some (.cells (cellsOf (relCells n (Re.cl n F t))) 3 (0, 0)) ∧ w.heap.size ≤ g ∧ Below w.heap.size w wr) (fun _ v _ => n - (intOf v).toNat)
  case atStart => exact ⟨0, w.heap.size, Nat.zero_le _, rfl, rfl, h0, Nat.le_refl _, hb0⟩
  case round =>
    clear h0 hb0
    obtain ⟨t, g, ht, rfl, rfl, hg, hwg, hbel⟩ := hrel
    by_cases hlt : t < n
    · have h1 : (wr.alloc (.cells (zeroCells N) 3)).heap[wr.heap.size]? = some (.cells (cellsOf (nxC n (Re.cl n F (t + 1)) 0)) 3 (0, 0)) := by rw [heap_alloc_new, room_cells, hNN.out, nxC_zero]
      have hg1 := (heap_alloc_old wr (.cells (zeroCells N) 3) (lt_of_some hg)).trans hg
      have hb1 := push hbel (.cells (zeroCells N) 3)
      have hgl := lt_of_some hg
      have hwl : w.heap.size ≤ wr.heap.size := hbel.size
      replace hg := Lib.hid hg
      have wN' := wN.out
      go_wp2
      clear wN'
      generalize hwo : wr.alloc (.cells (zeroCells N) 3) = wo at *
      replace hwo := Lib.hid hwo
      generalize hh : wr.heap.size = h at *
      replace hh := Lib.hid hh
      rename World => wr0
      go_loopw [8] (fun v wr => ∃ (i : Nat), i ≤ n ∧ v = .int .i64 i ∧ wr.heap[h]? = some (.cells (cellsOf (nxC n (Re.cl n F (t + 1)) (i * n))) 3 (0, 0)) ∧ wr.heap[g]? = some (.cells (cellsOf (relCells n (Re.cl n F t))) 3 (0, 0)) ∧ Below w.heap.size w wr) (fun v _ => n - (intOf v).toNat)
      case atStart => exact ⟨0, Nat.zero_le _, rfl, by rw [Nat.zero_mul]; exact h1, hg1, hb1⟩
      case round =>
        clear h1 hg1 hb1
        obtain ⟨i, hi, rfl, hh1, hg1, hb1⟩ := hrel
        by_cases hli : i < n
        · go_wp2
          rename World => wr1
          go_loopw [9] (fun v wr => ∃ (j : Nat), j ≤ n ∧ v = .int .i64 j ∧ wr.heap[h]? = some (.cells (cellsOf (nxC n (Re.cl n F (t + 1)) (i * n + j))) 3 (0, 0)) ∧ wr.heap[g]? = some (.cells (cellsOf (relCells n (Re.cl n F t))) 3 (0, 0)) ∧ Below w.heap.size w wr) (fun v _ => n - (intOf v).toNat)
          case atStart => exact ⟨0, Nat.zero_le _, rfl, hh1, hg1, hb1⟩
          case round =>
            clear hh1 hg1 hb1
            obtain ⟨j, hj, rfl, hh2, hg2, hb2⟩ := hrel
            by_cases hlj : j < n
            · have q1 := index_lt hli hlj
              have e1 : ((i : Int) * (n : Int)) = ((i * n : Nat) : Int) := by simp
              obtain ⟨s1, s2⟩ := nxC_step (G := Re.cl n F (t + 1)) hli hlj
              have hFij := hF.out i j hli hlj
              have c2 := block_cell hg2 (k := i * n + j) (by rw [relCells_length]; exact q1)
              rw [relCells_get _ hli hlj] at c2
              have c3 := block_cell hh2 (k := i * n + j) (by rw [nxC_length]; exact q1)
              have f3 := frozen_of_row wr h (i * n + j) _ 3 hh2
              have hset := block_set hh2 (i * n + j) 1
              obtain ⟨bd, od, rfl, c1⟩ := hd.below hb2 (i * n + j) (by rw [hdl.out, hNN.out]; exact q1)
              have hbs := hb2.setCell (p := ⟨h, i * n + j, none⟩) (by show w.heap.size ≤ h; exact hwl) (.int .i64 1)
              have hgs := (heap_setCell_other wr ⟨h, i * n + j, none⟩ g (.int .i64 1) (by show g ≠ h; omega)).trans hg2
              have hdrow : Row wr (some ⟨bd, od, none⟩) d := hd.below hb2
              have hgc := fun k (hk : k < n) => block_cell hg2 (k := k * n + j) (by rw [relCells_length]; exact index_lt hk hlj)
              have hgc' := fun k (hk : k < n) => relCells_get (Re.cl n F t) hk hlj
              rw [← hNN.out] at q1
              obtain ⟨p, hp⟩ : ∃ p, p = i * n := ⟨_, rfl⟩
              rw [← hp] at q1 e1 s1 s2 hFij c2 c3 f3 hset c1 hbs hgs
              rw [show (nxC n (Re.cl n F (t + 1)) (i * n + j)) = nxC n (Re.cl n F (t + 1)) (p + j) by rw [hp]] at hh2
              have p1 : p ≤ 576 := by omega
              have i1 : (p : Int) + (j : Int) < (N : Int) := by omega
              have i2 : p + j < N := q1
              have pw : -9223372036854775808 ≤ (p : Int) ∧ (p : Int) ≤ 9223372036854775807 := by omega
              have w1 : ∀ m : Nat, m = n → wrap64 ((i : Int) * (m : Int)) = (p : Int) := by rintro m rfl; rw [e1]; exact IntWalk.wrap64_in _ pw
              clear e1 pw
              have hFd := hF.out
              have hdl' := hdl.out
              replace hset := Lib.hid hset
              replace hgs := Lib.hid hgs
              replace hh2 := Lib.hid hh2
              replace hg2 := Lib.hid hg2
              replace s1 := Lib.hid s1
              replace s2 := Lib.hid s2
              replace hgc := Lib.hid hgc
              replace hgc' := Lib.hid hgc'
              replace hFd := Lib.hid hFd
              replace hdl' := Lib.hid hdl'
              replace hp := Lib.hid hp
              go_upto_region 12 with fail
              go_cut [10] from 35 to 54 (fun s10 wx => wx = wr ∧ s10 = .bool (F i j || Re.cl n F t i j))
              case first =>
                clear c3 f3
                generalize d.getD (p + j) 0 = x at *
                cases hb1 : F i j <;> cases hb2' : Re.cl n F t i j
                all_goals
                  rw [hb1] at hFij
                  rw [hb2'] at c2
                  simp only [if_true, Bool.false_eq_true, if_false] at c2
                  replace hb1 := Lib.hid hb1
                  replace hb2' := Lib.hid hb2'
                  go_wp2
                  go_meet
                  case rel => exact ⟨rfl, by rw [hb1.out, hb2'.out]; rfl⟩
              case rest =>
                obtain ⟨rfl, rfl⟩ := hcut
                clear c1 c2 hFij
                go_wp2
                go_loop [10, 11] (fun v10 v11 => ∃ k : Nat, k ≤ n ∧ v11 = .int .i64 k ∧ v10 = .bool ((F i j || Re.cl n F t i j) || (List.range k).any fun k => F i k && Re.cl n F t k j)) (fun _ v => n - (intOf v).toNat)
                case atStart => exact ⟨0, Nat.zero_le _, rfl, by simp⟩
                case round =>
                  obtain ⟨k, hk, rfl, rfl⟩ := hrel
                  by_cases hlk : k < n
                  · have hFik := hF.out i k hli hlk
                    have q2 := index_lt hli hlk
                    have q3 := index_lt hlk hlj
                    have ck := hgc.out k hlk
                    rw [hgc'.out k hlk] at ck
                    rw [← hNN.out] at q2 q3
                    rw [← hp.out] at q2 hFik
                    obtain ⟨bd', od', ee, cdk⟩ := hdrow (p + k) (by rw [hdl.out]; exact q2)
                    cases ee
                    have e2 : ((k : Int) * (n : Int)) = ((k * n : Nat) : Int) := by simp
                    obtain ⟨q, hq⟩ : ∃ q, q = k * n := ⟨_, rfl⟩
                    rw [← hq] at q3 e2 ck
                    have hany := any_succ k fun k => F i k && Re.cl n F t k j
                    generalize hA : (List.range k).any (fun k => F i k && Re.cl n F t k j) = A at *
                    generalize d.getD (p + k) 0 = y at *
                    have p2 : q ≤ 576 := by clear w1; omega
                    have j1 : (p : Int) + (k : Int) < (N : Int) := by clear w1; omega
                    have j2 : (q : Int) + (j : Int) < (N : Int) := by clear w1; omega
                    have pw : -9223372036854775808 ≤ (q : Int) ∧ (q : Int) ≤ 9223372036854775807 := by clear w1; omega
                    have w2 : ∀ m : Nat, m = n → wrap64 ((k : Int) * (m : Int)) = (q : Int) := by rintro m rfl; rw [e2]; exact IntWalk.wrap64_in _ pw
                    clear e2 pw
                    replace hq := Lib.hid hq
                    replace hA := Lib.hid hA
                    have hk1 : k + 1 ≤ n := hlk
                    cases hb1 : F i k
                    · rw [hb1] at hFik
                      rw [hb1, Bool.false_and, Bool.or_false] at hany
                      replace hany := Lib.hid hany
                      replace hb1 := Lib.hid hb1
                      go_wp2
                      exact ⟨⟨k + 1, hk1, num1 k, by rw [hany.out]⟩, meas1 hlk⟩
                    · rw [hb1] at hFik
                      rw [hb1, Bool.true_and] at hany
                      replace hb1 := Lib.hid hb1
                      cases hb2' : Re.cl n F t k j
                      · rw [hb2', Bool.or_false] at hany
                        rw [hb2'] at ck
                        simp only [Bool.false_eq_true, if_false] at ck
                        replace hany := Lib.hid hany
                        replace hb2' := Lib.hid hb2'
                        go_wp2
                        exact ⟨⟨k + 1, hk1, num1 k, by rw [hany.out]⟩, meas1 hlk⟩
                      · rw [hb2', Bool.or_true] at hany
                        rw [hb2'] at ck
                        simp only [if_true] at ck
                        replace hany := Lib.hid hany
                        replace hb2' := Lib.hid hb2'
                        go_wp2
                        exact ⟨⟨k + 1, hk1, num1 k, by rw [hany.out, Bool.or_true]⟩, meas1 hlk⟩
                  · obtain rfl : k = n := by clear w1; omega
                    rw [show ((F i j || Re.cl k F t i j) || (List.range k).any fun k_1 => F i k_1 && Re.cl k F t k_1 j) = Re.cl k F (t + 1) i j from rfl]
                    have hj1 : j + 1 ≤ k := hlj
                    cases hG : Re.cl k F (t + 1) i j with
                    | true =>
                      have s1' := Lib.hid (s1.out hG)
                      replace hG := Lib.hid hG
                      go_wp2
                      go_roundw
                      case rel => exact ⟨j + 1, hj1, num1 j, by rw [← hp.out, ← Nat.add_assoc, ← s1'.out]; exact hset.out, hgs.out, hbs⟩
                      case measure => exact meas1 hlj
                    | false =>
                      have s2' := Lib.hid (s2.out hG)
                      replace hG := Lib.hid hG
                      go_wp2
                      go_roundw
                      case rel => exact ⟨j + 1, hj1, num1 j, by rw [← hp.out, ← Nat.add_assoc, ← s2'.out]; exact hh2.out, hg2.out, hb2⟩
                      case measure => exact meas1 hlj
            · obtain rfl : j = n := by omega
              go_wp2
              go_roundw
              case rel => exact ⟨i + 1, by omega, by go_num, by rw [Nat.add_mul, Nat.one_mul]; exact hh2, hg2, hb2⟩
              case measure => simp [intOf]; omega
        · obtain rfl : i = n := by omega
          rw [nxC_all] at hh1
          go_wp2
          go_roundw
          case rel => exact ⟨t + 1, h, by omega, by go_num, rfl, hh1, by exact hwl, hb1⟩
          case measure => simp [intOf]; omega
    · obtain rfl : t = n := by omega
      have hcl : relCells t (Re.cl t F t) = relCells t (Re.clo t F) := by
        unfold relCells
        refine List.map_congr_left fun p hp => ?_
        have hp := List.mem_range.1 hp
        have hn0 : 0 < t := Nat.pos_of_ne_zero fun h0 => by subst h0; simp at hp
        rw [Re.cl_all (Nat.div_lt_of_lt_mul hp) (Nat.mod_lt _ hn0)]
      rw [hcl] at hg
      replace hg := Lib.hid hg
      replace hcl := Lib.hid hcl
      go_wp2
      go_ret
      exact ⟨g, rfl, hg.out, hwg, hbel⟩
end Go.Proofs.YtiebknfmmanbiaaDoor
