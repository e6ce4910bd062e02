/- Has a matrix a number in its diagonal and 0 elsewhere: the statements' helper. Condition: at most six rows. -/
import Derived.Test.YtcenhemlgapkeaaDoorPowPlain
import Derived.Test.YtcenhemlgapkeaaDoorInts
import Derived.Test.YtcenhemlgapkeaaDoorBdQ
import Derived.Deep.Cut
namespace Go.Proofs.YtcenhemlgapkeaaDoor
open Go.RowKit

/-- A number in the diagonal, and 0 elsewhere. -/
def diagL (n : Nat) (D : Int) : List Int := (List.range (n * n)).map fun p => if p / n = p % n then D else 0
theorem diagL_length (n : Nat) (D : Int) : (diagL n D).length = n * n := by simp [diagL]
theorem diagL_get {n : Nat} (D : Int) {p : Nat} (hp : p < n * n) : (diagL n D).getD p 0 = if p / n = p % n then D else 0 := by
  rw [List.getD_eq_getElem?_getD]
  simp only [diagL, List.getElem?_map, List.getElem?_range hp, Option.map_some, Option.getD_some]
set_option maxRecDepth 20000 in
set_option maxHeartbeats 4000000 in
theorem diagonal_any (n : Nat) (D : Int) (a b : Option Addr) (m c k z : Nat) (w : World) (hs : Row w a [(n : Int), (n : Int)]) (hd : Row w b (diagL n D)) (hn : n ≤ 6) (em : m = 2) (en : k = n * n) :
    Calls Tryd.prog 41 #[arrV false a m c b k z, .int .i64 (n : Int), .int .i64 D] w fun e w' => e = .returned (.bool true) ∧ Below w.heap.size w w' := by
  subst em
  have hnn := Nat.mul_le_mul hn hn
  obtain ⟨N, hN⟩ : ∃ N, N = n * n := ⟨_, rfl⟩
  rw [← hN] at en hnn
  subst en
  have wN : wrap64 ((n : Int) * (n : Int)) = (k : Int) := by
    have e : ((n : Int) * (n : Int)) = ((n * n : Nat) : Int) := by simp
    rw [e, ← hN]; exact IntWalk.wrap64_in _ (by omega)
  have E := (((Env.start w).addRow hd).addRow hs).box false a 2 c b k z
  have E1 := (E.alloc (.cells #[.int .i64 (n : Int), .int .i64 (n : Int)] 3)).addRow (row_lit _ [(n : Int), (n : Int)] _ _ rfl)
  rw [World.size_alloc] at E1
  have hin := fun w h1 h2 => ints_any a (some ⟨w.heap.size, 0, none⟩) [(n : Int), (n : Int)] [(n : Int), (n : Int)] 2 2 c 2 w h1 h2 (by simp [maxLen]) (by simp [maxLen]) rfl rfl
  clear hin
  have dl := diagL_length n D
  rw [← hN] at dl
  have dg : ∀ p, p < k → (diagL n D).getD p 0 = if p / n = p % n then D else 0 := fun p hp => diagL_get D (by rw [← hN]; exact hp)
  generalize diagL n D = L at *
  obtain ⟨⟨u0, u1, u2⟩, -, -, -⟩ := E.getBox 0 rfl
  have hkk : ((k : Int) != (k : Int)) = false := by simp
  have n6 : (n : Int) ≤ 6 := by omega
  replace dl := Lib.hid dl
  replace dg := Lib.hid dg
  replace hN := Lib.hid hN
  replace wN := Lib.hid wN
  clear E
  go_enter Tryd.func41, Tryd.ntmps41
  go_wp2_with fail
  refine (ints_any a _ [(n : Int), (n : Int)] [(n : Int), (n : Int)] _ _ c _ _ (E1.getRow 2 rfl) (E1.getRow 0 rfl) (by simp [maxLen]) (by simp [maxLen]) rfl rfl).mono ?_
  rintro e w1 ⟨rfl, n1, hw1⟩
  rw [decide_eq_true (rfl : [(n : Int), (n : Int)] = [(n : Int), (n : Int)])]
  have E2 := E1.drew n1
  rw [← hw1] at E2
  replace hw1 := Lib.hid hw1
  clear E1 u0 u1 u2
  obtain ⟨⟨u0, u1, u2⟩, -, -, -⟩ := E2.getBox 1 rfl
  have rd := E2.getRow 3 rfl
  have hbel := E2.bel
  clear E2
  have wN' : ∀ a b : Int, a = (n : Int) → b = (n : Int) → wrap64 (a * b) = (k : Int) := fun a b ha hb => by rw [ha, hb]; exact wN.out
  go_wp2
  go_loopw [8] (fun v wr => ∃ p nd : Nat, p ≤ k ∧ v = .int .i64 p ∧ wr = w1.drewN nd) (fun v _ => k - (intOf v).toNat)
  case atStart => exact ⟨0, 0, Nat.zero_le _, rfl, rfl⟩
  case round =>
    obtain ⟨p, nd, hp, rfl, rfl⟩ := hrel
    by_cases hlt : p < k
    · have hn0 : 0 < n := Nat.pos_of_ne_zero fun h => by subst h; rw [hN.out] at hlt; simp at hlt
      obtain ⟨g, o, rfl, cp⟩ := rd p (by rw [dl.out]; exact hlt)
      rw [dg.out p hlt] at cp
      have hq : (p : Int).tdiv (n : Int) = ((p / n : Nat) : Int) := rfl
      have hq2 : (p : Int) / (n : Int) = ((p / n : Nat) : Int) := rfl
      have hr1 : (p : Int).tmod (n : Int) = ((p % n : Nat) : Int) := rfl
      have hr2 : (p : Int) % (n : Int) = ((p % n : Nat) : Int) := rfl
      have hnz : (n : Int) ≠ 0 := by omega
      have hpl : (p : Int) < ((k : Nat) : Int) := by omega
      have wq0 : ∀ q : Nat, q ≤ p → wrap64 (q : Int) = (q : Int) := fun q h => IntWalk.wrap64_in _ (by omega)
      have wq := wq0 _ (Nat.div_le_self p n)
      clear wq0
      generalize p / n = q at *
      generalize p % n = r at *
      by_cases e : q = r
      · rw [if_pos e] at cp
        have e1 : ((q : Int) == (r : Int)) = true := by rw [beq_iff_eq]; omega
        replace e := Lib.hid e
        have ed : (D != D) = false := by simp
        go_wp2
        go_region
        go_wp2
        go_roundw
        case rel => exact ⟨p + 1, _, by omega, by go_num, rfl⟩
        case measure => simp [intOf]; omega
      · rw [if_neg e] at cp
        have e1 : ((q : Int) == (r : Int)) = false := by rw [beq_eq_false_iff_ne]; omega
        replace e := Lib.hid e
        go_wp2
        go_region
        go_wp2
        go_roundw
        case rel => exact ⟨p + 1, _, by omega, by go_num, rfl⟩
        case measure => simp [intOf]; omega
    · obtain rfl : p = k := by omega
      go_wp2
      go_ret
      exact ⟨rfl, below_drewN hbel _⟩

theorem held7 {w w' : World} {A B C A' B' C' D : Addr} {a b c a' b' c' d : Value} (hb : Below w.heap.size w w')
    (h : (w.cell? A = some a ∧ w.cell? B = some b ∧ w.cell? C = some c) ∧ (w.cell? A' = some a' ∧ w.cell? B' = some b' ∧ w.cell? C' = some c') ∧ w.cell? D = some d) :
    (w'.cell? A = some a ∧ w'.cell? B = some b ∧ w'.cell? C = some c) ∧ (w'.cell? A' = some a' ∧ w'.cell? B' = some b' ∧ w'.cell? C' = some c') ∧ w'.cell? D = some d :=
  have k : ∀ {x : Addr} {v : Value}, w.cell? x = some v → w'.cell? x = some v := fun h => (hb.cell (World.block_lt_of_cell? w _ h)).trans h
  ⟨⟨k h.1.1, k h.1.2.1, k h.1.2.2⟩, ⟨k h.2.1.1, k h.2.1.2.1, k h.2.1.2.2⟩, k h.2.2⟩


end Go.Proofs.YtcenhemlgapkeaaDoor
