/- The walk of the law ProdLines: it returns true at all functions and arrays. No condition. -/
import Derived.Test.YtfnoalbnkbifmaaWkInnAny
import Derived.Test.YtfnoalbnkbifmaaWkEach
import Derived.Test.YtfnoalbnkbifmaaLinesPlain
import Derived.Test.YtfnoalbnkbifmaaWkReduce0
import Derived.Test.YtfnoalbnkbifmaaWkLawVec
import Derived.Test.YtfnoalbnkbifmaaBdE
import Derived.Test.YtfnoalbnkbifmaaWkArr
import Derived.Test.YtfnoalbnkbifmaaBdO
namespace Go.Proofs.Ytfnoalbnkbifmaa
open Go.RowKit

theorem lines_fact : M.inner 1 8 ⟨false, [3], [1, 2, 3]⟩ ⟨false, [3], [1, 0, 3]⟩ = .ok ⟨false, [], [2]⟩ := by kernel_rfl
theorem one_axis {ch : Bool} {s d : List Int} (h : M.flaw ch s d = 0) (hl : s.length = 1) : ∃ P : Nat, s = [(P : Int)] := by
  obtain ⟨q, c, -⟩ := flaw_parts h
  obtain ⟨-, a2, -⟩ := M.count_ok c
  match s, hl with
  | [x], _ => exact ⟨x.toNat, by have := a2 x (by simp); rw [Int.toNat_of_nonneg this.1]⟩
theorem P4 {ch : Bool} {s d : List Int} {P : Nat} (h : M.flaw ch s d = 0) (hs : s = [(P : Int)]) : P ≤ 4096 := by
  obtain ⟨q, c, -⟩ := flaw_parts h
  obtain ⟨-, a2, -⟩ := M.count_ok c
  have := a2 (P : Int) (by rw [hs]; simp)
  omega
theorem line_flaw {ch : Bool} {s d l : List Int} {P : Nat} (h : M.flaw ch s d = 0) (hs : s = [(P : Int)]) (hl : l.length = P) : M.flaw false ([] ++ [(P : Int)]) l = 0 := by
  obtain ⟨q, c, -⟩ := flaw_parts h
  rw [hs] at c
  refine flaw_num (n := q) c ?_
  obtain ⟨-, -, a3, -⟩ := M.count_ok c
  have : M.prod [(P : Int)] = P := by simp [M.prod]
  rw [hl]; omega

set_option maxRecDepth 20000 in
set_option maxHeartbeats 16000000 in
theorem prodLines_walk (a0 : Int) (a1 : Int) (b2 : Bool) (p2 q2 : Option Addr) (x2 y2 : List Int) (c2 d2 : Nat) (b3 : Bool) (p3 q3 : Option Addr) (x3 y3 : List Int) (c3 d3 : Nat) (w : World) (w0 : I64 a0) (w1 : I64 a1) (r2 : Row w p2 x2) (s2 : Row w q2 y2) (l2 : x2.length ≤ maxLen) (m2 : y2.length ≤ maxLen) (n2 : All64 x2) (o2 : All64 y2) (cu2 : x2.length ≤ c2) (cz2 : y2.length ≤ d2) (r3 : Row w p3 x3) (s3 : Row w q3 y3) (l3 : x3.length ≤ maxLen) (m3 : y3.length ≤ maxLen) (n3 : All64 x3) (o3 : All64 y3) (cu3 : x3.length ≤ c3) (cz3 : y3.length ≤ d3) :
    Calls Try.prog 3 #[.int .i64 a0, .int .i64 a1, arrV b2 p2 x2.length c2 q2 y2.length d2, arrV b3 p3 x3.length c3 q3 y3.length d3] w fun e w' => e = .returned (.bool true) ∧ Below w.heap.size w w' := by
  have E := (((((((Env.start w).addRow s3).addRow r3).addRow s2).addRow r2).box b2 p2 x2.length c2 q2 y2.length d2).box b3 p3 x3.length c3 q3 y3.length d3)
  replace E := (E.alloc (.cells #[.int .i64 1, .int .i64 2, .int .i64 3] 3)).addRow (row_lit _ [1, 2, 3] _ _ rfl)
  try simp only [World.size_alloc] at E
  have hin := Lib.hid lines_fact
  have hun := Lib.hid (fun h => reduce_unknown a0 h)
  replace l2 := Lib.hid l2
  replace m2 := Lib.hid m2
  replace n2 := Lib.hid n2
  replace o2 := Lib.hid o2
  replace cu2 := Lib.hid cu2
  replace cz2 := Lib.hid cz2
  clear r2
  clear s2
  replace l3 := Lib.hid l3
  replace m3 := Lib.hid m3
  replace n3 := Lib.hid n3
  replace o3 := Lib.hid o3
  replace cu3 := Lib.hid cu3
  replace cz3 := Lib.hid cz3
  clear r3
  clear s3
  clear w0 w1
  go_enter Try.func3, Try.ntmps3
  go_wp2_with fail
  refine (lawVec_any _ [1, 2, 3] _ _ _ (E.getRow 0 rfl) (by simp) rfl).mono ?_
  rintro e v1 ⟨ap, ep, kp, rfl, ra, rb, hb⟩
  dsimp only [List.length_cons, List.length_nil, Nat.reduceAdd] at ra rb ⊢
  replace E := (((E.step hb).drop1).addRow rb).addRow ra
  clear ra rb hb
  replace E := (E.alloc (.cells #[.int .i64 1, .int .i64 0, .int .i64 3] 3)).addRow (row_lit _ [1, 0, 3] _ _ rfl)
  try simp only [World.size_alloc] at E
  go_wp2_with fail
  refine (lawVec_any _ [1, 0, 3] _ _ _ (E.getRow 0 rfl) (by simp) rfl).mono ?_
  rintro e v2 ⟨aq, eq, kq, rfl, ra, rb, hb⟩
  dsimp only [List.length_cons, List.length_nil, Nat.reduceAdd] at ra rb ⊢
  replace E := (((E.step hb).drop1).addRow rb).addRow ra
  clear ra rb hb
  go_wp2_with fail
  refine (inner_any 1 8 false false ap ep aq eq [3] [1, 2, 3] [3] [1, 0, 3] 1 1 3 kp 1 1 3 kq _ (E.getRow 2 rfl) (E.getRow 3 rfl) (by simp [maxLen]) (by simp [maxLen]) (by intro x hx; simp at hx; unfold I64; omega) (by simp) rfl rfl (E.getRow 0 rfl) (E.getRow 1 rfl) (by simp [maxLen]) (by simp [maxLen]) (by intro x hx; simp at hx; unfold I64; omega) (by simp) rfl rfl).mono ?_
  intro e v3 hp
  obtain ⟨af, cf, ef, kf, rfl, ra, rb, -, -, -, hb⟩ := hp.is_ok hin.out
  clear hp
  dsimp only [List.length_cons, List.length_nil, Nat.reduceAdd] at ra rb ⊢
  obtain ⟨bf, of', rfl, hcf⟩ := rb.alloc (.cells #[.bool false, .slice af 0 cf, .slice ef 1 kf] 25) 0 (by simp)
  replace E := (((((E.drop1).drop1).drop1).drop1).step hb).box false af 0 cf (some ⟨bf, of', none⟩) 1 kf
  simp only [List.getD_cons_zero, Nat.add_zero] at hcf
  clear ra rb hb
  obtain ⟨⟨u0, u1, u2⟩, -, -, -⟩ := E.getBox 0 rfl
  obtain ⟨⟨t0, t1, t2⟩, -, -, -⟩ := E.getBox 2 rfl
  obtain ⟨⟨v0, v1, v2⟩, -, -, -⟩ := E.getBox 1 rfl
  go_wp2_with fail
  refine (ints_any p2 p3 x2 x3 _ _ c2 c3 _ (E.getRow 3 rfl) (E.getRow 5 rfl) l2.out l3.out rfl rfl).mono ?_
  rintro e v4 ⟨rfl, n4, hv4⟩
  replace E := E.drew n4
  rw [← hv4] at E
  replace hv4 := Lib.hid hv4
  clear hcf
  clear u0 u1 u2 t0 t1 t2 v0 v1 v2
  replace E := E.drop1
  obtain ⟨sh, hsh⟩ : ∃ sh, sh = decide (x2 = x3) := ⟨_, rfl⟩
  rw [← hsh]
  replace hsh := Lib.hid hsh
  obtain ⟨⟨u0, u1, u2⟩, -, -, -⟩ := E.getBox 1 rfl
  go_wp2_with fail
  refine (check_any b2 p2 q2 x2 y2 _ c2 _ d2 _ (E.getRow 2 rfl) (E.getRow 3 rfl) l2.out m2.out rfl rfl).mono ?_
  rintro e v5 ⟨rfl, hb⟩
  replace E := E.step hb
  clear hb
  clear u0 u1 u2
  by_cases f1 : M.flaw b2 x2 y2 = 0
  case neg =>
    rw [errV_ne f1]
    have hbel := E.bel
    replace f1 := Lib.hid f1
    clear E
    go_wp2
    go_ret
    exact ⟨rfl, hbel⟩
  rw [f1, errV_zero]
  replace f1 := Lib.hid f1
  obtain ⟨⟨u0, u1, u2⟩, -, -, -⟩ := E.getBox 0 rfl
  go_wp2_with fail
  refine (check_any b3 p3 q3 x3 y3 _ c3 _ d3 _ (E.getRow 4 rfl) (E.getRow 5 rfl) l3.out m3.out rfl rfl).mono ?_
  rintro e v6 ⟨rfl, hb⟩
  replace E := E.step hb
  clear hb
  clear u0 u1 u2
  by_cases f2 : M.flaw b3 x3 y3 = 0
  case neg =>
    rw [errV_ne f2]
    have hbel := E.bel
    replace f2 := Lib.hid f2
    clear E
    go_wp2
    go_ret
    exact ⟨rfl, hbel⟩
  rw [f2, errV_zero]
  replace f2 := Lib.hid f2
  by_cases hL1 : x2.length = 1
  case neg =>
    have t0 : (((x2.length : Nat) : Int) != 1) = true := by rw [bne_iff_ne]; omega
    have hbel := E.bel
    replace hL1 := Lib.hid hL1
    obtain ⟨⟨u0, u1, u2⟩, -, -, -⟩ := E.getBox 1 rfl
    clear E
    go_wp2
    go_ret
    exact ⟨rfl, hbel⟩
  have t0 : (((x2.length : Nat) : Int) != 1) = false := by rw [hL1]; rfl
  replace hL1 := Lib.hid hL1
  by_cases hxx : x2 = x3
  case neg =>
    have s0 : sh = false := by rw [hsh.out]; exact decide_eq_false hxx
    subst s0
    have hbel := E.bel
    replace hxx := Lib.hid hxx
    obtain ⟨⟨u0, u1, u2⟩, -, -, -⟩ := E.getBox 1 rfl
    clear E
    go_wp2
    go_ret
    exact ⟨rfl, hbel⟩
  have s0 : sh = true := by rw [hsh.out]; exact decide_eq_true hxx
  subst s0
  clear hsh
  obtain ⟨P, hPx⟩ : ∃ P : Nat, x2 = [(P : Int)] := one_axis f1.out hL1.out
  have hIs := lines_is a0 a1 ⟨b2, x2, y2⟩ ⟨b3, x3, y3⟩ P f1.out f2.out hPx (hxx ▸ hPx) o2.out o3.out
  replace hPx := Lib.hid hPx
  replace hxx := Lib.hid hxx
  rcases hIs with ⟨e1, e2, hE, hI⟩ | ⟨l, hE, hl, hl64, ⟨hf, e2, hI⟩ | ⟨hf, ⟨e3, e2, hR, hI⟩ | ⟨u, hR, hI⟩⟩⟩
  case inl =>
    replace hE := Lib.hid hE
    replace hI := Lib.hid hI
    obtain ⟨⟨u0, u1, u2⟩, -, -, -⟩ := E.getBox 1 rfl
    obtain ⟨⟨t0, t1, t2⟩, -, -, -⟩ := E.getBox 0 rfl
    go_wp2_with fail
    refine (inner_any a0 a1 b2 b3 p2 q2 p3 q3 x2 y2 x3 y3 _ c2 _ d2 _ c3 _ d3 _ (E.getRow 2 rfl) (E.getRow 3 rfl) l2.out m2.out o2.out cu2.out rfl rfl (E.getRow 4 rfl) (E.getRow 5 rfl) l3.out m3.out o3.out cu3.out rfl rfl).mono ?_
    intro e v7 hp
    obtain ⟨rfl, hb⟩ := hp.is_error hI.out
    clear hp
    clear u0 u1 u2 t0 t1 t2
    replace E := (((E.step hb).addRow (Row.nil _ none)).addRow (Row.nil _ none)).box false none 0 0 none 0 0
    clear hb
    obtain ⟨⟨u0, u1, u2⟩, -, -, -⟩ := E.getBox 4 rfl
    obtain ⟨⟨t0, t1, t2⟩, -, -, -⟩ := E.getBox 3 rfl
    go_wp2_with fail
    refine (each2_any a1 b2 b3 p2 q2 p3 q3 x2 y2 x3 y3 _ c2 _ d2 _ c3 _ d3 _ (E.getRow 5 rfl) (E.getRow 6 rfl) l2.out m2.out o2.out rfl rfl (E.getRow 7 rfl) (E.getRow 8 rfl) l3.out m3.out o3.out rfl rfl).mono ?_
    intro e v8 hp
    obtain ⟨rfl, hb⟩ := hp.is_error hE.out
    clear hp
    clear u0 u1 u2 t0 t1 t2
    replace E := (((E.step hb).addRow (Row.nil _ none)).addRow (Row.nil _ none)).box false none 0 0 none 0 0
    clear hb
    have hbel := E.bel
    clear E
    go_wp2
    go_ret
    exact ⟨rfl, hbel⟩
  case inr.inl =>
    replace hE := Lib.hid hE
    replace hI := Lib.hid hI
    replace hl64 := Lib.hid hl64
    replace hl := Lib.hid hl
    have hu := fun ch a b m c n z w => hun.out hf 0 ch a b m c n z w
    replace hu := Lib.hid hu
    replace hf := Lib.hid hf
    obtain ⟨⟨u0, u1, u2⟩, -, -, -⟩ := E.getBox 1 rfl
    obtain ⟨⟨t0, t1, t2⟩, -, -, -⟩ := E.getBox 0 rfl
    go_wp2_with fail
    refine (inner_any a0 a1 b2 b3 p2 q2 p3 q3 x2 y2 x3 y3 _ c2 _ d2 _ c3 _ d3 _ (E.getRow 2 rfl) (E.getRow 3 rfl) l2.out m2.out o2.out cu2.out rfl rfl (E.getRow 4 rfl) (E.getRow 5 rfl) l3.out m3.out o3.out cu3.out rfl rfl).mono ?_
    intro e v9 hp
    obtain ⟨rfl, hb⟩ := hp.is_error hI.out
    clear hp
    clear u0 u1 u2 t0 t1 t2
    replace E := (((E.step hb).addRow (Row.nil _ none)).addRow (Row.nil _ none)).box false none 0 0 none 0 0
    clear hb
    obtain ⟨⟨u0, u1, u2⟩, -, -, -⟩ := E.getBox 4 rfl
    obtain ⟨⟨t0, t1, t2⟩, -, -, -⟩ := E.getBox 3 rfl
    go_wp2_with fail
    refine (each2_any a1 b2 b3 p2 q2 p3 q3 x2 y2 x3 y3 _ c2 _ d2 _ c3 _ d3 _ (E.getRow 5 rfl) (E.getRow 6 rfl) l2.out m2.out o2.out rfl rfl (E.getRow 7 rfl) (E.getRow 8 rfl) l3.out m3.out o3.out rfl rfl).mono ?_
    intro e v10 hp
    have ly : Hid (l.length ≤ maxLen) := Lib.hid (by rw [hl.out]; have := P4 f1.out hPx.out; unfold maxLen; omega)
    obtain ⟨aY, cY, eY, kY, rfl, ra, rb, -, -, hcY, hb⟩ := hp.is_ok hE.out
    clear hp
    clear u0 u1 u2 t0 t1 t2
    dsimp only [List.length_cons, List.length_nil, Nat.reduceAdd] at ra rb hcY ⊢
    have lt_boxX_boxY := ((E.step hb).getBox 0 rfl).lt
    have lt_boxB_boxY := ((E.step hb).getBox 3 rfl).lt
    have lt_boxA_boxY := ((E.step hb).getBox 4 rfl).lt
    replace E := (((E.step hb).addRow rb).addRow ra).box false aY 1 cY eY l.length kY
    clear ra rb hb
    obtain ⟨⟨u0, u1, u2⟩, -, -, -⟩ := E.getBox 0 rfl
    go_wp2_with fail
    refine (hu.out _ _ _ _ _ _ _ _).mono ?_
    intro e v11 hp
    obtain ⟨rfl, hb⟩ := hp.is_error rfl
    clear hp
    clear u0 u1 u2
    have E6 := E.step hb
    obtain ⟨⟨g0, g1, g2⟩, g3, g4, g5⟩ := E6.getBox 0 rfl
    have hbel := E6.bel
    have glt := (E.getBox 0 rfl).lt
    clear E E6 hb
    go_wp2
    go_ret
    exact ⟨rfl, set3 hbel (by omega) _ _ _⟩
  case inr.inr.inl =>
    replace hE := Lib.hid hE
    replace hI := Lib.hid hI
    replace hl64 := Lib.hid hl64
    replace hl := Lib.hid hl
    replace hR := Lib.hid hR
    replace hf := Lib.hid hf
    obtain ⟨⟨u0, u1, u2⟩, -, -, -⟩ := E.getBox 1 rfl
    obtain ⟨⟨t0, t1, t2⟩, -, -, -⟩ := E.getBox 0 rfl
    go_wp2_with fail
    refine (inner_any a0 a1 b2 b3 p2 q2 p3 q3 x2 y2 x3 y3 _ c2 _ d2 _ c3 _ d3 _ (E.getRow 2 rfl) (E.getRow 3 rfl) l2.out m2.out o2.out cu2.out rfl rfl (E.getRow 4 rfl) (E.getRow 5 rfl) l3.out m3.out o3.out cu3.out rfl rfl).mono ?_
    intro e v12 hp
    obtain ⟨rfl, hb⟩ := hp.is_error hI.out
    clear hp
    clear u0 u1 u2 t0 t1 t2
    replace E := (((E.step hb).addRow (Row.nil _ none)).addRow (Row.nil _ none)).box false none 0 0 none 0 0
    clear hb
    obtain ⟨⟨u0, u1, u2⟩, -, -, -⟩ := E.getBox 4 rfl
    obtain ⟨⟨t0, t1, t2⟩, -, -, -⟩ := E.getBox 3 rfl
    go_wp2_with fail
    refine (each2_any a1 b2 b3 p2 q2 p3 q3 x2 y2 x3 y3 _ c2 _ d2 _ c3 _ d3 _ (E.getRow 5 rfl) (E.getRow 6 rfl) l2.out m2.out o2.out rfl rfl (E.getRow 7 rfl) (E.getRow 8 rfl) l3.out m3.out o3.out rfl rfl).mono ?_
    intro e v13 hp
    have ly : Hid (l.length ≤ maxLen) := Lib.hid (by rw [hl.out]; have := P4 f1.out hPx.out; unfold maxLen; omega)
    obtain ⟨aY, cY, eY, kY, rfl, ra, rb, -, -, hcY, hb⟩ := hp.is_ok hE.out
    clear hp
    clear u0 u1 u2 t0 t1 t2
    dsimp only [List.length_cons, List.length_nil, Nat.reduceAdd] at ra rb hcY ⊢
    have lt_boxX_boxY := ((E.step hb).getBox 0 rfl).lt
    have lt_boxB_boxY := ((E.step hb).getBox 3 rfl).lt
    have lt_boxA_boxY := ((E.step hb).getBox 4 rfl).lt
    replace E := (((E.step hb).addRow rb).addRow ra).box false aY 1 cY eY l.length kY
    clear ra rb hb
    obtain ⟨⟨u0, u1, u2⟩, -, -, -⟩ := E.getBox 0 rfl
    go_wp2_with fail
    have hfl := line_flaw f1.out hPx.out hl.out
    refine (reduce_any a0 hf.out aY eY [] P l cY kY _ (E.getRow 1 rfl) (E.getRow 2 rfl) ly.out hl64.out hfl (by simp [M.prod])).mono ?_
    intro e v14 hp
    obtain ⟨rfl, hb⟩ := hp.is_error hR.out
    clear hp
    clear u0 u1 u2
    have E6 := E.step hb
    obtain ⟨⟨g0, g1, g2⟩, g3, g4, g5⟩ := E6.getBox 0 rfl
    have hbel := E6.bel
    have glt := (E.getBox 0 rfl).lt
    clear E E6 hb
    go_wp2
    go_ret
    exact ⟨rfl, set3 hbel (by omega) _ _ _⟩
  case inr.inr.inr =>
    replace hE := Lib.hid hE
    replace hI := Lib.hid hI
    replace hl64 := Lib.hid hl64
    replace hl := Lib.hid hl
    replace hR := Lib.hid hR
    replace hf := Lib.hid hf
    obtain ⟨⟨u0, u1, u2⟩, -, -, -⟩ := E.getBox 1 rfl
    obtain ⟨⟨t0, t1, t2⟩, -, -, -⟩ := E.getBox 0 rfl
    go_wp2_with fail
    refine (inner_any a0 a1 b2 b3 p2 q2 p3 q3 x2 y2 x3 y3 _ c2 _ d2 _ c3 _ d3 _ (E.getRow 2 rfl) (E.getRow 3 rfl) l2.out m2.out o2.out cu2.out rfl rfl (E.getRow 4 rfl) (E.getRow 5 rfl) l3.out m3.out o3.out cu3.out rfl rfl).mono ?_
    intro e v15 hp
    obtain ⟨aX, cX, eX, kX, rfl, ra, rb, -, -, hcX, hb⟩ := hp.is_ok hI.out
    clear hp
    clear u0 u1 u2 t0 t1 t2
    dsimp only [List.length_cons, List.length_nil, Nat.reduceAdd] at ra rb hcX ⊢
    replace E := (((E.step hb).addRow rb).addRow ra).box false aX 0 cX eX 1 kX
    clear ra rb hb
    obtain ⟨⟨u0, u1, u2⟩, -, -, -⟩ := E.getBox 4 rfl
    obtain ⟨⟨t0, t1, t2⟩, -, -, -⟩ := E.getBox 3 rfl
    go_wp2_with fail
    refine (each2_any a1 b2 b3 p2 q2 p3 q3 x2 y2 x3 y3 _ c2 _ d2 _ c3 _ d3 _ (E.getRow 5 rfl) (E.getRow 6 rfl) l2.out m2.out o2.out rfl rfl (E.getRow 7 rfl) (E.getRow 8 rfl) l3.out m3.out o3.out rfl rfl).mono ?_
    intro e v16 hp
    have ly : Hid (l.length ≤ maxLen) := Lib.hid (by rw [hl.out]; have := P4 f1.out hPx.out; unfold maxLen; omega)
    obtain ⟨aY, cY, eY, kY, rfl, ra, rb, -, -, hcY, hb⟩ := hp.is_ok hE.out
    clear hp
    clear u0 u1 u2 t0 t1 t2
    dsimp only [List.length_cons, List.length_nil, Nat.reduceAdd] at ra rb hcY ⊢
    have lt_boxX_boxY := ((E.step hb).getBox 0 rfl).lt
    have lt_boxB_boxY := ((E.step hb).getBox 3 rfl).lt
    have lt_boxA_boxY := ((E.step hb).getBox 4 rfl).lt
    replace E := (((E.step hb).addRow rb).addRow ra).box false aY 1 cY eY l.length kY
    clear ra rb hb
    obtain ⟨⟨u0, u1, u2⟩, -, -, -⟩ := E.getBox 0 rfl
    go_wp2_with fail
    have hfl := line_flaw f1.out hPx.out hl.out
    refine (reduce_any a0 hf.out aY eY [] P l cY kY _ (E.getRow 1 rfl) (E.getRow 2 rfl) ly.out hl64.out hfl (by simp [M.prod])).mono ?_
    intro e v17 hp
    obtain ⟨aZ, cZ, eZ, kZ, rfl, ra, rb, hb⟩ := hp.is_ok hR.out
    clear hp
    clear u0 u1 u2
    dsimp only [List.length_cons, List.length_nil, Nat.reduceAdd] at ra rb ⊢
    replace E := E.step hb
    obtain ⟨⟨g0, g1, g2⟩, g3, g4, g5⟩ := E.getBox 0 rfl
    have E6 := Env.store (w0 := w) (w := v17) (N := v16.heap.size) (ch := false) (a := aY) (m := 1) (c := cY) (b := eY) (n := l.length) (z := kY)
      (((((((((((((((Env.base E.bel).addRow (E.getRow 11 rfl)).addRow (E.getRow 10 rfl)).addRow (E.getRow 9 rfl)).addRow (E.getRow 8 rfl)).add (f := .box _ _ _ _ _ _ _ _) (E.getBox 7 rfl)).add (f := .box _ _ _ _ _ _ _ _) (E.getBox 6 rfl)).addRow (E.getRow 5 rfl)).addRow (E.getRow 4 rfl)).add (f := .box _ _ _ _ _ _ _ _) (E.getBox 3 rfl)).addRow (E.getRow 2 rfl)).addRow (E.getRow 1 rfl)).addRow rb).addRow ra).add (f := .box _ _ _ _ _ _ _ _) (E.getBox 0 rfl)) (by omega) (by
        intro i N' ch' a' m' c' b' n' z' h
        match i with
        | 0 => cases h
        | 1 => cases h
        | 2 => cases h
        | 3 => cases h
        | 4 => cases h; omega
        | 5 => cases h
        | 6 => cases h
        | 7 => cases h; omega
        | 8 => cases h; omega
        | 9 => cases h
        | 10 => cases h
        | 11 => cases h
        | 12 => cases h
        | i + 13 => cases h) false aZ 0 cZ eZ 1 kZ
    replace E := E6
    clear E6 ra rb hb
    obtain ⟨⟨u0, u1, u2⟩, -, -, -⟩ := E.getBox 5 rfl
    obtain ⟨⟨t0, t1, t2⟩, -, -, -⟩ := E.getBox 0 rfl
    go_wp2_with fail
    refine (array_any false false aX eX aZ eZ [] [u] [] [u] 0 cX 1 kX 0 cZ 1 kZ _ (E.getRow 6 rfl) (E.getRow 7 rfl) (by simp [maxLen]) (by simp [maxLen]) rfl rfl (E.getRow 1 rfl) (E.getRow 2 rfl) (by simp [maxLen]) (by simp [maxLen]) rfl rfl).mono ?_
    rintro e v18 ⟨rfl, hb⟩
    rw [decide_eq_true (rfl : (⟨false, [], [u]⟩ : Arr) = ⟨false, [], [u]⟩)]
    replace E := E.step hb
    clear hb
    clear g0 g1 g2 g3 g4 g5 u0 u1 u2 t0 t1 t2
    have hbel := E.bel
    clear E
    go_wp2
    go_ret
    exact ⟨rfl, hbel⟩
end Go.Proofs.Ytfnoalbnkbifmaa
