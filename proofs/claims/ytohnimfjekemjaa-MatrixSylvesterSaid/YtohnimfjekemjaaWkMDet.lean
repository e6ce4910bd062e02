/- The call matrix.Det, and the statements' helpers det and fact. Condition: rows that lie as lists of ints of 64 bits. -/
import Derived.Test.YtohnimfjekemjaaWkDet
import Derived.Test.YtohnimfjekemjaaSqRead
import Derived.Test.YtohnimfjekemjaaGrid
import Derived.Test.YtohnimfjekemjaaWkSquare
namespace Go.Proofs.Ytohnimfjekemjaa
open Go.RowKit

namespace M
def mdet (x : Arr) : Except Int Int := if sqFault x 6 = 0 then .ok (wrap64 (Mx.det (sqN x) (sqA (sqN x) x.d))) else .error (sqFault x 6)
end M

set_option maxRecDepth 20000 in
set_option maxHeartbeats 4000000 in
theorem mdet_any (ch : Bool) (a b : Option Addr) (s d : List Int) (m c n z : Nat) (w : World) (hs : Row w a s) (hd : Row w b d) (ls : s.length ≤ maxLen) (ld : d.length ≤ maxLen) (hd64 : All64 d) (em : m = s.length) (en : n = d.length) :
    Calls Try.prog 41 #[arrV ch a m c b n z] w fun e w' => e = .returned (resI (M.mdet ⟨ch, s, d⟩)) ∧ Below w.heap.size w w' := by
  subst em
  subst en
  have hread := fun w h1 h2 => sqRead_any ch a b s d _ c _ z w h1 h2 ls ld hd64 rfl rfl
  have E := (((Env.start w).addRow hd).addRow hs).box ch a s.length c b d.length z
  replace hread := Lib.hid hread
  by_cases hf : M.sqFault ⟨ch, s, d⟩ 6 = 0
  · have hr := Lib.hid (show M.mdet ⟨ch, s, d⟩ = .ok (wrap64 (Mx.det (M.sqN ⟨ch, s, d⟩) (M.sqA (M.sqN ⟨ch, s, d⟩) d))) from if_pos hf)
    replace hf := Lib.hid hf
    go_enter Try.func41, Try.ntmps41
    go_wp2_with fail
    refine (hread.out _ (E.getRow 1 rfl) (E.getRow 2 rfl)).mono ?_
    intro e w1 hp
    obtain ⟨rfl, hn⟩ := hp.1 hf.out
    have hb := hp.2.2
    clear hp
    replace E := E.step hb
    clear hb
    dsimp only at hn ⊢
    generalize M.sqN ⟨ch, s, d⟩ = k at *
    generalize M.sqA k d = A at *
    have X := heap_alloc_new w1 (.cells (sqCells 0 zeroM) 63)
    have Y := setRow_heap _ _ _ (sqCells k A) _ _ X
    have hb2 := below_setRow (E.bel.alloc E.bel.size (.cells (sqCells 0 zeroM) 63)) w1.heap.size (sqCells k A) E.bel.size
    go_wp2_with (first
      | (refine wpList_allocBy rfl 63 rfl (some 4) rfl w1.heap.size rfl (sqCells 0 zeroM) Try.zeroSq ?_)
      | (refine wpList_store_row rfl 63 _ _ rfl w1.heap.size _ rfl rfl _ _ X (infoSq' _ _) (sizeSq _ _ _ _) (sq_one _ _) ?_)
      | (refine wpList_load_row rfl 63 _ rfl w1.heap.size rfl _ _ _ _ Y Try.underlying63 rfl (infoSq' _ _) ?_))
    refine (detM_any k A _ hn).mono ?_
    rintro e w2 ⟨rfl, hb⟩
    go_wp2
    go_ret2
    exact ⟨by rw [hr.out]; rfl, below_trans hb2 hb⟩
  · have hr := Lib.hid (show M.mdet ⟨ch, s, d⟩ = .error (M.sqFault ⟨ch, s, d⟩ 6) from if_neg hf)
    replace hf := Lib.hid hf
    go_enter Try.func41, Try.ntmps41
    go_wp2_with fail
    refine (hread.out _ (E.getRow 1 rfl) (E.getRow 2 rfl)).mono ?_
    intro e w1 hp
    obtain rfl := hp.2.1 hf.out
    have hb := hp.2.2
    clear hp
    replace E := E.step hb
    clear hb
    generalize M.sqFault ⟨ch, s, d⟩ 6 = k at *
    have X := heap_alloc_new w1 (.cells (sqCells 0 zeroM) 63)
    have hb2 := below_setRow (E.bel.alloc E.bel.size (.cells (sqCells 0 zeroM) 63)) w1.heap.size (sqCells 0 zeroM) E.bel.size
    go_wp2_with (first
      | (refine wpList_allocBy rfl 63 rfl (some 4) rfl w1.heap.size rfl (sqCells 0 zeroM) Try.zeroSq ?_)
      | (refine wpList_store_row rfl 63 _ _ rfl w1.heap.size _ rfl rfl _ _ X (infoSq' _ _) (sizeSq _ _ _ _) (sq_one _ _) ?_))
    go_ret2
    exact ⟨by rw [hr.out]; rfl, hb2⟩

/-- What the statements' det tells of a square. -/
def sdet (n : Nat) (d : List Int) : Int := wrap64 (Mx.det n (M.sqA n d))

set_option maxHeartbeats 4000000 in
theorem lawDet_any (n : Nat) (a b : Option Addr) (d : List Int) (m c k z : Nat) (w : World) (hs : Row w a [(n : Int), (n : Int)]) (hd : Row w b d) (ld : d.length ≤ maxLen) (hd64 : All64 d) (hn : n ≤ 6) (hl : d.length = n * n) (em : m = 2) (en : k = d.length) :
    Calls Try.prog 20 #[arrV false a m c b k z] w fun e w' => e = .returned (.int .i64 (sdet n d)) ∧ Below w.heap.size w w' := by
  subst em
  subst en
  have hm := fun w h1 h2 => mdet_any false a b [(n : Int), (n : Int)] d 2 c d.length z w h1 h2 (by simp [maxLen]) ld hd64 rfl rfl
  have hr : M.mdet ⟨false, [(n : Int), (n : Int)], d⟩ = .ok (sdet n d) := if_pos (sq_mk hn hl)
  rw [hr] at hm
  have E := (((Env.start w).addRow hd).addRow hs).box false a 2 c b d.length z
  replace hm := Lib.hid hm
  clear hr
  replace hl := Lib.hid hl
  go_enter Try.func20, Try.ntmps20
  go_wp2_with fail
  refine (hm.out _ (E.getRow 1 rfl) (E.getRow 2 rfl)).mono ?_
  rintro e w1 ⟨rfl, hb⟩
  dsimp only [resI]
  have hb2 := (E.step hb).bel
  go_wp2
  go_ret
  exact ⟨rfl, hb2⟩

theorem fact_det : sdet 2 [3, 1, 4, 2] = 2 := by decide +kernel

set_option maxHeartbeats 4000000 in
theorem fact_any (w : World) : Calls Try.prog 17 #[] w fun e w' => e = .returned (.bool true) ∧ Below w.heap.size w w' := by
  have hr : M.mdet ⟨false, [(2 : Int), (2 : Int)], [3, 1, 4, 2]⟩ = .ok 2 := (if_pos (sq_mk (n := 2) (by decide) rfl)).trans (congrArg Except.ok fact_det)
  have hm := fun w a b c z h1 h2 => mdet_any false a b [(2 : Int), (2 : Int)] [3, 1, 4, 2] 2 c 4 z w h1 h2 (by simp [maxLen]) (by simp [maxLen]) (by intro x hx; simp at hx; unfold I64; omega) rfl rfl
  rw [hr] at hm
  replace hm := Lib.hid hm
  clear hr
  have r0 : Row (w.alloc (.cells #[.int .i64 3, .int .i64 1, .int .i64 4, .int .i64 2] 3)) (some ⟨w.heap.size, 0, none⟩) [3, 1, 4, 2] := row_lit _ _ _ _ rfl
  have b0 := push (start w) (.cells #[.int .i64 3, .int .i64 1, .int .i64 4, .int .i64 2] 3)
  go_enter Try.func17, Try.ntmps17
  go_wp2_with fail
  refine (square_any 2 _ _ _ _).mono ?_
  rintro e w1 ⟨a, c, rfl, hrow, hb⟩
  have b1 := below_trans b0 hb
  have r1 := r0.below hb
  clear r0 b0 hb
  go_wp2_with fail
  refine (hm.out _ _ _ _ _ hrow r1).mono ?_
  rintro e w2 ⟨rfl, hb⟩
  dsimp only [resI]
  go_wp2
  go_ret
  exact ⟨rfl, below_trans b1 hb⟩

end Go.Proofs.Ytohnimfjekemjaa
