/- The call matrix.Adjugate. Condition: rows that lie as lists of ints of 64 bits. -/
import Derived.Test.YtcenhemlgapkeaaDoorWkAdj
import Derived.Test.YtcenhemlgapkeaaDoorSqRead
import Derived.Test.YtcenhemlgapkeaaDoorSqTold
import Derived.Test.YtcenhemlgapkeaaDoorWkPower
namespace Go.Proofs.YtcenhemlgapkeaaDoor
open Go.RowKit

namespace M
def madj (x : Arr) : Except Int Arr :=
  if sqFault x 6 = 0 then .ok ⟨false, [(sqN x : Int), (sqN x : Int)], sqList (sqN x) (Mx.adj (sqN x) (sqA (sqN x) x.d))⟩ else .error (sqFault x 6)
end M

set_option maxRecDepth 20000 in
set_option maxHeartbeats 8000000 in
theorem madj_any (ch : Bool) (a b : Option Addr) (s d : List Int) (m c n z : Nat) (w : World) (hs : Row w a s) (hd : Row w b d) (ls : s.length ≤ maxLen) (ld : d.length ≤ maxLen) (hd64 : All64 d) (em : m = s.length) (en : n = d.length) :
    Calls Tryd.prog 30 #[arrV ch a m c b n z] w fun e w' => ArrPostF (M.madj ⟨ch, s, d⟩) w e w' := by
  subst em
  subst en
  have hread := fun w h1 h2 => sqRead_any ch a b s d _ c _ z w h1 h2 ls ld hd64 rfl rfl
  have E := ((((Env.start w).addRow hd).addRow hs).box ch a s.length c b d.length z).box false none 0 0 none 0 0
  rw [World.size_alloc] at E
  replace hread := Lib.hid hread
  by_cases hf : M.sqFault ⟨ch, s, d⟩ 6 = 0
  case neg =>
    have hr := Lib.hid (show M.madj ⟨ch, s, d⟩ = .error (M.sqFault ⟨ch, s, d⟩ 6) from if_neg hf)
    replace hf := Lib.hid hf
    go_enter Tryd.func30, Tryd.ntmps30
    go_wp2_with fail
    refine (hread.out _ (E.getRow 2 rfl) (E.getRow 3 rfl)).mono ?_
    intro e w1 hp
    obtain rfl := hp.2.1 hf.out
    have hb := hp.2.2
    clear hp
    replace E := E.step hb
    have n1 : w.heap.size + 1 < w1.heap.size := (E.getBox 0 rfl).lt
    clear hb
    generalize M.sqFault ⟨ch, s, d⟩ 6 = k at *
    have X := heap_alloc_new w1 (.cells (sqCells 0 zeroM) 73)
    have E2 := E.step (below_setRow (push (start w1) (.cells (sqCells 0 zeroM) 73)) w1.heap.size (sqCells 0 zeroM) (Nat.le_refl _))
    obtain ⟨⟨u0, u1, u2⟩, g0, g1, g2⟩ := E2.getBox 0 rfl
    go_wp2_with (first
      | (refine wpList_allocBy rfl 73 rfl (some 4) rfl w1.heap.size rfl (sqCells 0 zeroM) Tryd.zeroSq ?_)
      | (refine wpList_store_row rfl 73 _ _ rfl w1.heap.size _ rfl rfl _ _ X (infoSq' _ _) (sizeSq _ _ _ _) (sq_one _ _) ?_))
    refine bodyPost_ret (v := .tuple #[arrV false none 0 0 none 0 0, .iface 34 (.int .i64 k)]) (by simp [results, Tryd.results30, go_sem, cell?_set_same, u0, u1, u2]) rfl ?_
    exact .error hr.out rfl (set3 E2.bel (by omega) _ _ _)
  have hr := Lib.hid (show M.madj ⟨ch, s, d⟩ = .ok ⟨false, [(M.sqN ⟨ch, s, d⟩ : Int), (M.sqN ⟨ch, s, d⟩ : Int)], sqList (M.sqN ⟨ch, s, d⟩) (Mx.adj (M.sqN ⟨ch, s, d⟩) (M.sqA (M.sqN ⟨ch, s, d⟩) d))⟩ from if_pos hf)
  replace hf := Lib.hid hf
  go_enter Tryd.func30, Tryd.ntmps30
  go_wp2_with fail
  refine (hread.out _ (E.getRow 2 rfl) (E.getRow 3 rfl)).mono ?_
  intro e w1 hp
  obtain ⟨rfl, hn⟩ := hp.1 hf.out
  have hb := hp.2.2
  clear hp
  replace E := E.step hb
  have n1 : w.heap.size + 1 < w1.heap.size := (E.getBox 0 rfl).lt
  clear hb
  dsimp only at hn ⊢
  generalize M.sqN ⟨ch, s, d⟩ = k at *
  generalize M.sqA k d = A at *
  have X := heap_alloc_new w1 (.cells (sqCells 0 zeroM) 73)
  have Y := setRow_heap _ _ _ (sqCells k A) _ _ X
  have E2 := E.step (below_setRow (push (start w1) (.cells (sqCells 0 zeroM) 73)) w1.heap.size (sqCells k A) (Nat.le_refl _))
  have B2 := E2.getBox 0 rfl
  have hb2 := E2.bel
  clear E E2
  replace B2 := Lib.hid B2
  go_wp2_with (first
    | (refine wpList_allocBy rfl 73 rfl (some 4) rfl w1.heap.size rfl (sqCells 0 zeroM) Tryd.zeroSq ?_)
    | (refine wpList_store_row rfl 73 _ _ rfl w1.heap.size _ rfl rfl _ _ X (infoSq' _ _) (sizeSq _ _ _ _) (sq_one _ _) ?_)
    | (refine wpList_load_row rfl 73 _ rfl w1.heap.size rfl _ _ _ _ Y Tryd.underlying73 rfl (infoSq' _ _) ?_))
  refine (adjM_any k A _ hn).mono ?_
  rintro e w2 ⟨⟨F, rfl, hF⟩, hb⟩
  have hend := Lib.hid (sqList_congr (n := k) (A := F) (B := Mx.adj k A) fun i j hi hj => by rw [hF i j hi hj])
  have B3 := B2.out.below hb
  have hb3 := below_trans hb2 hb
  replace hF := Lib.hid hF
  clear hb hb2 B2
  replace B3 := Lib.hid B3
  go_wp2_with fail
  refine (sqTold_any k F w2 hn).mono ?_
  rintro e w3 ⟨a3, k3, e3, f3, rfl, ra, rb, fa, fb, hk3, hb⟩
  have hbox5 := B3.out.below hb
  obtain ⟨⟨z0, z1, z2⟩, g0, g1, g2⟩ := hbox5
  have hb5 := below_trans hb3 hb
  have ra' : Row (((w3.setCell ⟨w.heap.size + 1, 0, none⟩ (.bool false)).setCell ⟨w.heap.size + 1, 1, none⟩ (.slice a3 2 k3)).setCell ⟨w.heap.size + 1, 2, none⟩ (.slice e3 (sqList k F).length f3)) a3 [(k : Int), (k : Int)] := ((Row.set_ne ra z0 (by simp)).set_ne ((World.cell?_setCell_other _ _ _ _ (by simp)).trans z1) (by simp)).set_ne ((World.cell?_setCell_other _ _ _ _ (by simp)).trans ((World.cell?_setCell_other _ _ _ _ (by simp)).trans z2)) (by simp)
  have rb' : Row (((w3.setCell ⟨w.heap.size + 1, 0, none⟩ (.bool false)).setCell ⟨w.heap.size + 1, 1, none⟩ (.slice a3 2 k3)).setCell ⟨w.heap.size + 1, 2, none⟩ (.slice e3 (sqList k F).length f3)) e3 (sqList k F) := ((Row.set_ne rb z0 (by simp)).set_ne ((World.cell?_setCell_other _ _ _ _ (by simp)).trans z1) (by simp)).set_ne ((World.cell?_setCell_other _ _ _ _ (by simp)).trans ((World.cell?_setCell_other _ _ _ _ (by simp)).trans z2)) (by simp)
  clear B3
  dsimp only [List.length_cons, List.length_nil, Nat.reduceAdd]
  go_wp2
  refine bodyPost_ret (v := .tuple #[arrV false a3 2 k3 e3 (sqList k F).length f3, .nilIface]) (by simp [results, Tryd.results30, go_sem, cell?_set_same, z0, z1, z2]) rfl ?_
  exact .ok (x := ⟨false, [(k : Int), (k : Int)], sqList k F⟩) (by rw [hr.out, hend.out]) rfl ra' rb' (fa.mono hb3.size) (fb.mono hb3.size) hk3 (set3 hb5 (by omega) _ _ _)

end Go.Proofs.YtcenhemlgapkeaaDoor
