/- The call fold.lines.folded along the last axis, with word of the new memory. Condition: as in the text on folded. -/
import Derived.Test.YtaplaoelamnoiaaGreatDoorBg36
import Derived.Test.YtaplaoelamnoiaaGreatDoorBg28
import Derived.Test.YtaplaoelamnoiaaGreatDoorBg01
import Derived.Test.YtaplaoelamnoiaaGreatDoorBg05
import Derived.Test.YtaplaoelamnoiaaGreatDoorBg03
import Derived.Test.YtaplaoelamnoiaaGreatDoorBg04
namespace Go.Proofs.YtaplaoelamnoiaaGreatDoor
open Go.RowKit

/-- What folded leaves: the shape that it was given, and new cells. -/
def FoldPost (r : Except Int Arr) (sa : Option Addr) (sc : Nat) (w : World) (e : Ending) (w' : World) : Prop :=
  (∀ n, r = .error n → e = .returned (.tuple #[arrV false none 0 0 none 0 0, .iface 46 (.int .i64 n)])) ∧
  (∀ x, r = .ok x → ∃ b k, e = .returned (.tuple #[arrV x.ch sa x.s.length sc b x.d.length k, .nilIface]) ∧ Row w' sa x.s ∧ Row w' b x.d ∧ Fresh w b) ∧
  Below w.heap.size w w'
theorem FoldPost.error {r : Except Int Arr} {sa : Option Addr} {sc : Nat} {w w' : World} {e : Ending} {n : Int} (h : r = .error n) (he : e = .returned (.tuple #[arrV false none 0 0 none 0 0, .iface 46 (.int .i64 n)])) (hb : Below w.heap.size w w') : FoldPost r sa sc w e w' := by
  subst h; exact ⟨fun m hm => by cases hm; exact he, fun x hx => (by cases hx), hb⟩
theorem FoldPost.ok {r : Except Int Arr} {sa : Option Addr} {sc : Nat} {w w' : World} {e : Ending} {x : Arr} {b : Option Addr} {k : Nat} (h : r = .ok x) (he : e = .returned (.tuple #[arrV x.ch sa x.s.length sc b x.d.length k, .nilIface])) (h1 : Row w' sa x.s) (h2 : Row w' b x.d)
    (f2 : Fresh w b) (hb : Below w.heap.size w w') : FoldPost r sa sc w e w' := by
  subst h; exact ⟨fun m hm => (by cases hm), fun y hy => by cases hy; exact ⟨b, k, he, h1, h2, f2⟩, hb⟩

namespace M
/-- The o-th line. -/
def lineAt (d : List Int) (P o : Nat) : List Int := (List.range P).map fun j => d.getD (o * P + j) 0
def lastFold (f : Int) (d : List Int) (P o : Nat) : Except Int Int := foldL f (lineAt d P o)
end M

theorem getD64 {d : List Int} (h : All64 d) (i : Nat) : I64 (d.getD i 0) := by
  rw [List.getD_eq_getElem?_getD]
  cases e : d[i]? with
  | none => show I64 0; unfold I64; omega
  | some v => exact h _ (List.mem_of_getElem? e)
theorem map_snoc (F : Nat → Int) (j : Nat) : (List.range (j + 1)).map F = (List.range j).map F ++ [F j] := by
  rw [List.range_succ, List.map_append]; rfl
theorem belowW2 {w wB wr w' : World} {N B : Nat} {ch : Bool} {sv dv : Value} {ys : List Int} (h : OutAt w wB N B ch sv dv ys wr) (hNB : N < B) (hb : Below wr.heap.size wr w') (hw : w.heap.size ≤ B) : OutAt w wB N B ch sv dv ys w' := by
  obtain ⟨⟨⟨c0, c1, c2⟩, f2⟩, hown, hbel, hsz, hrest⟩ := h
  have e := hb.block N (by omega)
  have hs := hb.size
  exact ⟨⟨⟨(cell_of_eq e 0).trans c0, (cell_of_eq e 1).trans c1, (cell_of_eq e 2).trans c2⟩, (frozen_of_eq e 2).trans f2⟩, hown.below hb, hbel.trans (hb.mono (by omega)), by omega, fun b h1 h2 => (hb.block b (by omega)).trans (hrest b h1 h2)⟩
theorem zero_any (k : Int) (w : World) : Calls Tryz.prog 164 #[.int .i64 k] w fun e w' => e = .returned (.int .i64 0) ∧ w = w' := by
  go_enter Tryz.func164, Tryz.ntmps164
  go_wp2
  go_ret
  exact ⟨rfl, rfl⟩
theorem long_any (k : Int) (N P : Nat) (w : World) (h : w.cell? ⟨N, 1, none⟩ = some (.int .i64 P)) : Calls Tryz.prog 165 #[.int .i64 k, .pointer (some ⟨N, 0, none⟩)] w fun e w' => e = .returned (.int .i64 P) ∧ w = w' := by
  go_enter Tryz.func165, Tryz.ntmps165
  go_wp2
  go_ret
  exact ⟨rfl, rfl⟩

set_option maxRecDepth 20000 in
set_option maxHeartbeats 16000000 in
theorem foldedF_one (f : Int) (O P : Nat) (a b sa : Option Addr) (s t d : List Int) (c z sc L : Nat) (w : World) (hs : Row w a s) (hd : Row w b d) (ht : Row w sa t) (hL : w.cell? ⟨L, 1, none⟩ = some (.int .i64 P)) (hd64 : All64 d) (hO : O ≤ 4096) (hP : P ≤ 4096) (hlen : d.length = O * P) (hl4 : d.length ≤ 4096) :
    Calls Tryz.prog 142 #[.agg #[.int .i64 O, .int .i64 P, .int .i64 1], .int .i64 f, arrV false a s.length c b d.length z, .slice sa t.length sc, .int .i64 1, .func (.func 164) #[] #[], .func (.func 165) #[] #[.pointer (some ⟨L, 0, none⟩)]] w fun e w' =>
      FoldPost (match M.seqE O (M.lastFold f d P) with | .error e => .error e | .ok l => .ok ⟨false, t, l⟩) sa sc w e w' := by
  have E0 := ((((Env.start w).addRow ht).addRow hd).addRow hs).step (push (start w) (.cells #[.int .i64 O, .int .i64 P, .int .i64 1] 213))
  have E := ((E0.box false a s.length c b d.length z).box false none 0 0 none 0 0).box false sa t.length sc none 0 0
  simp only [World.size_alloc] at E
  clear E0
  obtain ⟨w4, hw4⟩ : ∃ w4 : World, w4 = (((w.alloc (.cells #[.int .i64 O, .int .i64 P, .int .i64 1] 213)).alloc (.cells #[.bool false, .slice a s.length c, .slice b d.length z] 24)).alloc (.cells #[.bool false, .slice none 0 0, .slice none 0 0] 24)).alloc (.cells #[.bool false, .slice sa t.length sc, .slice none 0 0] 24) := ⟨_, rfl⟩
  have hLw := World.block_lt_of_cell? w _ hL
  have hln : w4.cell? ⟨w.heap.size, 0, none⟩ = some (.int .i64 O) ∧ w4.cell? ⟨w.heap.size, 1, none⟩ = some (.int .i64 P) ∧ w4.cell? ⟨w.heap.size, 2, none⟩ = some (.int .i64 1) := by rw [hw4]; simp [go_sem]
  have hs4 : w4.heap.size = w.heap.size + 1 + 1 + 1 + 1 := by rw [hw4]; simp
  rw [← hw4] at E
  have hbO := E.getBox 0 rfl
  have hbR := E.getBox 1 rfl
  have hbA := E.getBox 2 rfl
  have rs4 := E.getRow 3 rfl
  have rd4 := E.getRow 4 rfl
  have rt4 := E.getRow 5 rfl
  have hbel := E.bel
  have hL4 := (hbel.cell (p := ⟨L, 1, none⟩) hLw).trans hL
  replace hw4 := Lib.hid hw4
  have hI0 : OutAt w w4 (w.heap.size + 1 + 1 + 1) (w.heap.size + 1 + 1 + 1 + 1) false (.slice sa t.length sc) (.slice none 0 0) [] w4 := ⟨⟨hbO.1, hbO.2.2.2⟩, Own.nil _ _, hbel, by omega, fun _ _ _ => rfl⟩
  have rowK : ∀ {a : Option Addr} {xs : List Int} {W : World}, Row w4 a xs → Row w a xs → (∀ bq, bq < w.heap.size + 1 + 1 + 1 → W.heap[bq]? = w4.heap[bq]?) → Row W a xs := fun h5 h0 h2 j hj => by
    obtain ⟨g, o, e, h⟩ := h5 j hj
    obtain ⟨g', o', e', h'⟩ := h0 j hj
    rw [e] at e'
    cases e'
    have := World.block_lt_of_cell? _ _ h'
    exact ⟨g, o, e, (cell_of_eq (h2 g (by have : g < w.heap.size := this; omega)) _).trans h⟩
  have boxK : ∀ {N : Nat} {ch : Bool} {a : Option Addr} {m c : Nat} {b : Option Addr} {n z : Nat} {W : World}, BoxF w4 N ch a m c b n z → W.heap[N]? = w4.heap[N]? → BoxF W N ch a m c b n z := fun h e => by
    obtain ⟨⟨x0, x1, x2⟩, y0, y1, y2⟩ := h
    exact ⟨⟨(cell_of_eq e 0).trans x0, (cell_of_eq e 1).trans x1, (cell_of_eq e 2).trans x2⟩, (frozen_of_eq e 0).trans y0, (frozen_of_eq e 1).trans y1, (frozen_of_eq e 2).trans y2⟩
  have hkp : ∀ W : World, (∀ bq, bq < w.heap.size + 1 + 1 + 1 → W.heap[bq]? = w4.heap[bq]?) → Row W b d ∧ Row W sa t ∧ BoxF W (w.heap.size + 1) false a s.length c b d.length z ∧ BoxF W (w.heap.size + 1 + 1) false none 0 0 none 0 0 ∧ (W.cell? ⟨w.heap.size, 0, none⟩ = some (.int .i64 O) ∧ W.cell? ⟨w.heap.size, 1, none⟩ = some (.int .i64 P) ∧ W.cell? ⟨w.heap.size, 2, none⟩ = some (.int .i64 1)) ∧ W.cell? ⟨L, 1, none⟩ = some (.int .i64 P) := fun W h =>
    ⟨rowK rd4 hd h, rowK rt4 ht h, boxK hbA (h _ (by omega)), boxK hbR (h _ (by omega)), ⟨(cell_of_eq (h _ (by omega)) 0).trans hln.1, (cell_of_eq (h _ (by omega)) 1).trans hln.2.1, (cell_of_eq (h _ (by omega)) 2).trans hln.2.2⟩, (cell_of_eq (h _ (by have : L < w.heap.size := hLw; omega)) 1).trans hL4⟩
  obtain ⟨l0, l1, l2⟩ := hln
  replace hkp := Lib.hid hkp
  replace hI0 := Lib.hid hI0
  have x64 := Lib.hid (fun j => getD64 hd64 j)
  obtain ⟨r, hr⟩ : ∃ r, r = (match M.seqE O (M.lastFold f d P) with | .error e => Except.error e | .ok l => .ok (⟨false, t, l⟩ : Arr)) := ⟨_, rfl⟩
  rw [← hr]
  replace hr := Lib.hid hr
  replace hlen := Lib.hid hlen
  clear E hbO hbR hbA rs4 rd4 rt4 hs hd ht hL4 hL rowK boxK hd64
  go_enter Tryz.func142, Tryz.ntmps142
  go_wp2
  rw [← hw4.out]
  go_loopw [28] (fun v wr => ∃ (o : Nat) (dv : Value) (ys : List Int), o ≤ O ∧ v = .int .i64 o ∧ M.seqE o (M.lastFold f d P) = .ok ys ∧ OutAt w w4 (w.heap.size + 1 + 1 + 1) (w.heap.size + 1 + 1 + 1 + 1) false (.slice sa t.length sc) dv ys wr) (fun v _ => O - (intOf v).toNat)
  case atStart => exact ⟨0, _, [], Nat.zero_le _, rfl, rfl, hI0.out⟩
  case round =>
    clear hI0
    obtain ⟨o, dv, ys, ho, rfl, hseq, hI⟩ := hrel
    by_cases hlt : o < O
    case neg =>
      obtain rfl : o = O := by omega
      have hrx := hr.out
      rw [hseq] at hrx
      dsimp only at hrx
      obtain ⟨-, rt, -, bR, -, -⟩ := hkp.out wr (fun bq h => hI.2.2.2.2 bq (by omega) (by omega))
      obtain ⟨⟨z0, z1, z2⟩, z3, z4, z5⟩ := bR
      have hown := hI.2.1
      obtain ⟨⟨⟨c0, c1, c2⟩, f2⟩, -, hbl, -, -⟩ := hI
      obtain ⟨av5, cv5, rfl, -, -, rdat⟩ := hown.view
      replace hown := Lib.hid hown
      replace hrx := Lib.hid hrx
      replace hseq := Lib.hid hseq
      clear l0 l1 l2
      go_wp2
      refine bodyPost_ret (v := .tuple #[arrV false sa t.length sc av5 ys.length cv5, .nilIface]) (by simp [results, Tryz.results142, go_sem, cell?_set_same, z0, z1, z2]) rfl ?_
      refine FoldPost.ok (x := ⟨false, t, ys⟩) hrx.out rfl ?_ ?_ (fun p e => by have := own_fresh hown.out p e; omega) (set3 hbl (by omega) _ _ _)
      · exact ((Row.set_ne rt z0 (by simp)).set_ne ((World.cell?_setCell_other _ _ _ _ (by simp)).trans z1) (by simp)).set_ne ((World.cell?_setCell_other _ _ _ _ (by simp)).trans ((World.cell?_setCell_other _ _ _ _ (by simp)).trans z2)) (by simp)
      · exact ((Row.set_ne rdat z0 (by simp)).set_ne ((World.cell?_setCell_other _ _ _ _ (by simp)).trans z1) (by simp)).set_ne ((World.cell?_setCell_other _ _ _ _ (by simp)).trans ((World.cell?_setCell_other _ _ _ _ (by simp)).trans z2)) (by simp)
    case pos =>
      obtain ⟨wo, hwo⟩ : ∃ wo : World, wo = wr := ⟨_, rfl⟩
      subst hwo
      replace hseq := Lib.hid hseq
      replace hI := Lib.hid hI
      go_wp2
      go_loopw [32] (fun v wi => ∃ (dv : Value) (zs : List Int), ((v = .int .i64 0 ∧ M.seqE o (M.lastFold f d P) = .ok zs) ∨ (v = .int .i64 1 ∧ M.seqE (o + 1) (M.lastFold f d P) = .ok zs)) ∧ OutAt w w4 (w.heap.size + 1 + 1 + 1) (w.heap.size + 1 + 1 + 1 + 1) false (.slice sa t.length sc) dv zs wi) (fun v _ => 1 - (intOf v).toNat)
      case atStart => exact ⟨_, ys, .inl ⟨rfl, hseq.out⟩, hI.out⟩
      case round =>
        clear hseq hI
        obtain ⟨dv2, zs, hcase, hI⟩ := hrel
        rcases hcase with ⟨rfl, hseq⟩ | ⟨rfl, hseq⟩
        case inr =>
          replace hseq := Lib.hid hseq
          replace hI := Lib.hid hI
          go_wp2
          go_roundw
          case rel =>
            exact ⟨o + 1, _, zs, by omega, by go_num, hseq.out, hI.out⟩
          case measure => simp [intOf]; omega
        case inl =>
          have hll := seqE_length hseq
          obtain ⟨wp, hwp⟩ : ∃ wp : World, wp = wr := ⟨_, rfl⟩
          subst hwp
          obtain ⟨rdp, -, ⟨⟨a0, a1, a2⟩, -⟩, ⟨⟨z0, z1, z2⟩, z3, z4, z5⟩, ⟨l0, l1, l2⟩, lL⟩ := hkp.out _ (fun bq h => hI.2.2.2.2 bq (by omega) (by omega))
          replace hseq := Lib.hid hseq
          replace hI := Lib.hid hI
          go_wp2
          go_loopw [37] (fun v wi => ∃ (dv : Value) (k : Nat) (zs : List Int), v = .int .i64 k ∧ k ≤ 1 ∧ M.seqE (o + k) (M.lastFold f d P) = .ok zs ∧ OutAt w w4 (w.heap.size + 1 + 1 + 1) (w.heap.size + 1 + 1 + 1 + 1) false (.slice sa t.length sc) dv zs wi) (fun v _ => 1 - (intOf v).toNat)
          case atStart => exact ⟨_, 0, zs, rfl, by omega, hseq.out, hI.out⟩
          case round =>
            clear hseq hI
            obtain ⟨dv3, k, zs, rfl, hk1, hseq, hI⟩ := hrel
            by_cases hk0 : k = 0
            case neg =>
              obtain rfl : k = 1 := by omega
              replace hseq := Lib.hid hseq
              replace hI := Lib.hid hI
              go_wp2
              go_roundw
              case rel => exact ⟨_, zs, .inr ⟨by go_num, hseq.out⟩, hI.out⟩
              case measure => simp [intOf]
            case pos =>
              subst hk0
              rw [Nat.add_zero] at hseq
              have hll := seqE_length hseq
              clear rdp a0 a1 a2 z0 z1 z2 z3 z4 z5 l0 l1 l2 lL
              obtain ⟨wq, hwq⟩ : ∃ wq : World, wq = wr := ⟨_, rfl⟩
              subst hwq
              have hszq := hI.2.2.2.1
              have hkq : ∀ W : World, Below wq.heap.size wq W → _ := fun W h => hkp.out W fun bq h1 => (h.block bq (by omega)).trans (hI.2.2.2.2 bq (by omega) (by omega))
              have hlong := Lib.hid (long_any 0 L P wq (hkq wq (Below.refl _ _)).2.2.2.2.2)
              replace hkq := Lib.hid hkq
              replace hseq := Lib.hid hseq
              replace hI := Lib.hid hI
              obtain ⟨q, hq⟩ : ∃ q, q = o * P := ⟨_, rfl⟩
              have hqi : ((o : Nat) : Int) * ((P : Nat) : Int) = ((q : Nat) : Int) := by rw [hq]; simp
              have hqd : q + P ≤ d.length := by
                rw [hlen.out, hq]
                calc o * P + P = (o + 1) * P := by rw [Nat.add_mul, Nat.one_mul]
                  _ ≤ O * P := Nat.mul_le_mul_right _ hlt
              have hline : M.lineAt d P o = (List.range P).map fun j => d.getD (q + j) 0 := by unfold M.lineAt; rw [hq]
              replace hq := Lib.hid hq
              replace hline := Lib.hid hline
              go_wp2_with fail
              refine hlong.out.mono ?_
              rintro e w9 ⟨rfl, rfl⟩
              go_wp2
              go_loopw [20, 43] (fun lv v wi => ∃ j : Nat, j ≤ P ∧ v = .int .i64 j ∧ Own wi wq.heap.size lv ((List.range j).map fun j => d.getD (q + j) 0) ∧ Below wq.heap.size wq wi) (fun _ v _ => P - (intOf v).toNat)
              case atStart => exact ⟨0, Nat.zero_le _, rfl, Own.nil _ _, Below.refl _ _⟩
              case round =>
                obtain ⟨j, hj, rfl, hown, hbq⟩ := hrel
                by_cases hjP : j < P
                case pos =>
                  obtain ⟨rdw, -, ⟨⟨a0, a1, a2⟩, -⟩, -, ⟨l0, l1, l2⟩, -⟩ := hkq.out _ hbq
                  obtain ⟨bd, od, rfl, hcd⟩ := rdw (q + j) (by omega)
                  have hnx := Lib.hid (map_snoc (fun j => d.getD (q + j) 0) j)
                  have hll2 : ((List.range j).map fun j => d.getD (q + j) 0).length = j := by simp
                  generalize (List.range j).map (fun j => d.getD (q + j) 0) = xs at *
                  generalize d.getD (q + j) 0 = y at *
                  have hz := Lib.hid (zero_any 0 (World.drew wr))
                  obtain ⟨av, cv, hv, -, -, -⟩ := hown.view
                  subst hv
                  have hszr := hbq.size
                  have hownA : Own (wr.alloc (.cells #[.int .i64 y] 3)) wq.heap.size (.slice av xs.length cv) xs := hown.below (push (start wr) _)
                  have hown' : Own (wr.alloc (.cells #[.int .i64 y] 3)).drew wq.heap.size (.slice av xs.length cv) xs := hownA
                  have hlen2 : xs.length < 17592186044416 := by omega
                  have hlk2 := Lib.hid (show j + 1 = xs.length + 1 by omega)
                  have hBr : Below wq.heap.size wr (wr.alloc (.cells #[.int .i64 y] 3)).drew := ((Below.refl _ wr).alloc hszr _).drew
                  have iw1 : IntKind.i64.wrap ((q : Nat) : Int) = ((q : Nat) : Int) := by rw [IntKind.wrap_i64]; omega
                  have iw2 : IntKind.i64.wrap (((q : Nat) : Int) + ((j : Nat) : Int)) = ((q : Nat) : Int) + ((j : Nat) : Int) := by rw [IntKind.wrap_i64]; omega
                  have n0 : (0 : Int) ≤ ((q : Nat) : Int) + ((j : Nat) : Int) := by omega
                  have n1 : ((q : Nat) : Int) + ((j : Nat) : Int) < ((d.length : Nat) : Int) := by omega
                  have n2 : (((q : Nat) : Int) + ((j : Nat) : Int)).toNat = q + j := by omega
                  clear hll2 hown rdw
                  go_wp2
                  go_region_law ((first
                    | ((try go_simp); go_at_call 164; refine hz.out.mono ?_; rintro e w5 ⟨rfl, rfl⟩)
                    | (refine step_app_int rfl (.tmp 46) (.tmp 66) rfl wq.heap.size _ xs y wr.heap.size rfl hown' rfl (by simp [go_sem]) hlen2 (by simp; omega) (j + 1) hlk2.out ?_; intro a' c' w' ho' hb'; have hfin := Lib.hid ho'; have hbf := Lib.hid (hBr.trans hb'))))
                  all_goals go_wp2
                  all_goals go_roundw
                  all_goals
                    first
                      | exact ⟨j + 1, by omega, by go_num, by rw [hnx.out]; exact hfin.out, hbq.trans hbf.out⟩
                      | (simp [intOf]; omega)
                case neg =>
                  obtain rfl : j = P := by omega
                  have hls : (List.range j).map (fun j => d.getD (q + j) 0) = M.lineAt d j o := hline.out.symm
                  rw [hls] at hown
                  have hl64 : All64 (M.lineAt d j o) := fun x hx => by
                    unfold M.lineAt at hx
                    obtain ⟨i, -, rfl⟩ := List.mem_map.1 hx
                    exact x64.out _
                  have hll3 : (M.lineAt d j o).length ≤ 4096 := by unfold M.lineAt; rw [List.length_map, List.length_range]; omega
                  obtain ⟨av, cv, hv, hcap, -, rl⟩ := hown.view
                  subst hv
                  have hof := Lib.hid (foldOf_any f av (M.lineAt d j o) (M.lineAt d j o).length cv wr rl hl64 (by unfold maxLen; omega) hcap rfl)
                  have hfo : M.lastFold f d j o = M.foldL f (M.lineAt d j o) := rfl
                  obtain ⟨-, -, -, ⟨⟨z0, z1, z2⟩, z3, z4, z5⟩, -, -⟩ := hkq.out _ hbq
                  have hof0 := hof.out
                  have hIb := hI.out.2.2.1.trans (hbq.mono (by omega))
                  have hIw := belowW2 hI.out (by omega) hbq (by omega)
                  clear hls hown rl hl64 hof
                  cases hfv : M.foldL f (M.lineAt d j o) with
                  | error e9 =>
                    rw [hfv] at hof0 hfo
                    dsimp only [resI] at hof0
                    have hrx := hr.out
                    rw [seqE_error (seqE_stop hseq.out hfo) hlt] at hrx
                    dsimp only at hrx
                    replace hrx := Lib.hid hrx
                    replace hof0 := Lib.hid hof0
                    clear hfo hfv hIw hll hll3 hcap
                    go_wp2_with fail
                    refine hof0.out.mono ?_
                    rintro e w11 ⟨rfl, hb11⟩
                    have hR := held3 hb11 ⟨z0, z1, z2⟩
                    have hF := frozen3 hb11 (World.block_lt_of_cell? wr _ z0) ⟨z3, z4, z5⟩
                    clear z0 z1 z2 z3 z4 z5
                    obtain ⟨z0, z1, z2⟩ := hR
                    obtain ⟨z3, z4, z5⟩ := hF
                    go_wp2
                    refine bodyPost_ret (v := .tuple #[arrV false none 0 0 none 0 0, .iface 46 (.int .i64 e9)]) (by simp [results, Tryz.results142, go_sem, cell?_set_same, z0, z1, z2]) rfl ?_
                    exact .error hrx.out rfl (set3 (hIb.trans (hb11.mono (by have := hIb.size; omega))) (by omega) _ _ _)
                  | ok x9 =>
                    rw [hfv] at hof0 hfo
                    dsimp only [resI] at hof0
                    have hsn := Lib.hid (seqE_next hseq.out hfo)
                    have hlen3 : zs.length < 17592186044416 := by omega
                    replace hof0 := Lib.hid hof0
                    replace hIw := Lib.hid hIw
                    clear hfo hfv hll hll3 hcap z0 z1 z2 z3 z4 z5 hI
                    go_wp2_with fail
                    refine hof0.out.mono ?_
                    rintro e w11 ⟨rfl, hb11⟩
                    have hI8 := Lib.hid (belowW2 hIw.out (by omega) hb11 (by omega))
                    obtain ⟨⟨⟨c0, c1, c2⟩, f2⟩, hown, hbl, hsz, -⟩ := hI8.out
                    obtain ⟨av5, cv5, rfl, -, -, -⟩ := hown.view
                    have k1 : w.heap.size + 1 + 1 + 1 < w.heap.size + 1 + 1 + 1 + 1 := Nat.lt_succ_self _
                    have hw0 : w.heap.size ≤ w.heap.size + 1 + 1 + 1 := by omega
                    replace hown := Lib.hid hown
                    replace hlen3 := Lib.hid hlen3
                    clear hbl
                    go_wp2_with (at_builtin; refine app_int rfl (.tmp 80) (.tmp 82) rfl (w.heap.size + 1 + 1 + 1 + 1) _ zs x9 rfl hown.out rfl hlen3.out hsz ?_; intro v' w' ho' hb' hl'; obtain ⟨a', c', rfl, -, -, -⟩ := ho'.view; have c8 := (hb'.cell (by exact k1)).trans c2; have f8 := (hb'.frozen (by exact k1)).trans f2; have hfin := Lib.hid (OutAt.step hI8.out hw0 k1 hb' ho'); replace ho' := Lib.hid ho')
                    go_roundw
                    case rel => exact ⟨_, 1, _, by go_num, Nat.le_refl _, hsn.out, by have h := hfin.out; rw [List.length_append] at h; exact h⟩
                    case measure => simp [intOf]
end Go.Proofs.YtaplaoelamnoiaaGreatDoor
