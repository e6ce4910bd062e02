/- The call arr.Text: the characters of a text. Condition: the two tables of utf8 are laid; the text has fewer than 2^63 bytes. -/
import Derived.Test.YtcenhemlgapkeaaDoorU8
import Derived.Test.YtcenhemlgapkeaaDoorRunesP
import Derived.Test.YtcenhemlgapkeaaDoorBdA
import Derived.Test.YtcenhemlgapkeaaDoorBdB
import Derived.Test.YtcenhemlgapkeaaDoorOutAt
import Derived.Lib.OthersKept
namespace Go.Proofs.YtcenhemlgapkeaaDoor
open Go.RowKit

namespace M
/-- The characters of a text. -/
def text (l : List UInt8) : Except Int Arr :=
  if Lib.validD l = false then .error 6
  else if 4096 < (runesD l).length then .error 7
  else .ok ⟨true, [((runesD l).length : Int)], runesD l⟩
end M

theorem Own.iterAt {w : World} {B : Nat} {v : Value} {ys : List Int} (h : Own w B v ys) {K : Nat} (hK : K < B) (s : ByteArray) (pos : Nat) : Own (w.iterAt K s pos) B v ys := by
  refine ⟨h.1, ?_⟩
  rcases h.2 with h2 | ⟨g, cap, cur, hv, hg, hh, r⟩
  · exact .inl h2
  · exact .inr ⟨g, cap, cur, hv, hg, (Lib.iterAt_other w K g s pos (by omega)).trans hh, r⟩
theorem boxF_eq {w v : World} {N : Nat} {ch : Bool} {a : Option Addr} {m c : Nat} {b : Option Addr} {n z : Nat} (h : BoxF w N ch a m c b n z) (e : v.heap[N]? = w.heap[N]?) : BoxF v N ch a m c b n z := by
  obtain ⟨⟨x0, x1, x2⟩, y0, y1, y2⟩ := h
  exact ⟨⟨(cell_of_eq e 0).trans x0, (cell_of_eq e 1).trans x1, (cell_of_eq e 2).trans x2⟩, (frozen_of_eq e 0).trans y0, (frozen_of_eq e 1).trans y1, (frozen_of_eq e 2).trans y2⟩

/-- A text's array that is being built: its box, the iterator behind it, its cells, the result's box. -/
def TxtAt (w : World) (N : Nat) (s : ByteArray) (pos : Nat) (dv : Value) (ys : List Int) (wr : World) : Prop :=
  ((wr.cell? ⟨N, 0, none⟩ = some (.bool true) ∧ wr.cell? ⟨N, 1, none⟩ = some (.slice none 0 0) ∧ wr.cell? ⟨N, 2, none⟩ = some dv) ∧ wr.frozen? ⟨N, 1, none⟩ = false ∧ wr.frozen? ⟨N, 2, none⟩ = false) ∧
  wr.heap[N + 1]? = some (.stringIter s pos) ∧ Own wr (N + 1 + 1) dv ys ∧ BoxF wr w.heap.size false none 0 0 none 0 0 ∧ Below w.heap.size w wr ∧ N + 1 + 1 ≤ wr.heap.size
theorem TxtAt.next {w wr : World} {N pos : Nat} {s : ByteArray} {dv : Value} {ys : List Int} (h : TxtAt w N s pos dv ys wr) (hN : w.heap.size < N) (pos' : Nat) : TxtAt w N s pos' dv ys (wr.iterAt (N + 1) s pos') := by
  obtain ⟨⟨⟨c0, c1, c2⟩, f1, f2⟩, hit, hown, hbox, hbel, hsz⟩ := h
  have e := Lib.iterAt_other wr (N + 1) N s pos' (by omega)
  exact ⟨⟨⟨(cell_of_eq e 0).trans c0, (cell_of_eq e 1).trans c1, (cell_of_eq e 2).trans c2⟩, (frozen_of_eq e 1).trans f1, (frozen_of_eq e 2).trans f2⟩, Lib.iterAt_heap wr (N + 1) s pos pos' hit, hown.iterAt (by omega) _ _,
    boxF_eq hbox (Lib.iterAt_other wr (N + 1) _ s pos' (by omega)), Lib.below_iterAt hbel (by omega) _ _, by rw [Lib.iterAt_size]; exact hsz⟩
theorem TxtAt.step {w wr w' : World} {N pos : Nat} {s : ByteArray} {dv v' : Value} {ys zs : List Int} (h : TxtAt w N s pos dv ys wr) (hN : w.heap.size < N) (hb : Below (N + 1 + 1) wr w') (ho : Own w' (N + 1 + 1) v' zs) :
    TxtAt w N s pos v' zs (w'.setCell ⟨N, 2, none⟩ v') := by
  obtain ⟨⟨⟨c0, c1, c2⟩, f1, f2⟩, hit, hown, hbox, hbel, hsz⟩ := h
  have e := hb.block N (by omega)
  refine ⟨⟨⟨?_, ?_, ?_⟩, ?_, ?_⟩, ?_, ho.setCell _ _ (by show N < _; omega), ?_, (hbel.trans (hb.mono (by omega))).setCell (by show w.heap.size ≤ N; omega) _, ?_⟩
  · rw [World.cell?_setCell_other _ _ _ _ (by simp)]; exact (cell_of_eq e 0).trans c0
  · rw [World.cell?_setCell_other _ _ _ _ (by simp)]; exact (cell_of_eq e 1).trans c1
  · exact cell?_set_same _ _ _ (by rw [(cell_of_eq e 2).trans c2]; rfl)
  · rw [World.frozen?_setCell]; exact (frozen_of_eq e 1).trans f1
  · rw [World.frozen?_setCell]; exact (frozen_of_eq e 2).trans f2
  · rw [heap_setCell_other _ _ _ _ (by show N + 1 ≠ N; omega), hb.block _ (by omega)]; exact hit
  · exact boxF_eq hbox (by rw [heap_setCell_other _ _ _ _ (by show w.heap.size ≠ N; omega), hb.block _ (by omega)])
  · have := hb.size; simp; omega

set_option maxRecDepth 20000 in
set_option maxHeartbeats 4000000 in
theorem text_any (s : ByteArray) (w : World) (hs : s.size ≤ maxLen) (hT : Tabs8 w) :
    Calls Tryd.prog 12 #[.string s] w fun e w' => ArrPost (M.text s.data.toList) w e w' := by
  have hsz : s.size ≤ 9223372036854775807 := by unfold maxLen at hs; omega
  have hv := fun w h => valid_any s w hsz h
  have hT1 := hT.below (push (start w) (.cells #[.bool false, .slice none 0 0, .slice none 0 0] 24))
  have E := (Env.start w).box false none 0 0 none 0 0
  clear hT hs
  replace hv := Lib.hid hv
  cases hval : Lib.validD s.data.toList with
  | false =>
    have hr := Lib.hid (show M.text s.data.toList = .error 6 from if_pos hval)
    rw [hval] at hv
    replace hval := Lib.hid hval
    go_enter Tryd.func12, Tryd.ntmps12
    go_wp2_with fail
    refine (hv.out _ hT1).mono ?_
    rintro e w1 ⟨rfl, hb⟩
    replace E := E.step hb
    obtain ⟨⟨u0, u1, u2⟩, g0, g1, g2⟩ := E.getBox 0 rfl
    go_wp2
    refine bodyPost_ret (v := .tuple #[arrV false none 0 0 none 0 0, .iface 34 (.int .i64 6)]) (by simp [results, Tryd.results12, go_sem, cell?_set_same, u0, u1, u2]) rfl ?_
    exact .error hr.out rfl (set3 E.bel (by omega) _ _ _)
  | true =>
    have hr := Lib.hid (show M.text s.data.toList = if 4096 < (runesD s.data.toList).length then .error 7 else .ok ⟨true, [((runesD s.data.toList).length : Int)], runesD s.data.toList⟩ from if_neg (by rw [hval]; exact Bool.noConfusion))
    rw [hval] at hv
    replace hval := Lib.hid hval
    go_enter Tryd.func12, Tryd.ntmps12
    go_wp2_with fail
    refine (hv.out _ hT1).mono ?_
    rintro e w1 ⟨rfl, hb⟩
    replace E := E.step hb
    have hN : w.heap.size < w1.heap.size := (E.getBox 0 rfl).lt
    have E1 := E.box true none 0 0 none 0 0
    clear hb hT1 hv
    go_wp2
    go_loopw [] (fun wr => ∃ (pos : Nat) (dv : Value) (ys : List Int), TxtAt w w1.heap.size s pos dv ys wr ∧ ys ++ runesD (s.data.toList.drop pos) = runesD s.data.toList ∧ ys.length ≤ 4096) (fun wr => s.size - wr.iterPos (w1.heap.size + 1))
    case atStart =>
      have hit := World.iter_heap (w1.alloc (.cells #[.bool true, .slice none 0 0, .slice none 0 0] 24)) s 0
      rw [World.size_alloc] at hit
      have E2 := E1.step (push (start _) (.stringIter s 0))
      obtain ⟨⟨c0, c1, c2⟩, f0, f1, f2⟩ := E2.getBox 0 rfl
      exact ⟨0, _, [], ⟨⟨⟨c0, c1, c2⟩, f1, f2⟩, hit, Own.nil _ _, E2.getBox 1 rfl, E2.bel, (Array.getElem?_eq_some_iff.1 hit).1⟩, rfl, Nat.zero_le _⟩
    case round =>
      clear E E1
      obtain ⟨pos, dv, ys, hI, hacc, hlen⟩ := hrel
      have hit := hI.2.1
      by_cases hp : pos < s.size
      · have hnx : ∀ ty, (Instr.next (.pointer (some ⟨w1.heap.size + 1, 0, none⟩)) true ty).run Tryd.prog wr = _ := fun ty => Lib.run_next_any_at wr (w1.heap.size + 1) s pos ty hit hp
        have hwd := Lib.width_pos s pos
        have hrl := Lib.rune_le s pos
        have hne : s.data.toList.drop pos ≠ [] := fun h => by
          have := congrArg List.length h
          rw [List.length_drop, ← Lib.size_eq] at this
          simp at this; omega
        have hst := runesD_step _ hne
        rw [Lib.decodeL_drop, List.drop_drop] at hst
        have hI2 := hI.next hN (pos + (Utf8.decode s pos).2)
        have hpos : wr.iterPos (w1.heap.size + 1) = pos := by simp only [World.iterPos, hit]
        generalize (Utf8.decode s pos).1 = r at *
        generalize (Utf8.decode s pos).2 = wd at *
        rw [hst] at hacc
        obtain ⟨wi, hwi⟩ : ∃ wi, wi = wr.iterAt (w1.heap.size + 1) s (pos + wd) := ⟨_, rfl⟩
        rw [← hwi] at hnx hI2
        obtain ⟨⟨⟨c0, c1, c2⟩, f1, f2⟩, hit2, hown, hbox, hbel, hsz2⟩ := id hI2
        obtain ⟨av, cv, rfl, -, -, -⟩ := hown.view
        replace hwi := Lib.hid hwi
        replace hst := Lib.hid hst
        replace hpos := Lib.hid hpos
        clear hI hit hne
        by_cases hf : ys.length = 4096
        · have hl := congrArg List.length hacc
          rw [List.length_append, List.length_cons] at hl
          have hr2 := Lib.hid (hr.out.trans (if_pos (by omega)))
          have e4 : ((ys.length : Int) == 4096) = true := by rw [beq_iff_eq]; omega
          obtain ⟨⟨z0, z1, z2⟩, y0, y1, y2⟩ := hbox
          clear hl hf
          replace hacc := Lib.hid hacc
          go_wp2
          refine bodyPost_ret (v := .tuple #[arrV false none 0 0 none 0 0, .iface 34 (.int .i64 7)]) (by simp [results, Tryd.results12, go_sem, cell?_set_same, z0, z1, z2]) rfl ?_
          exact .error hr2.out rfl (set3 hbel (by omega) _ _ _)
        · have e4 : ((ys.length : Int) == 4096) = false := by rw [beq_eq_false_iff_ne]; omega
          have hll : ys.length < 17592186044416 := by omega
          have hl1 : (ys ++ [(r : Int)]).length ≤ 4096 := by simp; omega
          have hac2 : (ys ++ [(r : Int)]) ++ runesD (s.data.toList.drop (pos + wd)) = runesD s.data.toList := by rw [List.append_assoc]; exact hacc
          have hrw : wrap64 (r : Int) = (r : Int) := IntWalk.wrap64_in _ (by omega)
          clear hf hacc
          replace hac2 := Lib.hid hac2
          replace hlen := Lib.hid hlen
          replace hl1 := Lib.hid hl1
          replace hI2 := Lib.hid hI2
          go_wp2_with (at_builtin; refine app_int rfl (.tmp 25) (.tmp 28) rfl (w1.heap.size + 1 + 1) _ ys (r : Int) rfl hown rfl hll hsz2 ?_; intro v' w' ho' hb' hl'; have d2 := (hb'.cell (by show w1.heap.size < _; omega)).trans c2; obtain ⟨a', k', rfl, -, -, -⟩ := ho'.view; have g2 := (hb'.frozen (by show w1.heap.size < _; omega)).trans f2; have hin := Lib.hid (hI2.out.step hN hb' ho'))
          go_roundw
          case rel => exact ⟨pos + wd, _, _, by have h := hin.out; rw [List.length_append] at h; exact h, hac2.out, hl1.out⟩
          case measure =>
            have h1 := hin.out.2.1
            have hp2 : ∀ W : World, W.heap[w1.heap.size + 1]? = some (.stringIter s (pos + wd)) → W.iterPos (w1.heap.size + 1) = pos + wd := fun W h => by simp only [World.iterPos, h]
            have e2 := hp2 (w'.setCell ⟨w1.heap.size, 2, none⟩ (.slice a' (ys.length + 1) k')) (by have h := h1; rw [List.length_append] at h; exact h)
            rw [e2, hpos.out]; omega
      · have hnx : ∀ ty, (Instr.next (.pointer (some ⟨w1.heap.size + 1, 0, none⟩)) true ty).run Tryd.prog wr = _ := fun ty => Lib.run_next_end_at wr (w1.heap.size + 1) s pos ty hit hp
        have hd : s.data.toList.drop pos = [] := List.drop_eq_nil_of_le (by rw [← Lib.size_eq]; omega)
        rw [hd, runesD_nil, List.append_nil] at hacc
        have hr2 := Lib.hid (hr.out.trans (if_neg (by rw [← hacc]; omega)))
        rw [← hacc] at hr2
        obtain ⟨⟨⟨c0, c1, c2⟩, f1, f2⟩, hit2, hown, hbox, hbel, hsz2⟩ := hI
        obtain ⟨av, cv, rfl, -, -, -⟩ := hown.view
        have hne : w1.heap.size ≠ w.heap.size := by omega
        have hlt1 : w1.heap.size < wr.heap.size := by omega
        have hrow := hown.row
        clear hd hit hit2 hacc hr
        replace hown := Lib.hid hown
        go_upto_region 11 with fail
        obtain ⟨wS, hwS⟩ : ∃ wS : World, wS = wr.setCell ⟨w1.heap.size, 1, none⟩ (.slice (some ⟨wr.heap.size, 0, none⟩) 1 1) := ⟨_, rfl⟩
        have hsS : wS.heap.size = wr.heap.size := by rw [hwS]; simp
        obtain ⟨w9, hw9⟩ : ∃ w9 : World, w9 = wS.alloc (.cells #[.int .i64 (ys.length : Int)] 3) := ⟨_, rfl⟩
        rw [← hwS, ← hw9]
        have hbS : Below w.heap.size w wS := by rw [hwS]; exact hbel.setCell (by show w.heap.size ≤ w1.heap.size; omega) _
        have hb9 : Below w.heap.size w w9 := by rw [hw9]; exact hbS.alloc hbS.size _
        have old : ∀ (b o : Nat) (u : Value), b < wr.heap.size → wS.cell? ⟨b, o, none⟩ = some u → w9.cell? ⟨b, o, none⟩ = some u := fun b o u hl h => by
          rw [hw9]; exact ((push (start wS) _).cell (by show b < wS.heap.size; omega)).trans h
        have k0 : w9.cell? ⟨w1.heap.size, 0, none⟩ = some (.bool true) := old _ _ _ hlt1 (by rw [hwS, World.cell?_setCell_other _ _ _ _ (by simp)]; exact c0)
        have k1 : w9.cell? ⟨w1.heap.size, 1, none⟩ = some (.slice (some ⟨wr.heap.size, 0, none⟩) 1 1) := old _ _ _ hlt1 (by rw [hwS]; exact cell?_set_same _ _ _ (by rw [c1]; rfl))
        have k2 : w9.cell? ⟨w1.heap.size, 2, none⟩ = some (.slice av ys.length cv) := old _ _ _ hlt1 (by rw [hwS, World.cell?_setCell_other _ _ _ _ (by simp)]; exact c2)
        have kb : BoxF w9 w.heap.size false none 0 0 none 0 0 := boxF_eq hbox (by rw [hw9, (push (start wS) _).block _ (by omega), hwS, heap_setCell_other _ _ _ _ (by show w.heap.size ≠ w1.heap.size; omega)])
        have ks : Row w9 (some ⟨wr.heap.size, 0, none⟩) [(ys.length : Int)] := by rw [hw9, ← hsS]; exact row_lit wS [(ys.length : Int)] _ _ rfl
        have kd : Row w9 av ys := by
          rw [hw9, hwS]
          exact ((hown.out.setCell ⟨w1.heap.size, 1, none⟩ _ (by show w1.heap.size < _; omega)).below (push (start _) _)).row
        obtain ⟨⟨z0, z1, z2⟩, y0, y1, y2⟩ := kb
        replace hw9 := Lib.hid hw9
        replace hwS := Lib.hid hwS
        replace hsS := Lib.hid hsS
        clear old c0 c1 c2 f1 f2 hbox hrow
        go_wp2
        refine bodyPost_ret (v := .tuple #[arrV true (some ⟨wr.heap.size, 0, none⟩) 1 1 av ys.length cv, .nilIface]) (by simp [results, Tryd.results12, go_sem, cell?_set_same, z0, z1, z2]) rfl ?_
        refine ArrPost.ok (x := ⟨true, [(ys.length : Int)], ys⟩) hr2.out rfl ?_ ?_ (set3 hb9 (by omega) _ _ _)
        · exact ((Row.set_ne ks z0 (by simp)).set_ne ((World.cell?_setCell_other _ _ _ _ (by simp)).trans z1) (by simp)).set_ne ((World.cell?_setCell_other _ _ _ _ (by simp)).trans ((World.cell?_setCell_other _ _ _ _ (by simp)).trans z2)) (by simp)
        · exact ((Row.set_ne kd z0 (by simp)).set_ne ((World.cell?_setCell_other _ _ _ _ (by simp)).trans z1) (by simp)).set_ne ((World.cell?_setCell_other _ _ _ _ (by simp)).trans ((World.cell?_setCell_other _ _ _ _ (by simp)).trans z2)) (by simp)
end Go.Proofs.YtcenhemlgapkeaaDoor
