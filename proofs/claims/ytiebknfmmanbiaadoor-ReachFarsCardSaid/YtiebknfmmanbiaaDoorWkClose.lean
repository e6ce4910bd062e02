/- The call reach.Close: where one comes at last, as an array of 0 and 1. Condition: rows that lie as lists of ints. -/
import Derived.Test.YtiebknfmmanbiaaDoorWkRead
import Derived.Test.YtiebknfmmanbiaaDoorOutAt
import Derived.Test.YtiebknfmmanbiaaDoorBdA
namespace Go.Proofs.YtiebknfmmanbiaaDoor
open Go.RowKit

/-- A relation's cells, row by row. -/
def relCells (n : Nat) (F : Nat → Nat → Bool) : List Int := (List.range (n * n)).map fun p => if F (p / n) (p % n) then 1 else 0

theorem relCells_length (n : Nat) (F : Nat → Nat → Bool) : (relCells n F).length = n * n := by simp [relCells]
theorem relCells_get {n : Nat} (F : Nat → Nat → Bool) {i j : Nat} (hi : i < n) (hj : j < n) : (relCells n F).getD (i * n + j) 0 = if F i j then 1 else 0 := by
  have h := index_lt hi hj
  have e := (at_index (p := i * n + j) (i := i) hj).1 rfl
  rw [List.getD_eq_getElem?_getD]
  simp only [relCells, List.getElem?_map, List.getElem?_range h, Option.map_some, Option.getD_some]
  rw [← e.1, ← e.2]
theorem relCells_take {n : Nat} (F : Nat → Nat → Bool) {i j : Nat} (hi : i < n) (hj : j < n) : (relCells n F).take (i * n + j + 1) = (relCells n F).take (i * n + j) ++ [if F i j then 1 else 0] := by
  have h := index_lt hi hj
  rw [List.take_succ_eq_append_getElem (by rw [relCells_length]; exact h)]
  have := relCells_get F hi hj
  rw [List.getD_eq_getElem?_getD, List.getElem?_eq_getElem (by rw [relCells_length]; exact h)] at this
  rw [← this]; rfl

namespace M
def close (x : Arr) : Except Int Arr := if relFault x = 0 then .ok ⟨false, [(relN x : Int), (relN x : Int)], relCells (relN x) (Re.clo (relN x) (relE x))⟩ else .error (relFault x)
end M

/-- Masks written anew: rows, boxes and words stay. -/
theorem Env.masks {w0 w : World} {L : List Fact} {g : Nat} {T : List Nat} {t : TypeId} (h : Env w0 w L) (hg : w.heap[g]? = some (.cells (maskCells T) t (0, 0))) (hB : w0.heap.size ≤ g) (C : Array Value) : Env w0 (w.setRow g C) L := by
  have key : ∀ (b o : Nat) (v : Value), (∀ n, v ≠ .int .u32 n) → w.cell? ⟨b, o, none⟩ = some v → b ≠ g := by
    intro b o v hv hc e
    subst e
    rw [cell_of_row w b o _ t (0, 0) hg] at hc
    simp only [maskCells, List.getElem?_toArray, List.getElem?_map] at hc
    cases hT : T[o]? with
    | none => rw [hT] at hc; cases hc
    | some m => rw [hT] at hc; exact hv _ (Option.some.inj hc).symm
  refine ⟨below_setRow h.1 g C hB, fun i f hf => ?_⟩
  have hh := h.2 i f hf
  cases f with
  | row a xs =>
    intro i hi
    obtain ⟨b, o, e, hc⟩ := (show Row w a xs from hh) i hi
    exact ⟨b, o, e, (cell_setRow_other w g C _ (key b _ _ (by simp) hc)).trans hc⟩
  | box N ch a m c b n z =>
    obtain ⟨⟨x0, x1, x2⟩, y0, y1, y2⟩ : BoxF w N ch a m c b n z := hh
    have hne := key N 0 _ (by simp) x0
    have e : (w.setRow g C).heap[N]? = w.heap[N]? := setRow_other w g N C hne
    exact ⟨⟨(cell_of_eq e 0).trans x0, (cell_of_eq e 1).trans x1, (cell_of_eq e 2).trans x2⟩, (frozen_of_eq e 0).trans y0, (frozen_of_eq e 1).trans y1, (frozen_of_eq e 2).trans y2⟩
  | word p T' v =>
    have hc : w.cell? p = some (.iface T' v) := hh
    show (w.setRow g C).cell? p = some (.iface T' v)
    rw [cell_setRow_other w g C p ?_]
    · exact hc
    · intro e
      have hs : p.spot = none := World.cell?_spot hc
      obtain ⟨pb, po, ps⟩ := p
      simp only at hs e
      subst hs
      exact key pb po _ (by simp) hc e

set_option maxHeartbeats 8000000 in
theorem closeF_any (ch : Bool) (a b : Option Addr) (s d : List Int) (m c n z : Nat) (w : World) (hs : Row w a s) (hd : Row w b d) (ls : s.length ≤ maxLen) (ld : d.length ≤ maxLen) (em : m = s.length) (en : n = d.length) :
    Calls Tryd.prog 25 #[arrV ch a m c b n z] w fun e w' => ArrPostF (M.close ⟨ch, s, d⟩) w e w' := by
  subst em
  subst en
  have hread := fun w h1 h2 => read_any ch a b s d _ c _ z w h1 h2 ls ld rfl rfl
  have E := ((((Env.start w).addRow hd).addRow hs).box ch a s.length c b d.length z).box false none 0 0 none 0 0
  rw [World.size_alloc] at E
  have hi : ∀ T, Masks T → (Tryd.prog.info? 79).map (·.size) = some (maskCells T).size := fun T h => by rw [mask_size, h.1]; exact Tryd.infoThings
  have hsz : ∀ T U, Masks T → Masks U → (maskCells U).size = (maskCells T).size := fun T U h k => by rw [mask_size, mask_size, h.1, k.1]
  replace hi := Lib.hid hi
  replace hsz := Lib.hid hsz
  replace hread := Lib.hid hread
  by_cases hf : M.relFault ⟨ch, s, d⟩ = 0
  case neg =>
    have hr := Lib.hid (show M.close ⟨ch, s, d⟩ = .error (M.relFault ⟨ch, s, d⟩) from if_neg hf)
    replace hf := Lib.hid hf
    go_enter Tryd.func25, Tryd.ntmps25
    go_wp2_with fail
    refine (hread.out _ (E.getRow 2 rfl) (E.getRow 3 rfl)).mono ?_
    intro e w1 hp
    obtain ⟨T, rfl, hM⟩ := hp.2.1 hf.out
    have hb := hp.2.2
    clear hp
    replace E := E.step hb
    generalize M.relFault ⟨ch, s, d⟩ = nn at *
    have X := heap_alloc_new w1 (.cells (maskCells zeros24) 79)
    rw [zeros_cells] at X
    replace hM := Lib.hid hM
    have E2 := E.step (below_setRow (push (start w1) (.cells (maskCells zeros24) 79)) w1.heap.size (maskCells T) (Nat.le_refl _))
    rw [zeros_cells] at E2
    obtain ⟨⟨u0, u1, u2⟩, g0, g1, g2⟩ := E2.getBox 0 rfl
    go_wp2_with (refine wpList_store_row rfl 79 _ _ rfl w1.heap.size _ rfl rfl _ _ X (hi.out _ hM.out) (hsz.out _ _ hM.out masks_zero) (mask_one _) ?_)
    refine bodyPost_ret (v := .tuple #[arrV false none 0 0 none 0 0, .iface 39 (.int .i64 nn)]) (by simp [results, Tryd.results25, go_sem, cell?_set_same, u0, u1, u2]) rfl ?_
    exact .error hr.out rfl (set3 E2.bel (by omega) _ _ _)
  case pos =>
    have hr := Lib.hid (show M.close ⟨ch, s, d⟩ = .ok ⟨false, [(M.relN ⟨ch, s, d⟩ : Int), (M.relN ⟨ch, s, d⟩ : Int)], relCells (M.relN ⟨ch, s, d⟩) (Re.clo (M.relN ⟨ch, s, d⟩) (M.relE ⟨ch, s, d⟩))⟩ from if_pos hf)
    replace hf := Lib.hid hf
    go_enter Tryd.func25, Tryd.ntmps25
    go_wp2_with fail
    refine (hread.out _ (E.getRow 2 rfl) (E.getRow 3 rfl)).mono ?_
    intro e w1 hp
    obtain ⟨T, rfl, hM, hT, hn⟩ := hp.1 hf.out
    have hb := hp.2.2
    clear hp
    replace E := E.step hb
    have n1 : w.heap.size + 1 < w1.heap.size := (E.getBox 0 rfl).lt
    clear hb
    generalize M.relE ⟨ch, s, d⟩ = F at *
    generalize M.relN ⟨ch, s, d⟩ = n at *
    have X := heap_alloc_new w1 (.cells (maskCells zeros24) 79)
    have Y := setRow_heap _ _ _ (maskCells T) _ _ X
    replace E := E.step (below_setRow (push (start w1) (.cells (maskCells zeros24) 79)) w1.heap.size (maskCells T) (Nat.le_refl _))
    rw [zeros_cells] at E X Y
    replace hM := Lib.hid hM
    replace hT := Lib.hid hT
    have SZ : ((w1.alloc (.cells #[.int .u32 0, .int .u32 0, .int .u32 0, .int .u32 0, .int .u32 0, .int .u32 0, .int .u32 0, .int .u32 0, .int .u32 0, .int .u32 0, .int .u32 0, .int .u32 0, .int .u32 0, .int .u32 0, .int .u32 0, .int .u32 0, .int .u32 0, .int .u32 0, .int .u32 0, .int .u32 0, .int .u32 0, .int .u32 0, .int .u32 0, .int .u32 0] 79)).setRow w1.heap.size (maskCells T)).heap.size = w1.heap.size + 1 := by simp
    replace SZ := Lib.hid SZ
    go_wp2_with (first
      | (refine wpList_store_row rfl 79 _ _ rfl w1.heap.size _ rfl rfl _ _ X (hi.out _ hM.out) (hsz.out _ _ hM.out masks_zero) (mask_one _) ?_)
      | (refine wpList_load_row rfl 79 _ rfl w1.heap.size rfl _ _ _ _ Y Tryd.underlying79 rfl (hi.out _ hM.out) ?_))
    refine (closed_any T n _ hM.out hn).mono ?_
    rintro e w2 ⟨T2, rfl, hM2, hE2, hb⟩
    have X2 := (hb.block w1.heap.size (by rw [SZ.out]; omega)).trans Y
    have Y2 := setRow_heap _ _ _ (maskCells T2) _ _ X2
    have S2 := hb.size
    rw [SZ.out] at S2
    have hG : ∀ i j, i < n → bitE T2 i j = Re.clo n F i j := fun i j hi => by
      rw [hE2 i j hi, show bitE T = F from funext fun i => funext fun j => hT.out i j]; rfl
    have E3 := (E.step hb).masks X2 (by omega) (maskCells T2)
    have E4 := (E3.alloc (.cells #[.int .i64 (n : Int), .int .i64 (n : Int)] 3)).box false (some ⟨w2.heap.size, 0, none⟩) 2 2 none 0 0
    simp only [World.size_alloc, size_setRow] at E4
    obtain ⟨wB, hwB⟩ : ∃ wB : World, wB = ((w2.setRow w1.heap.size (maskCells T2)).alloc (.cells #[.int .i64 (n : Int), .int .i64 (n : Int)] 3)).alloc (.cells #[.bool false, .slice (some ⟨w2.heap.size, 0, none⟩) 2 2, .slice none 0 0] 24) := ⟨_, rfl⟩
    rw [← hwB] at E4
    have YB : wB.heap[w1.heap.size]? = some (.cells (maskCells T2) 79 (0, 0)) := by
      rw [hwB, heap_alloc_old _ _ (by simp; omega), heap_alloc_old _ _ (by simp; omega)]; exact Y2
    have RB : wB.heap[w2.heap.size]? = some (.cells #[.int .i64 (n : Int), .int .i64 (n : Int)] 3 (0, 0)) := by
      rw [hwB, heap_alloc_old _ _ (by simp)]
      have := heap_alloc_new (w2.setRow w1.heap.size (maskCells T2)) (.cells #[.int .i64 (n : Int), .int .i64 (n : Int)] 3)
      rw [size_setRow] at this
      exact this
    have SB : wB.heap.size = w2.heap.size + 1 + 1 := by rw [hwB]; simp
    have ZB := E4.getBox 1 rfl
    have OB : OutAt w wB (w2.heap.size + 1) (w2.heap.size + 1 + 1) false (.slice (some ⟨w2.heap.size, 0, none⟩) 2 2) (.slice none 0 0) [] wB := by
      obtain ⟨⟨x0, x1, x2⟩, y0, y1, y2⟩ := E4.getBox 0 rfl
      exact ⟨⟨⟨x0, x1, x2⟩, y2⟩, Own.nil _ _, E4.bel, by omega, fun b _ _ => rfl⟩
    clear E E3 E4 hb
    replace hG := Lib.hid hG
    replace hM2 := Lib.hid hM2
    replace YB := Lib.hid YB
    replace RB := Lib.hid RB
    replace ZB := Lib.hid ZB
    replace OB := Lib.hid OB
    replace SB := Lib.hid SB
    replace hwB := Lib.hid hwB
    clear hE2 X Y
    have hLn := relCells_length n (Re.clo n F)
    have hN1 := Lib.hid (show w.heap.size ≤ w2.heap.size + 1 by omega)
    replace hLn := Lib.hid hLn
    go_wp2_with (refine wpList_store_row rfl 79 _ _ rfl w1.heap.size _ rfl rfl _ _ X2 (hi.out _ hM2.out) (hsz.out _ _ hM2.out hM.out) (mask_one _) ?_)
    clear X2 Y2
    go_loopw [28] (fun v wr => ∃ (i : Nat) (dv : Value), i ≤ n ∧ v = .int .i64 i ∧ OutAt w wB (w2.heap.size + 1) (w2.heap.size + 1 + 1) false (.slice (some ⟨w2.heap.size, 0, none⟩) 2 2) dv ((relCells n (Re.clo n F)).take (i * n)) wr) (fun v _ => n - (intOf v).toNat)
    case atStart =>
      refine ⟨0, .slice none 0 0, Nat.zero_le _, rfl, ?_⟩
      rw [Nat.zero_mul, List.take_zero, ← hwB.out]
      exact OB.out
    case round =>
      obtain ⟨i, dv, hin, rfl, hO⟩ := hrel
      by_cases hlt : i < n
      · obtain ⟨wo, hwo⟩ : ∃ wo : World, wo = wr := ⟨_, rfl⟩
        subst hwo
        replace hO := Lib.hid hO
        go_wp2
        go_loopw [32] (fun v wr => ∃ (j : Nat) (dv : Value), j ≤ n ∧ v = .int .i64 j ∧ OutAt w wB (w2.heap.size + 1) (w2.heap.size + 1 + 1) false (.slice (some ⟨w2.heap.size, 0, none⟩) 2 2) dv ((relCells n (Re.clo n F)).take (i * n + j)) wr) (fun v _ => n - (intOf v).toNat)
        case atStart => exact ⟨0, dv, Nat.zero_le _, rfl, hO.out⟩
        case round =>
          clear hO dv
          obtain ⟨j, dv, hjn, rfl, hO⟩ := hrel
          by_cases hlj : j < n
          · obtain ⟨⟨⟨c0, c1, c2⟩, f2⟩, hown, hbel, hsz2, hrest⟩ := id hO
            have hq := index_lt hlt hlj
            have hnn : n * n ≤ 24 * 24 := Nat.mul_le_mul hn hn
            have htk := relCells_take (Re.clo n F) hlt hlj
            have hlk : ((relCells n (Re.clo n F)).take (i * n + j)).length = i * n + j := by rw [List.length_take, hLn.out]; omega
            obtain ⟨q, hq2⟩ : ∃ q, q = i * n + j := ⟨_, rfl⟩
            rw [← hq2] at hq htk hlk hown hO
            have cm := mask_cell ((hrest w1.heap.size (by omega) (by omega)).trans YB.out) (k := i) (by have := hM2.out.1; omega)
            have bb := hM2.out.get i
            have i24 : (i : Int) < 24 := by omega
            have ht := shr_and bb j
            have hbt : (T2.getD i 0).testBit j = Re.clo n F i j := hG.out i j hlt
            rw [hbt] at ht
            obtain ⟨bv, hbv⟩ : ∃ bv : Int, bv = if Re.clo n F i j = true then 1 else 0 := ⟨_, rfl⟩
            rw [← hbv] at ht htk
            have bv0 : 0 ≤ bv := by rw [hbv]; split <;> decide
            have bv1 : bv ≤ 1 := by rw [hbv]; split <;> decide
            have wv : wrap64 bv = bv := IntWalk.wrap64_in _ (by omega)
            have wv2 : IntKind.i64.wrap bv = bv := by rw [IntKind.wrap_i64]; omega
            generalize T2.getD i 0 = A at *
            generalize (relCells n (Re.clo n F)).take q = ys at *
            obtain ⟨av, cv, rfl, _, _, _⟩ := hown.view
            rw [hlk] at c2 hown hO
            obtain ⟨c0', c1', c2'⟩ := alloc3 ⟨c0, c1, c2⟩ (.cells #[.int .i64 bv] 3)
            have hownA : Own (wr.alloc (.cells #[.int .i64 bv] 3)) (w2.heap.size + 1 + 1) (.slice av q cv) ys := hown.below (push (start wr) _)
            have hown' : Own (wr.alloc (.cells #[.int .i64 bv] 3)).drew (w2.heap.size + 1 + 1) (.slice av q cv) ys := hownA
            have hBr : Below (w2.heap.size + 1 + 1) wr (wr.alloc (.cells #[.int .i64 bv] 3)).drew := ((Below.refl _ wr).alloc hsz2 _).drew
            have hlen : ys.length < 17592186044416 := by omega
            have hlk2 := Lib.hid (show q + 1 = ys.length + 1 by rw [hlk])
            clear hownA hown hbv hbt hrest
            replace hlk := Lib.hid hlk
            replace htk := Lib.hid htk
            replace hq2 := Lib.hid hq2
            go_wp2_with fail
            go_region_law ((refine step_app_int rfl (.tmp 36) (.tmp 44) rfl (w2.heap.size + 1 + 1) _ ys bv wr.heap.size rfl hown' rfl (by simp [go_sem]) hlen (by simp; omega) (q + 1) hlk2.out ?_; intro a' c' w' ho' hb'; have d2 := (hb'.cell (by show w2.heap.size + 1 < _; omega)).trans ((hBr.cell (by show w2.heap.size + 1 < _; omega)).trans c2); have g2 := (hb'.frozen (by show w2.heap.size + 1 < _; omega)).trans ((hBr.frozen (by show w2.heap.size + 1 < _; omega)).trans f2)))
            all_goals go_wp2
            all_goals go_roundw
            all_goals
              first
                | exact ⟨j + 1, _, by omega, by go_num, by rw [← Nat.add_assoc, ← hq2.out, htk.out]; exact hO.step hN1.out (Nat.lt_succ_self _) (hBr.trans hb') ho'⟩
                | (simp [intOf]; omega)
          · obtain rfl : j = n := by omega
            go_wp2
            go_roundw
            case rel => exact ⟨i + 1, dv, by omega, by go_num, by rw [Nat.add_mul, Nat.one_mul]; exact hO⟩
            case measure => simp [intOf]; omega
      · obtain rfl : i = n := by omega
        rw [List.take_of_length_le (by rw [hLn.out]; exact Nat.le_refl _)] at hO
        obtain ⟨⟨z0, z1, z2⟩, g0, g1, g2⟩ := hO.box (by omega) (by omega) ZB.out
        obtain ⟨⟨⟨c0, c1, c2⟩, f2⟩, hown, hbel, hsz2, hrest⟩ := id hO
        have hRB := (hrest w2.heap.size (by omega) (by omega)).trans RB.out
        have hrow : Row wr (some ⟨w2.heap.size, 0, none⟩) [(i : Int), (i : Int)] := row_two (by rw [cell_of_row _ _ _ _ _ _ hRB]; rfl) (by rw [cell_of_row _ _ _ _ _ _ hRB]; rfl)
        have hne : w.heap.size + 1 ≠ w2.heap.size := by omega
        have p5 : w.heap.size + 1 < w2.heap.size + 1 + 1 := by omega
        obtain ⟨av, cv, rfl, _, _, rv⟩ := hown.view
        clear hrest hRB hO
        go_wp2
        refine bodyPost_ret (v := .tuple #[arrV false (some ⟨w2.heap.size, 0, none⟩) 2 2 av (relCells i (Re.clo i F)).length cv, .nilIface]) (by simp [results, Tryd.results25, go_sem, cell?_set_same, z0, z1, z2]) rfl ?_
        exact .ok (x := ⟨false, [(i : Int), (i : Int)], relCells i (Re.clo i F)⟩) hr.out rfl (((hrow.setFar _ _ hne).setFar _ _ hne).setFar _ _ hne) (((hown.setCell _ _ p5).setCell _ _ p5).setCell _ _ p5).row (fun p e => by cases e; show w.heap.size ≤ w2.heap.size; omega) (fun p e => by have h := own_fresh hown p e; omega) (by simp) (set3 hbel (by omega) _ _ _)

theorem ArrPostF.post {r : Except Int Arr} {w w' : World} {e : Ending} (h : ArrPostF r w e w') : ArrPost r w e w' :=
  ⟨h.1, fun x hx => by obtain ⟨a, c, b, k, h1, h2, h3, -, -, -⟩ := h.2.1 x hx; exact ⟨a, c, b, k, h1, h2, h3⟩, h.2.2⟩
theorem close_any (ch : Bool) (a b : Option Addr) (s d : List Int) (m c n z : Nat) (w : World) (hs : Row w a s) (hd : Row w b d) (ls : s.length ≤ maxLen) (ld : d.length ≤ maxLen) (em : m = s.length) (en : n = d.length) :
    Calls Tryd.prog 25 #[arrV ch a m c b n z] w fun e w' => ArrPost (M.close ⟨ch, s, d⟩) w e w' :=
  (closeF_any ch a b s d m c n z w hs hd ls ld em en).mono fun _ _ h => h.post

end Go.Proofs.YtiebknfmmanbiaaDoor
