/- Texts that lie in one file: what is plain, rows, boxes, squares, and what is known of a world. No condition. -/
import Derived.Test.YtaplaoelamnoiaaGreatDoorBg12
import Derived.Test.YtaplaoelamnoiaaGreatDoorBg04
import Derived.Laws.AppendOwnNone
import Derived.Deep.RegionHeld3
import Derived.Deep.Cut
import Derived.Deep.LoopGhost
/- The methods flat: an expression's nodes behind the nodes at hand. Condition: the expression lies; the nodes lie behind it. -/
namespace Go.Proofs.YtaplaoelamnoiaaGreatDoor
open Go.RowKit

def M.flat : Ex → List Nd
  | .nums l => [⟨1, 0, 0, 0, 0, l, ⟨#[]⟩⟩]
  | .name s => [⟨3, 0, 0, 0, 0, [], s⟩]
  | .one o f g r => ⟨6, o, f, g, 0, [], ⟨#[]⟩⟩ :: M.flat r
  | .two l o f g r => ⟨7, o, f, g, 0, [], ⟨#[]⟩⟩ :: (M.flat l ++ M.flat r)
  | .pick e b => ⟨8, 0, 0, 0, 1, [], ⟨#[]⟩⟩ :: (M.flat e ++ M.flat b)
def M.flatFn : Ex → Nat
  | .nums _ => 269
  | .name _ => 260
  | .one _ _ _ _ => 265
  | .two _ _ _ _ _ => 267
  | .pick _ _ => 268
def FlatOk (e : Ex) : Prop := ∀ (g : Nat) (w0 w : World) (T : TypeId) (x v : Value) (l : List Nd), ExV g w0 e (.iface T x) → Below w0.heap.size w0 w → Nds w0.heap.size w v l → l.length + (M.flat e).length ≤ 1000 →
  Calls Tryz.prog (M.flatFn e) #[x, v] w fun en w' => ∃ v', en = .returned v' ∧ Nds w0.heap.size w' v' (l ++ M.flat e) ∧ Fr w0.heap.size w w'

theorem Nds.alloc {B : Nat} {w : World} {v : Value} {l : List Nd} (h : Nds B w v l) (o : Obj) : Nds B (w.alloc o) v l := h.below ((Below.refl _ w).alloc (Nat.le_refl _) o)
theorem Fr.alloc {B : Nat} {w w' : World} (h : Fr B w w') (hB : B ≤ w'.heap.size) (o : Obj) : Fr B w (w'.alloc o) := h.trans (Fr.of_below ((Below.refl _ w').alloc (Nat.le_refl _) o) hB)
/-- A node just laid. -/
theorem nd_cells (w : World) (x : Nd) (sv : Value) (t : TypeId) (b : Nat) (hb : b = w.heap.size) : ∀ j u, (x.cells sv)[j]? = some u → (w.alloc (.cells #[.int .i64 x.op, .int .i64 x.ao, .int .i64 x.af, .int .i64 x.ag, .int .i64 x.n, sv, .string x.text] t)).cell? ⟨b, j, none⟩ = some u := fun j u h => by
  subst hb
  exact (boxC_alloc w #[.int .i64 x.op, .int .i64 x.ao, .int .i64 x.af, .int .i64 x.ag, .int .i64 x.n, sv, .string x.text] t j u h).1

set_option maxRecDepth 20000 in
set_option maxHeartbeats 4000000 in
theorem flat_name (s : ByteArray) : FlatOk (.name s) := by
  intro g w0 w T x v l hx hb hN hl
  cases hx
  show Calls Tryz.prog 260 _ w _
  obtain ⟨a, c, rfl⟩ := hN.view
  have hs := hb.size
  have N2 := Lib.hid ((hN.alloc (.cells #[.string s] 88)).alloc (.cells #[.int .i64 3, .int .i64 0, .int .i64 0, .int .i64 0, .int .i64 0, .slice none 0 0, .string s] 76))
  have F2 := Lib.hid (((Fr.refl w0.heap.size w).alloc hs (.cells #[.string s] 88)).alloc (by simp; omega) (.cells #[.int .i64 3, .int .i64 0, .int .i64 0, .int .i64 0, .int .i64 0, .slice none 0 0, .string s] 76))
  replace hN := Lib.hid hN
  replace hb := Lib.hid hb
  simp only [M.flat, List.length_singleton] at hl
  go_enter Tryz.func260, Tryz.ntmps260
  go_wp2_with (at_builtin; refine app_N rfl (.tmp 5) (.tmp 9) rfl w0.heap.size _ l ⟨3, 0, 0, 0, 0, [], s⟩ (.slice none 0 0) (w.heap.size + 1) rfl N2.out rfl (nd_cells _ ⟨3, 0, 0, 0, 0, [], s⟩ (.slice none 0 0) 76 _ (by simp)) (Own.nil _ _) (by omega) (by simp; omega) ?_; intro a' c' w' hN' hF'; have hN' := Lib.hid hN'; have hF' := Lib.hid hF')
  go_ret
  exact ⟨_, rfl, hN'.out, F2.out.trans hF'.out⟩

/-- A copy of a row of numbers, by append onto nil. -/
theorem app_copy {w : World} {ops : Array Oper} {rest : List Oper} {o : Oper} {a : Act} {Q : Exit → Act → World → Prop} (hgd : o.guard = none) (s x : Operand)
    (ho : o.op = .call { callee := .builtin .append, args := #[s, x], argTypes := #[22, 22] })
    (B : Nat) (sv : Value) (zs : List Int) (hs : a.eval s = .slice none 0 0) (hx : a.eval x = sv) (hown : Own w B sv zs) (hlen : zs.length < 100000)
    (h : ∀ a' c' w', Own w' w.heap.size (.slice a' zs.length c') zs → Below w.heap.size w w' → wpList Tryz.prog ops Q rest (a.put o.dst (.slice a' zs.length c')) w') :
    wpList Tryz.prog ops Q (o :: rest) a w := by
  obtain ⟨a1, c1, rfl, hc1, hc2, hrow⟩ := hown.view
  cases a1 with
  | none =>
    have hz : zs = [] := by
      rcases hown.2 with ⟨e, hn⟩ | ⟨g, cap, cur, e, _⟩
      · exact List.eq_nil_of_length_eq_zero hn
      · cases e
    subst hz
    have hc : c1 = 0 := by
      rcases hown.2 with ⟨e, hn⟩ | ⟨g, cap, cur, e, _⟩
      · injection e
      · cases e
    subst hc
    obtain ⟨i0, hi, hz0, hz1, hz2⟩ := info_parts Tryz.infoInt
    refine wpList_append_own_none hgd s x 22 ho w.heap.size 3 i0 1 Tryz.underlying22 hi (.slice none 0 0) 0 [] hs (Own.nil w w.heap.size) hx ?_
    exact h none 0 w (Own.nil _ _) (Below.refl _ _)
  | some b =>
    refine app_row hgd s x ho w.heap.size _ [] zs b c1 hs (Own.nil _ _) hx hrow (by simp; omega) (Nat.le_refl _) fun v' w' h1 h2 h3 => ?_
    rw [List.nil_append] at h1
    obtain ⟨a', c', rfl, -, -, -⟩ := h1.view
    exact h a' c' w' h1 h2

set_option maxRecDepth 20000 in
set_option maxHeartbeats 4000000 in
theorem flat_nums (zs : List Int) (hz : zs.length < 100000) : FlatOk (.nums zs) := by
  intro g w0 w T x v l hx hb hN hl
  obtain ⟨sv, e, hown⟩ := hx
  cases e
  show Calls Tryz.prog 269 _ w _
  obtain ⟨a, c, rfl⟩ := hN.view
  have hs := hb.size
  have hb1 := (Below.refl w.heap.size w).alloc (Nat.le_refl _) (.cells #[sv] 150)
  have N2 := hN.alloc (.cells #[sv] 150)
  have F2 := (Fr.refl w0.heap.size w).alloc hs (.cells #[sv] 150)
  have O2 : Own (w.alloc (.cells #[sv] 150)) g sv zs := (hown.below hb).below hb1
  have c0 := (boxC_alloc w #[sv] 150 0 _ rfl).1
  obtain ⟨sa, sc, rfl, -⟩ := hown.view
  obtain ⟨w1, hw1⟩ : ∃ w1 : World, w1 = w.alloc (.cells #[.slice sa zs.length sc] 150) := ⟨_, rfl⟩
  have hs1 : w0.heap.size ≤ w1.heap.size := by rw [hw1]; simp; omega
  rw [← hw1] at N2 F2 O2 c0
  have hw1' := Lib.hid hw1.symm
  replace hw1 := Lib.hid hw1
  replace O2 := Lib.hid O2
  replace N2 := Lib.hid N2
  replace F2 := Lib.hid F2
  replace hN := Lib.hid hN
  replace hb := Lib.hid hb
  replace hown := Lib.hid hown
  clear hb1
  simp only [M.flat, List.length_singleton] at hl
  go_enter Tryz.func269, Tryz.ntmps269
  go_wp2_with (at_builtin; first
    | (rw [hw1'.out]; refine app_copy rfl (.const (.slice none 0 0)) (.tmp 7) rfl g _ zs rfl rfl O2.out hz ?_; intro a3 c3 w3 O3 B3; have N3 := Lib.hid (N2.out.below B3); have F3 := Lib.hid (F2.out.trans (Fr.of_below B3 hs1)); have hs3 := B3.size; have O3' := Lib.hid (O3.low hs1); clear O3 B3)
    | (refine app_N rfl (.tmp 5) (.tmp 10) rfl w0.heap.size _ l ⟨1, 0, 0, 0, 0, zs, ⟨#[]⟩⟩ (.slice a3 zs.length c3) w3.heap.size rfl (N3.out.alloc _) rfl (nd_cells _ ⟨1, 0, 0, 0, 0, zs, ⟨#[]⟩⟩ (.slice a3 zs.length c3) 76 _ rfl) (O3'.out.below ((Below.refl _ w3).alloc (Nat.le_refl _) _)) (by omega) (by simp; omega) ?_; intro a' c' w' hN' hF'; have hN' := Lib.hid hN'; have hF' := Lib.hid hF'))
  go_ret
  exact ⟨_, rfl, hN'.out, (F3.out.alloc (by omega) _).trans hF'.out⟩
end Go.Proofs.YtaplaoelamnoiaaGreatDoor

/- The function all: the nodes of some expressions, one behind the other; a function's node. Condition: the expressions lie in a row. -/
namespace Go.Proofs.YtaplaoelamnoiaaGreatDoor
open Go.RowKit

/-- Expressions in a row; what they have lay at w0. -/
def ExRow (g : Nat) (w0 w : World) (A : Option Addr) (es : List Ex) : Prop :=
  ∀ (i : Nat) (e : Ex), es[i]? = some e → ∃ (b : Nat) (cur : Array Value) (fz : Nat × Nat) (T : TypeId) (x : Value), A = some ⟨b, 0, none⟩ ∧ w.heap[b]? = some (.cells cur 67 fz) ∧ cur[i]? = some (Value.iface T x) ∧ ExV g w0 e (.iface T x)
theorem ExRow.fr {g : Nat} {w0 w w' : World} {A : Option Addr} {es : List Ex} (h : ExRow g w0 w A es) {B : Nat} (k : Fr B w w') : ExRow g w0 w' A es := by
  intro i e he
  obtain ⟨b, cur, fz, T, x, h1, h2, h3, h4⟩ := h i e he
  exact ⟨b, cur, fz, T, x, h1, k.cells h2 (by decide), h3, h4⟩
theorem ExRow.nil (g : Nat) (w0 w : World) (A : Option Addr) : ExRow g w0 w A [] := fun i e he => by simp at he
theorem cell_of_expr {w : World} {b : Nat} {cur : Array Value} {fz : Nat × Nat} {i : Nat} {v : Value} (h : w.heap[b]? = some (.cells cur 67 fz)) (hc : cur[i]? = some v) : w.cell? ⟨b, i, none⟩ = some v := by
  rw [cell_of_row w b i cur 67 fz h]
  exact hc

theorem meth_nums (n : Nat) (hn : n ≠ 0) (a : Value) (w : World) : (method n 150 (.agg #[a]) "ravelin/tree.flat").run Tryz.prog w = .ok (269, .agg #[a]) w := by
  cases n with
  | zero => exact absurd rfl hn
  | succ n => kernel_rfl
theorem meth_name (n : Nat) (hn : n ≠ 0) (a : Value) (w : World) : (method n 88 (.agg #[a]) "ravelin/tree.flat").run Tryz.prog w = .ok (260, .agg #[a]) w := by
  cases n with
  | zero => exact absurd rfl hn
  | succ n => kernel_rfl
theorem meth_one (n : Nat) (hn : n ≠ 0) (a b c d e f : Value) (w : World) : (method n 128 (.agg #[a, b, c, d, e, f]) "ravelin/tree.flat").run Tryz.prog w = .ok (265, .agg #[a, b, c, d, e, f]) w := by
  cases n with
  | zero => exact absurd rfl hn
  | succ n => kernel_rfl
theorem meth_two (n : Nat) (hn : n ≠ 0) (a b c d e f g : Value) (w : World) : (method n 130 (.agg #[a, b, c, d, e, f, g]) "ravelin/tree.flat").run Tryz.prog w = .ok (267, .agg #[a, b, c, d, e, f, g]) w := by
  cases n with
  | zero => exact absurd rfl hn
  | succ n => kernel_rfl
theorem meth_pick (n : Nat) (hn : n ≠ 0) (a b : Value) (w : World) : (method n 147 (.agg #[a, b]) "ravelin/tree.flat").run Tryz.prog w = .ok (268, .agg #[a, b]) w := by
  cases n with
  | zero => exact absurd rfl hn
  | succ n => kernel_rfl

set_option maxRecDepth 20000 in
set_option maxHeartbeats 4000000 in
theorem node_any (o f q op : Int) (w : World) :
    Calls Tryz.prog 266 #[.agg #[.int .i64 o, .int .i64 f, .int .i64 q, .int .i64 0, .slice none 0 0], .int .i64 op] w fun en w' =>
      en = .returned (.agg #[.int .i64 op, .int .i64 o, .int .i64 f, .int .i64 q, .int .i64 0, .slice none 0 0, .string ⟨#[]⟩]) ∧ Below w.heap.size w w' := by
  go_enter Tryz.func266, Tryz.ntmps266
  go_wp2
  have hB := boxC_alloc (w.alloc (.cells #[.int .i64 o, .int .i64 f, .int .i64 q, .int .i64 0, .slice none 0 0] 125)) #[.int .i64 op, .int .i64 o, .int .i64 f, .int .i64 q, .int .i64 0, .slice none 0 0, .string ⟨#[]⟩] 76
  rw [World.size_alloc] at hB
  have y0 := (hB 0 _ rfl).1
  have y1 := (hB 1 _ rfl).1
  have y2 := (hB 2 _ rfl).1
  have y3 := (hB 3 _ rfl).1
  have y4 := (hB 4 _ rfl).1
  have y5 := (hB 5 _ rfl).1
  have y6 := (hB 6 _ rfl).1
  refine bodyPost_ret (v := .agg #[.int .i64 op, .int .i64 o, .int .i64 f, .int .i64 q, .int .i64 0, .slice none 0 0, .string ⟨#[]⟩]) (by simp [results, Tryz.results266, go_sem, y0, y1, y2, y3, y4, y5, y6]) rfl ?_
  exact ⟨rfl, (((Below.refl w.heap.size w).alloc (Nat.le_refl _) _).trans ((Below.refl _ _).alloc (by simp) _))⟩

theorem flat_pos (e : Ex) : 1 ≤ (M.flat e).length := by
  cases e <;> simp [M.flat]
theorem flats_len (es : List Ex) : es.length ≤ (es.flatMap M.flat).length := by
  induction es with
  | nil => simp
  | cons e r ih => rw [List.flatMap_cons, List.length_append, List.length_cons]; have := flat_pos e; omega

set_option maxRecDepth 20000 in
set_option maxHeartbeats 8000000 in
theorem flats_any (g : Nat) (w0 w : World) (A : Option Addr) (c : Nat) (v : Value) (l : List Nd) (es : List Ex) (hE : ExRow g w0 w A es) (hF : ∀ e ∈ es, FlatOk e) (hb : Below w0.heap.size w0 w) (hN : Nds w0.heap.size w v l) (hl : l.length + (es.flatMap M.flat).length ≤ 1000) :
    Calls Tryz.prog 262 #[v, .slice A es.length c] w fun en w' => ∃ v', en = .returned v' ∧ Nds w0.heap.size w' v' (l ++ es.flatMap M.flat) ∧ Fr w0.heap.size w w' := by
  obtain ⟨a, c2, rfl⟩ := hN.view
  replace hE := Lib.hid hE
  replace hF := Lib.hid hF
  replace hb := Lib.hid hb
  replace hN := Lib.hid hN
  have hel : es.length ≤ 1000 := by have := flats_len es; omega
  replace hl := Lib.hid hl
  go_enter Tryz.func262, Tryz.ntmps262
  go_wp2
  go_loopg [0, 9] es.length (fun k v i' wr => ∃ (i : Nat) (a : Option Addr) (c' : Nat), i ≤ es.length ∧ k = es.length - i ∧ v = .slice a (l ++ (es.take i).flatMap M.flat).length c' ∧ i' = .int .i64 i ∧ Nds w0.heap.size wr (.slice a (l ++ (es.take i).flatMap M.flat).length c') (l ++ (es.take i).flatMap M.flat) ∧ Fr w0.heap.size w wr)
  case atStart => exact ⟨0, a, c2, Nat.zero_le _, rfl, by simp, by simp, by simpa using hN.out, Fr.refl _ _⟩
  case round =>
    obtain ⟨i, a', c', hi, hk, rfl, rfl, hN', hF'⟩ := hrel
    by_cases hlt : i < es.length
    case neg =>
      have hei : i = es.length := by omega
      subst hei
      rw [List.take_length] at *
      replace hN' := Lib.hid hN'
      replace hF' := Lib.hid hF'
      go_wp2
      go_ret
      exact ⟨_, rfl, hN'.out, hF'.out⟩
    case pos =>
      obtain ⟨b, cur, fz, T, x, rfl, hcur, hcx, hx⟩ := (hE.out.fr hF') i es[i] (List.getElem?_eq_getElem hlt)
      have hce := cell_of_expr hcur hcx
      have hfl := hF.out es[i] (List.getElem_mem hlt)
      have z0 : (0 : Int) ≤ ((i : Nat) : Int) := by omega
      have z1 : ((i : Nat) : Int) < ((es.length : Nat) : Int) := by omega
      have zz : ((i : Nat) : Int).toNat = i := by simp
      have etk : es.take (i + 1) = es.take i ++ [es[i]] := by rw [List.take_succ_eq_append_getElem hlt]
      have esp : l.length + ((es.take i).flatMap M.flat).length + (M.flat es[i]).length ≤ 1000 := by
        have e1 : es.flatMap M.flat = (es.take (i + 1)).flatMap M.flat ++ (es.drop (i + 1)).flatMap M.flat := by rw [← List.flatMap_append, List.take_append_drop]
        have h2 := hl.out
        rw [e1, etk] at h2
        simp only [List.flatMap_append, List.flatMap_cons, List.flatMap_nil, List.length_append, List.append_nil] at h2
        omega
      have kf := hfl g w0 wr T x _ _ hx (hb.out.trans hF'.1) hN' (by rw [List.length_append]; exact esp)
      generalize es[i] = e at *
      replace etk := Lib.hid etk
      replace esp := Lib.hid esp
      replace hcur := Lib.hid hcur
      replace hcx := Lib.hid hcx
      replace hfl := Lib.hid hfl
      replace hN' := Lib.hid hN'
      replace hF' := Lib.hid hF'
      obtain ⟨L, hL⟩ : ∃ L, L = l ++ (es.take i).flatMap M.flat := ⟨_, rfl⟩
      rw [← hL] at kf hN'
      rw [← hL]
      replace hL := Lib.hid hL
      replace kf := Lib.hid kf
      have hL2 : Hid (L ++ M.flat e = l ++ (es.take (i + 1)).flatMap M.flat) := Lib.hid (by rw [hL.out, etk.out]; simp)
      clear hfl
      cases e with
      | nums zs =>
        obtain ⟨sv, he, hown⟩ := hx
        cases he
        have hm := meth_nums
        go_wp2_with fail
        refine kf.out.mono ?_
        rintro en w2 ⟨v2, rfl, N2, F2⟩
        obtain ⟨a2, c3, rfl⟩ := N2.view
        replace N2 := Lib.hid N2
        replace F2 := Lib.hid F2
        go_wp2
        go_roundg (es.length - (i + 1))
        case rel => exact ⟨i + 1, a2, c3, hlt, rfl, by rw [← hL2.out, List.length_append], by simp, by rw [← hL2.out]; exact N2.out, hF'.out.trans F2.out⟩
        case measure => omega
      | name s =>
        have he := hx
        injection he with he1 he2
        subst he1
        subst he2
        have hm := meth_name
        go_wp2_with fail
        refine kf.out.mono ?_
        rintro en w2 ⟨v2, rfl, N2, F2⟩
        obtain ⟨a2, c3, rfl⟩ := N2.view
        replace N2 := Lib.hid N2
        replace F2 := Lib.hid F2
        go_wp2
        go_roundg (es.length - (i + 1))
        case rel => exact ⟨i + 1, a2, c3, hlt, rfl, by rw [← hL2.out, List.length_append], by simp, by rw [← hL2.out]; exact N2.out, hF'.out.trans F2.out⟩
        case measure => omega
      | one o f q r =>
        obtain ⟨vr, he, hr⟩ := hx
        cases he
        have hm := meth_one
        go_wp2_with fail
        refine kf.out.mono ?_
        rintro en w2 ⟨v2, rfl, N2, F2⟩
        obtain ⟨a2, c3, rfl⟩ := N2.view
        replace N2 := Lib.hid N2
        replace F2 := Lib.hid F2
        go_wp2
        go_roundg (es.length - (i + 1))
        case rel => exact ⟨i + 1, a2, c3, hlt, rfl, by rw [← hL2.out, List.length_append], by simp, by rw [← hL2.out]; exact N2.out, hF'.out.trans F2.out⟩
        case measure => omega
      | two l' o f q r =>
        obtain ⟨vl, vr, he, hr1, hr2⟩ := hx
        cases he
        have hm := meth_two
        go_wp2_with fail
        refine kf.out.mono ?_
        rintro en w2 ⟨v2, rfl, N2, F2⟩
        obtain ⟨a2, c3, rfl⟩ := N2.view
        replace N2 := Lib.hid N2
        replace F2 := Lib.hid F2
        go_wp2
        go_roundg (es.length - (i + 1))
        case rel => exact ⟨i + 1, a2, c3, hlt, rfl, by rw [← hL2.out, List.length_append], by simp, by rw [← hL2.out]; exact N2.out, hF'.out.trans F2.out⟩
        case measure => omega
      | pick e' b' =>
        obtain ⟨ve, vb, pa, pc, he, hr1, hr2, hr3, hr4⟩ := hx
        cases he
        have hm := meth_pick
        go_wp2_with fail
        refine kf.out.mono ?_
        rintro en w2 ⟨v2, rfl, N2, F2⟩
        obtain ⟨a2, c3, rfl⟩ := N2.view
        replace N2 := Lib.hid N2
        replace F2 := Lib.hid F2
        go_wp2
        go_roundg (es.length - (i + 1))
        case rel => exact ⟨i + 1, a2, c3, hlt, rfl, by rw [← hL2.out, List.length_append], by simp, by rw [← hL2.out]; exact N2.out, hF'.out.trans F2.out⟩
        case measure => omega
end Go.Proofs.YtaplaoelamnoiaaGreatDoor

/- What an expression is worth, by the contracts of the functions that it names. No condition. -/
namespace Go.Proofs.YtaplaoelamnoiaaGreatDoor
open Go.RowKit

/-- A function of one array, as a contract: at x it tells y. -/
def One1 (o f g : Int) (x y : Arr) : Prop := ∀ (w : World) (a : Option Addr) (c : Nat) (b : Option Addr) (k : Nat), Row w a x.s → Row w b x.d →
  Calls Tryz.prog 92 #[.agg #[.int .i64 o, .int .i64 f, .int .i64 g], arrV x.ch a x.s.length c b x.d.length k] w fun e w' => ArrPostF (.ok y) w e w'
/-- A function of two arrays, as a contract: at x and y it tells z. -/
def Two1 (o f g : Int) (x y z : Arr) : Prop := ∀ (w : World) (a : Option Addr) (c : Nat) (b : Option Addr) (k : Nat) (a' : Option Addr) (c' : Nat) (b' : Option Addr) (k' : Nat), Row w a x.s → Row w b x.d → Row w a' y.s → Row w b' y.d →
  Calls Tryz.prog 91 #[.agg #[.int .i64 o, .int .i64 f, .int .i64 g], arrV x.ch a x.s.length c b x.d.length k, arrV y.ch a' y.s.length c' b' y.d.length k'] w fun e w' => ArrPostF (.ok z) w e w'
/-- A part of an array, as a contract: x at the index y is z. -/
def Pick1 (x y z : Arr) : Prop := ∀ (w : World) (a : Option Addr) (c : Nat) (b : Option Addr) (k : Nat) (a' : Option Addr) (c' : Nat) (b' : Option Addr) (k' : Nat) (B : Nat), Row w a x.s → Row w b x.d → Row w a' y.s → Row w b' y.d →
  (∀ j u, [Value.bool y.ch, .slice a' y.s.length c', .slice b' y.d.length k'][j]? = some u → w.cell? ⟨B, j, none⟩ = some u) →
  Calls Tryz.prog 93 #[arrV x.ch a x.s.length c b x.d.length k, .slice (some ⟨B, 0, none⟩) 1 1] w fun e w' => ArrPostF (.ok z) w e w'
/-- A number, or a list of them, as an array. -/
def numsA (l : List Int) : Arr := if l.length = 1 then ⟨false, [], l⟩ else ⟨false, [(l.length : Int)], l⟩
/-- What an expression is worth, where names have the values that env tells. -/
inductive Ev (env : ByteArray → Option Arr) : Ex → Arr → Prop where
  | nums (l : List Int) (h0 : l ≠ []) (h1 : l.length ≤ 1000) : Ev env (.nums l) (numsA l)
  | name (s : ByteArray) (x : Arr) (h : env s = some x) : Ev env (.name s) x
  | one (o f g : Int) (r : Ex) (x y : Arr) (h : Ev env r x) (ho : 0 ≤ o ∧ o < 6) (h1 : One1 o f g x y) : Ev env (.one o f g r) y
  | two (o f g : Int) (l r : Ex) (x y z : Arr) (hl : Ev env l x) (hr : Ev env r y) (ho : 0 ≤ o ∧ o < 6) (h2 : Two1 o f g x y z) : Ev env (.two l o f g r) z
  | pick (e b : Ex) (x y z : Arr) (he : Ev env e x) (hb : Ev env b y) (h : Pick1 x y z) : Ev env (.pick e b) z
namespace M
/-- The steps that it takes. -/
def steps : Ex → Nat
  | .nums _ => 1
  | .name _ => 1
  | .one _ _ _ r => steps r + 1
  | .two l _ _ _ r => steps r + steps l + 1
  | .pick e b => steps b + steps e + 1
/-- The parts of an expression. -/
def parts : Ex → List Ex
  | .nums _ => []
  | .name _ => []
  | .one _ _ _ r => [r]
  | .two l _ _ _ r => [l, r]
  | .pick e b => [e, b]
/-- The node of an expression. -/
def node : Ex → Nd
  | .nums l => ⟨1, 0, 0, 0, 0, l, ⟨#[]⟩⟩
  | .name s => ⟨3, 0, 0, 0, 0, [], s⟩
  | .one o f g _ => ⟨6, o, f, g, 0, [], ⟨#[]⟩⟩
  | .two _ o f g _ => ⟨7, o, f, g, 0, [], ⟨#[]⟩⟩
  | .pick _ _ => ⟨8, 0, 0, 0, 1, [], ⟨#[]⟩⟩
end M
theorem flat_node (e : Ex) : M.flat e = M.node e :: (M.parts e).flatMap M.flat := by cases e <;> simp [M.flat, M.node, M.parts]
theorem flat_pos0 (e : Ex) : 0 < (M.flat e).length := by rw [flat_node]; simp
end Go.Proofs.YtaplaoelamnoiaaGreatDoor
