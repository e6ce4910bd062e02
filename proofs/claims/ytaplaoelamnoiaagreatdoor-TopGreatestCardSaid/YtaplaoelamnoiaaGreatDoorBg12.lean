/- Texts that lie in one file: what is plain, rows, boxes, squares, and what is known of a world. No condition. -/
import Derived.Test.YtaplaoelamnoiaaGreatDoorBg13
import Derived.Deep.RegionHeld3
import Derived.Deep.Cut
/- The parser's method expression, whole: M.pExpr tells what it reads. Condition: the parser and its words lie. -/
namespace Go.Proofs.YtaplaoelamnoiaaGreatDoor
open Go.RowKit

/-- A function's variable stays. -/
theorem held5 {N : Nat} {o f q : Int} {w w' : World} (e : w'.heap[N]? = w.heap[N]?) (h : w.cell? ⟨N, 0, none⟩ = some (.int .i64 o) ∧ w.cell? ⟨N, 1, none⟩ = some (.int .i64 f) ∧ w.cell? ⟨N, 2, none⟩ = some (.int .i64 q) ∧ w.cell? ⟨N, 3, none⟩ = some (.int .i64 0) ∧ w.cell? ⟨N, 4, none⟩ = some (.slice none 0 0)) : w'.cell? ⟨N, 0, none⟩ = some (.int .i64 o) ∧ w'.cell? ⟨N, 1, none⟩ = some (.int .i64 f) ∧ w'.cell? ⟨N, 2, none⟩ = some (.int .i64 q) ∧ w'.cell? ⟨N, 3, none⟩ = some (.int .i64 0) ∧ w'.cell? ⟨N, 4, none⟩ = some (.slice none 0 0) :=
  ⟨(cell_of_eq e 0).trans h.1, (cell_of_eq e 1).trans h.2.1, (cell_of_eq e 2).trans h.2.2.1, (cell_of_eq e 3).trans h.2.2.2.1, (cell_of_eq e 4).trans h.2.2.2.2⟩

set_option maxRecDepth 20000 in
set_option maxHeartbeats 8000000 in
theorem expr_one (rc : Nat → Option (Ex × Nat)) (g tb tc : Nat) (ts : List Tok) (hrc : RcOk ts rc) (i : Nat) (w : World) (h : Par g tb tc ts i w w) (ho : M.odd ts i = false) (hs : M.starts ts i = true) (o f q : Int) (j : Nat) (hf : M.pFun ts i = some ((o, f, q), j))
    (r : Ex) (k : Nat) (hr : rc j = some (r, k)) :
    Calls Tryz.prog 38 #[.pointer (some ⟨g, 0, none⟩)] w fun en w' => ∃ v, en = .returned v ∧ ExV (g + 1) w' (.one o f q r) v ∧ Par g tb tc ts k w w' := by
  have ks := starts_any g tb tc ts i w h ho
  rw [hs] at ks
  have kf := fun W (hW : Par g tb tc ts i W W) => function_any g tb tc ts i W hW o f q j hf
  unfold funV at kf
  have ke := fun W (hW : Par g tb tc ts j W W) => hrc g tb tc j W hW r k hr
  replace ks := Lib.hid ks
  replace kf := Lib.hid kf
  replace ke := Lib.hid ke
  replace h := Lib.hid h
  clear ho hs hf hr hrc
  go_enter Tryz.func38, Tryz.ntmps38
  go_wp2_with fail
  refine ks.out.mono ?_
  rintro e w2 ⟨rfl, n, hw2⟩
  have P2 : Par g tb tc ts i w w2 := by rw [hw2]; exact h.out.drewN n
  replace hw2 := Lib.hid hw2
  replace P2 := Lib.hid P2
  go_wp2_with fail
  refine (kf.out _ P2.out.self).mono ?_
  rintro e w3 ⟨rfl, hP⟩
  have P3 := Lib.hid (P2.out.trans hP)
  clear hP
  go_upto_region 3 with fail
  have hb4 := ((Below.refl w3.heap.size w3).alloc (Nat.le_refl _) (.cells #[.int .i64 o, .int .i64 f, .int .i64 q, .int .i64 0, .slice none 0 0] 125)).drew
  have hB4 := boxC_alloc w3 #[.int .i64 o, .int .i64 f, .int .i64 q, .int .i64 0, .slice none 0 0] 125
  have P4 := Lib.hid (P3.out.step hb4)
  have hgN := P3.out.1.lt
  have hlN : w3.heap.size < (w3.alloc (.cells #[.int .i64 o, .int .i64 f, .int .i64 q, .int .i64 0, .slice none 0 0] 125)).drew.heap.size := by simp
  have S4 : (w3.alloc (.cells #[.int .i64 o, .int .i64 f, .int .i64 q, .int .i64 0, .slice none 0 0] 125)).drew.cell? ⟨w3.heap.size, 0, none⟩ = some (.int .i64 o) ∧ (w3.alloc (.cells #[.int .i64 o, .int .i64 f, .int .i64 q, .int .i64 0, .slice none 0 0] 125)).drew.cell? ⟨w3.heap.size, 1, none⟩ = some (.int .i64 f) ∧ (w3.alloc (.cells #[.int .i64 o, .int .i64 f, .int .i64 q, .int .i64 0, .slice none 0 0] 125)).drew.cell? ⟨w3.heap.size, 2, none⟩ = some (.int .i64 q) ∧ (w3.alloc (.cells #[.int .i64 o, .int .i64 f, .int .i64 q, .int .i64 0, .slice none 0 0] 125)).drew.cell? ⟨w3.heap.size, 3, none⟩ = some (.int .i64 0) ∧ (w3.alloc (.cells #[.int .i64 o, .int .i64 f, .int .i64 q, .int .i64 0, .slice none 0 0] 125)).drew.cell? ⟨w3.heap.size, 4, none⟩ = some (.slice none 0 0) := ⟨(hB4 0 _ rfl).1, (hB4 1 _ rfl).1, (hB4 2 _ rfl).1, (hB4 3 _ rfl).1, (hB4 4 _ rfl).1⟩
  generalize w3.alloc (.cells #[.int .i64 o, .int .i64 f, .int .i64 q, .int .i64 0, .slice none 0 0] 125) = w4 at *
  generalize hN : w3.heap.size = N at *
  replace hN := Lib.hid hN
  have hN' := Nat.ne_of_gt hgN
  clear hb4 hB4
  go_region_held3 (fun w' => w'.cell? ⟨N, 0, none⟩ = some (.int .i64 o) ∧ w'.cell? ⟨N, 1, none⟩ = some (.int .i64 f) ∧ w'.cell? ⟨N, 2, none⟩ = some (.int .i64 q) ∧ w'.cell? ⟨N, 3, none⟩ = some (.int .i64 0) ∧ w'.cell? ⟨N, 4, none⟩ = some (.slice none 0 0))
    (first | assumption | (exact held5 (hP5.2.2.1 N hlN hN') (by assumption)) | go_keep)
    ((go_at_call 38; refine (ke.out _ P4.out.self).mono ?_; rintro en w5 ⟨v, rfl, hv, hP5⟩; obtain ⟨T, x, rfl⟩ := hv.face))
  go_wp2
  go_ret
  exact ⟨_, rfl, ⟨_, rfl, hv⟩, P4.out.trans hP5⟩

set_option maxRecDepth 20000 in
set_option maxHeartbeats 8000000 in
theorem expr_plain (rc : Nat → Option (Ex × Nat)) (g tb tc : Nat) (ts : List Tok) (hrc : RcOk ts rc) (i : Nat) (w : World) (h : Par g tb tc ts i w w) (ho : M.odd ts i = false) (hs : M.starts ts i = false) (e : Ex) (j : Nat) (ht : M.pTerm rc ts i = some (e, j)) (ho2 : M.odd ts j = false) (hs2 : M.starts ts j = false) :
    Calls Tryz.prog 38 #[.pointer (some ⟨g, 0, none⟩)] w fun en w' => ∃ v, en = .returned v ∧ ExV (g + 1) w' e v ∧ Par g tb tc ts j w w' := by
  have ks := starts_any g tb tc ts i w h ho
  rw [hs] at ks
  have kt := fun W (hW : Par g tb tc ts i W W) => term_any rc g tb tc ts hrc i W hW e j ht
  have ks2 := fun W (hW : Par g tb tc ts j W W) => starts_any g tb tc ts j W hW ho2
  rw [hs2] at ks2
  replace ks := Lib.hid ks
  replace kt := Lib.hid kt
  replace ks2 := Lib.hid ks2
  replace h := Lib.hid h
  clear ho hs ht hrc ho2 hs2
  go_enter Tryz.func38, Tryz.ntmps38
  go_wp2_with fail
  refine ks.out.mono ?_
  rintro en w2 ⟨rfl, n, hw2⟩
  have P2 : Par g tb tc ts i w w2 := by rw [hw2]; exact h.out.drewN n
  replace hw2 := Lib.hid hw2
  replace P2 := Lib.hid P2
  go_wp2_with fail
  refine (kt.out _ P2.out.self).mono ?_
  rintro en w3 ⟨v, rfl, hv, hP⟩
  have P3 := Lib.hid (P2.out.trans hP)
  obtain ⟨T, x, rfl⟩ := hv.face
  replace hv := Lib.hid hv
  clear hP
  go_wp2_with fail
  refine (ks2.out _ P3.out.self).mono ?_
  rintro en w4 ⟨rfl, n4, hw4⟩
  have P4 : Par g tb tc ts j w w4 := by rw [hw4]; exact P3.out.drewN n4
  have V4 : ExV (g + 1) w4 e (.iface T x) := hv.out.same fun b _ _ => by rw [hw4]; rfl
  replace hw4 := Lib.hid hw4
  replace P4 := Lib.hid P4
  replace V4 := Lib.hid V4
  go_wp2
  go_ret
  exact ⟨_, rfl, V4.out, P4.out⟩

set_option maxRecDepth 20000 in
set_option maxHeartbeats 8000000 in
theorem expr_two (rc : Nat → Option (Ex × Nat)) (g tb tc : Nat) (ts : List Tok) (hrc : RcOk ts rc) (i : Nat) (w : World) (h : Par g tb tc ts i w w) (ho : M.odd ts i = false) (hs : M.starts ts i = false) (e : Ex) (j : Nat) (ht : M.pTerm rc ts i = some (e, j)) (ho2 : M.odd ts j = false) (hs2 : M.starts ts j = true)
    (o f q : Int) (k : Nat) (hf : M.pFun ts j = some ((o, f, q), k)) (r : Ex) (m : Nat) (hr : rc k = some (r, m)) :
    Calls Tryz.prog 38 #[.pointer (some ⟨g, 0, none⟩)] w fun en w' => ∃ v, en = .returned v ∧ ExV (g + 1) w' (.two e o f q r) v ∧ Par g tb tc ts m w w' := by
  have ks := starts_any g tb tc ts i w h ho
  rw [hs] at ks
  have kt := fun W (hW : Par g tb tc ts i W W) => term_any rc g tb tc ts hrc i W hW e j ht
  have ks2 := fun W (hW : Par g tb tc ts j W W) => starts_any g tb tc ts j W hW ho2
  rw [hs2] at ks2
  have kf := fun W (hW : Par g tb tc ts j W W) => function_any g tb tc ts j W hW o f q k hf
  unfold funV at kf
  have ke := fun W (hW : Par g tb tc ts k W W) => hrc g tb tc k W hW r m hr
  replace ks := Lib.hid ks
  replace kt := Lib.hid kt
  replace ks2 := Lib.hid ks2
  replace kf := Lib.hid kf
  replace ke := Lib.hid ke
  replace h := Lib.hid h
  clear ho hs ht hrc ho2 hs2 hf hr
  go_enter Tryz.func38, Tryz.ntmps38
  go_wp2_with fail
  refine ks.out.mono ?_
  rintro en w0 ⟨rfl, n, hw0⟩
  have P0 : Par g tb tc ts i w w0 := by rw [hw0]; exact h.out.drewN n
  replace hw0 := Lib.hid hw0
  replace P0 := Lib.hid P0
  go_wp2_with fail
  refine (kt.out _ P0.out.self).mono ?_
  rintro en w1 ⟨u, rfl, hu, hP⟩
  have P1 := Lib.hid (P0.out.trans hP)
  obtain ⟨U, y, rfl⟩ := hu.face
  replace hu := Lib.hid hu
  clear hP
  go_wp2_with fail
  refine (ks2.out _ P1.out.self).mono ?_
  rintro en w2 ⟨rfl, n2, hw2⟩
  have P2 : Par g tb tc ts j w w2 := by rw [hw2]; exact P1.out.drewN n2
  have U2 : ExV (g + 1) w2 e (.iface U y) := hu.out.same fun b _ _ => by rw [hw2]; rfl
  replace hw2 := Lib.hid hw2
  replace P2 := Lib.hid P2
  replace U2 := Lib.hid U2
  go_wp2_with fail
  refine (kf.out _ P2.out.self).mono ?_
  rintro en w3 ⟨rfl, hP⟩
  have P3 := Lib.hid (P2.out.trans hP)
  have U3 := Lib.hid (hP.keep U2.out)
  clear hP
  go_upto_region 8 with fail
  have hb4 := ((Below.refl w3.heap.size w3).alloc (Nat.le_refl _) (.cells #[.int .i64 o, .int .i64 f, .int .i64 q, .int .i64 0, .slice none 0 0] 125)).drew
  have hB4 := boxC_alloc w3 #[.int .i64 o, .int .i64 f, .int .i64 q, .int .i64 0, .slice none 0 0] 125
  have P4 := Lib.hid (P3.out.step hb4)
  have U4 := Lib.hid (U3.out.same fun b _ h => hb4.block b h)
  have hgN := P3.out.1.lt
  have hlN : w3.heap.size < (w3.alloc (.cells #[.int .i64 o, .int .i64 f, .int .i64 q, .int .i64 0, .slice none 0 0] 125)).drew.heap.size := by simp
  have S4 : (w3.alloc (.cells #[.int .i64 o, .int .i64 f, .int .i64 q, .int .i64 0, .slice none 0 0] 125)).drew.cell? ⟨w3.heap.size, 0, none⟩ = some (.int .i64 o) ∧ (w3.alloc (.cells #[.int .i64 o, .int .i64 f, .int .i64 q, .int .i64 0, .slice none 0 0] 125)).drew.cell? ⟨w3.heap.size, 1, none⟩ = some (.int .i64 f) ∧ (w3.alloc (.cells #[.int .i64 o, .int .i64 f, .int .i64 q, .int .i64 0, .slice none 0 0] 125)).drew.cell? ⟨w3.heap.size, 2, none⟩ = some (.int .i64 q) ∧ (w3.alloc (.cells #[.int .i64 o, .int .i64 f, .int .i64 q, .int .i64 0, .slice none 0 0] 125)).drew.cell? ⟨w3.heap.size, 3, none⟩ = some (.int .i64 0) ∧ (w3.alloc (.cells #[.int .i64 o, .int .i64 f, .int .i64 q, .int .i64 0, .slice none 0 0] 125)).drew.cell? ⟨w3.heap.size, 4, none⟩ = some (.slice none 0 0) := ⟨(hB4 0 _ rfl).1, (hB4 1 _ rfl).1, (hB4 2 _ rfl).1, (hB4 3 _ rfl).1, (hB4 4 _ rfl).1⟩
  generalize w3.alloc (.cells #[.int .i64 o, .int .i64 f, .int .i64 q, .int .i64 0, .slice none 0 0] 125) = w4 at *
  generalize hN : w3.heap.size = N at *
  replace hN := Lib.hid hN
  have hN' := Nat.ne_of_gt hgN
  clear hb4 hB4
  go_region_held3 (fun w' => w'.cell? ⟨N, 0, none⟩ = some (.int .i64 o) ∧ w'.cell? ⟨N, 1, none⟩ = some (.int .i64 f) ∧ w'.cell? ⟨N, 2, none⟩ = some (.int .i64 q) ∧ w'.cell? ⟨N, 3, none⟩ = some (.int .i64 0) ∧ w'.cell? ⟨N, 4, none⟩ = some (.slice none 0 0))
    (first | assumption | (exact held5 (hP5.2.2.1 N hlN hN') (by assumption)) | go_keep)
    ((go_at_call 38; refine (ke.out _ P4.out.self).mono ?_; rintro en w5 ⟨v, rfl, hv, hP5⟩; obtain ⟨T, x, rfl⟩ := hv.face))
  go_wp2
  go_ret
  exact ⟨_, rfl, ⟨_, _, rfl, hP5.keep U4.out, hv⟩, P4.out.trans hP5⟩

theorem rc_pExpr (ts : List Tok) : ∀ n, RcOk ts (M.pExpr ts n) := by
  intro n
  induction n with
  | zero => intro g tb tc i w _ e j he; cases he
  | succ n ih =>
    intro g tb tc i w h e j he
    unfold M.pExpr at he
    split at he
    case isTrue => cases he
    rename_i ho
    have ho : M.odd ts i = false := by simpa using ho
    split at he
    case isTrue =>
      rename_i hs
      split at he
      case h_2 => cases he
      rename_i o f q j0 hf
      split at he
      case h_2 => cases he
      rename_i r k hr
      cases he
      exact expr_one _ g tb tc ts ih i w h ho hs o f q j0 hf r _ hr
    case isFalse =>
      rename_i hs
      have hs : M.starts ts i = false := by simpa using hs
      split at he
      case h_1 => cases he
      rename_i e0 j0 ht
      split at he
      case isTrue => cases he
      rename_i ho2
      have ho2 : M.odd ts j0 = false := by simpa using ho2
      split at he
      case isTrue =>
        rename_i hs2
        split at he
        case h_2 => cases he
        rename_i o f q k hf
        split at he
        case h_2 => cases he
        rename_i r m hr
        cases he
        exact expr_two _ g tb tc ts ih i w h ho hs e0 j0 ht ho2 hs2 o f q k hf r _ hr
      case isFalse =>
        rename_i hs2
        have hs2 : M.starts ts j0 = false := by simpa using hs2
        cases he
        exact expr_plain _ g tb tc ts ih i w h ho hs e _ ht ho2 hs2
end Go.Proofs.YtaplaoelamnoiaaGreatDoor

/- Nodes in memory: the flat form of a tree; one node more. No condition. -/
namespace Go.Proofs.YtaplaoelamnoiaaGreatDoor
open Go.RowKit

/-- A node. -/
structure Nd where
  op : Int
  ao : Int
  af : Int
  ag : Int
  n : Int
  nums : List Int
  text : ByteArray
def Nd.cells (x : Nd) (sv : Value) : List Value := [.int .i64 x.op, .int .i64 x.ao, .int .i64 x.af, .int .i64 x.ag, .int .i64 x.n, sv, .string x.text]
/-- A row of nodes with their numbers. -/
def Nds (B : Nat) (w : World) (v : Value) (l : List Nd) : Prop :=
  ∃ ls : List (Nd × Value), ls.map Prod.fst = l ∧ w.ownsRow B 76 7 v l.length (ls.flatMap fun p => p.1.cells p.2) ∧ ∀ p ∈ ls, Own w B p.2 p.1.nums
/-- Of what lay, nothing but rows of nodes from B on is other. -/
def Fr (B : Nat) (w w' : World) : Prop := Below B w w' ∧ ∀ b, b < w.heap.size → (∀ cur fz, w.heap[b]? ≠ some (.cells cur 76 fz)) → w'.heap[b]? = w.heap[b]?
theorem Fr.refl (B : Nat) (w : World) : Fr B w w := ⟨Below.refl B w, fun _ _ _ => rfl⟩
theorem Fr.trans {B : Nat} {a b c : World} (h : Fr B a b) (k : Fr B b c) : Fr B a c :=
  ⟨h.1.trans k.1, fun x hx hn => (k.2 x (Nat.lt_of_lt_of_le hx h.1.size) (by rw [h.2 x hx hn]; exact hn)).trans (h.2 x hx hn)⟩
theorem Fr.of_below {B : Nat} {w w' : World} (h : Below w.heap.size w w') (hB : B ≤ w.heap.size) : Fr B w w' := ⟨h.mono hB, fun b hb _ => h.block b hb⟩
theorem Fr.cells {B b : Nat} {w w' : World} (h : Fr B w w') {cur : Array Value} {t : TypeId} {fz : Nat × Nat} (hc : w.heap[b]? = some (.cells cur t fz)) (ht : t ≠ 76) : w'.heap[b]? = some (.cells cur t fz) :=
  (h.2 b (Array.getElem?_eq_some_iff.1 hc).1 fun cur' fz' e => by rw [hc] at e; injection e with e; injection e with e1 e2 e3; exact ht e2).trans hc
theorem Own.fr {B : Nat} {w w' : World} {v : Value} {l : List Int} {B' : Nat} (h : Own w B v l) (k : Fr B' w w') : Own w' B v l := by
  refine ⟨h.1, ?_⟩
  rcases h.2 with h2 | ⟨g, cap, cur, hv, hg, hh, r⟩
  · exact .inl h2
  · exact .inr ⟨g, cap, cur, hv, hg, k.cells hh (by decide), r⟩
theorem Nds.nil (B : Nat) (w : World) : Nds B w (.slice none 0 0) [] := ⟨[], rfl, World.ownsRow_nil _ _ _ _, fun _ h => by cases h⟩
theorem Nds.view {B : Nat} {w : World} {v : Value} {l : List Nd} (h : Nds B w v l) : ∃ a c, v = .slice a l.length c := by
  obtain ⟨ls, _, hr, _⟩ := h
  obtain ⟨a, c, hv, -⟩ := ownE_view hr
  exact ⟨a, c, hv⟩
/-- What does not touch what lies from B on leaves them. -/
theorem Nds.below {B : Nat} {w w' : World} {v : Value} {l : List Nd} (h : Nds B w v l) (hb : Below w.heap.size w w') : Nds B w' v l := by
  obtain ⟨ls, h1, h2, h3⟩ := h
  exact ⟨ls, h1, ownE_same h2 fun b _ hl => hb.block b hl, fun p hp => (h3 p hp).below hb⟩
theorem Tryz.infoNode : (Tryz.prog.info? 76).map (fun i => (i.zero, i.size, i.bytes)) = some (some (.agg #[.int .i64 0, .int .i64 0, .int .i64 0, .int .i64 0, .int .i64 0, .slice none 0 0, .string ⟨#[]⟩]), 7, 80) := by kernel_rfl
theorem Nd.one (x : Nd) (sv : Value) (a : Option Addr) (n c : Nat) (hv : sv = .slice a n c) : ∀ u ∈ x.cells sv, u.oneCell' = true := by
  subst hv
  intro u hu
  simp only [Nd.cells, List.mem_cons, List.not_mem_nil, or_false] at hu
  rcases hu with rfl | rfl | rfl | rfl | rfl | rfl | rfl <;> rfl
theorem nds_grown {B : Nat} {w w' : World} {v v' : Value} {ls : List (Nd × Value)} {nd : Nd} {sv : Value} (h2 : w.ownsRow B 76 7 v ls.length (ls.flatMap fun p => p.1.cells p.2)) (h3 : ∀ p ∈ ls, Own w B p.2 p.1.nums) (ho : Own w B sv nd.nums)
    (k1 : w'.ownsRow B 76 7 v' (ls.length + 1) ((ls.flatMap fun p => p.1.cells p.2) ++ nd.cells sv)) (k2 : w.grownBy w' v.ownBlock) (hB : B ≤ w.heap.size) : Nds B w' v' (ls.map Prod.fst ++ [nd]) ∧ Fr B w w' := by
  have hF : Fr B w w' := by
    refine ⟨(Below.refl B w).grown k2 hB fun k hk => ?_, fun b hb hn => k2.block b hb fun e => ?_⟩
    · rcases h2.2 with ⟨rfl, _⟩ | ⟨g, cap, cur, rfl, hg, _⟩
      · simp [Value.ownBlock] at hk
      · simp [Value.ownBlock] at hk; omega
    · rcases h2.2 with ⟨rfl, _⟩ | ⟨g, cap, cur, rfl, hg, hh, _⟩
      · simp [Value.ownBlock] at e
      · simp [Value.ownBlock] at e; subst e; exact hn _ _ hh
  refine ⟨⟨ls ++ [(nd, sv)], by simp, by simpa using k1, fun p hp => ?_⟩, hF⟩
  rw [List.mem_append, List.mem_singleton] at hp
  rcases hp with hp | rfl
  · exact (h3 p hp).fr hF
  · exact ho.fr hF
/-- One node more. -/
theorem step_app_N {w : World} {ops : Array Oper} {o : Oper} {a : Act} {K : Act → World → Prop} {Q : Exit → Act → World → Prop} {E : Prop} (hgd : o.guard = none) (s x : Operand) (ho : o.op = .call { callee := .builtin .append, args := #[s, x], argTypes := #[50, 50] })
    (B : Nat) (v : Value) (l : List Nd) (nd : Nd) (sv : Value) (blk : Nat) (hs : a.eval s = v) (hN : Nds B w v l) (hx : a.eval x = .slice (some ⟨blk, 0, none⟩) 1 1) (hc : ∀ j u, (nd.cells sv)[j]? = some u → w.cell? ⟨blk, j, none⟩ = some u) (hown : Own w B sv nd.nums)
    (hlen : l.length < 100000) (hB : B ≤ w.heap.size)
    (h : ∀ a' c' w', Nds B w' (.slice a' (l.length + 1) c') (l ++ [nd]) → Fr B w w' → K (a.put o.dst (.slice a' (l.length + 1) c')) w') :
    if Region.wanted o (yielded ops a.tmps) = true then Oper.wp Tryz.prog o a w K Q else E := by
  have hw : Region.wanted o (yielded ops a.tmps) = true := by simp [Region.wanted, hgd]
  rw [if_pos hw]
  obtain ⟨ls, h1, h2, h3⟩ := hN
  obtain ⟨i0, hi, hz0, hz1, hz2⟩ := info_parts Tryz.infoNode
  obtain ⟨sa, sc, hsv, -⟩ := hown.view
  have hll : l.length = ls.length := by rw [← h1, List.length_map]
  rw [hll] at h2 hlen h
  refine wp_append_own w s x 50 ho B 76 i0 (.agg #[.int .i64 0, .int .i64 0, .int .i64 0, .int .i64 0, .int .i64 0, .slice none 0 0, .string ⟨#[]⟩]) 7 80 Tryz.underlying50 hi hz0 hz1 hz2 rfl (by decide) v _ _ hs h2 ⟨blk, 0, none⟩ 1 1 (nd.cells sv) hx rfl ?_ (Nd.one nd sv _ _ _ hsv) (by simp only [maxLen]; omega) (by omega) hB ?_
  · intro j u hj
    rw [Addr.add_lit, Nat.zero_add]
    exact hc j u hj
  · intro v' w' k1 k2 _
    obtain ⟨a', c', hv, _, _⟩ := ownE_view k1
    subst hv
    obtain ⟨m1, m2⟩ := nds_grown h2 h3 hown k1 k2 hB
    rw [h1] at m1
    exact h a' c' w' m1 m2
theorem app_N {w : World} {ops : Array Oper} {rest : List Oper} {o : Oper} {a : Act} {Q : Exit → Act → World → Prop} (hgd : o.guard = none) (s x : Operand) (ho : o.op = .call { callee := .builtin .append, args := #[s, x], argTypes := #[50, 50] })
    (B : Nat) (v : Value) (l : List Nd) (nd : Nd) (sv : Value) (blk : Nat) (hs : a.eval s = v) (hN : Nds B w v l) (hx : a.eval x = .slice (some ⟨blk, 0, none⟩) 1 1) (hc : ∀ j u, (nd.cells sv)[j]? = some u → w.cell? ⟨blk, j, none⟩ = some u) (hown : Own w B sv nd.nums)
    (hlen : l.length < 100000) (hB : B ≤ w.heap.size)
    (h : ∀ a' c' w', Nds B w' (.slice a' (l.length + 1) c') (l ++ [nd]) → Fr B w w' → wpList Tryz.prog ops Q rest (a.put o.dst (.slice a' (l.length + 1) c')) w') :
    wpList Tryz.prog ops Q (o :: rest) a w := by
  obtain ⟨ls, h1, h2, h3⟩ := hN
  obtain ⟨i0, hi, hz0, hz1, hz2⟩ := info_parts Tryz.infoNode
  obtain ⟨sa, sc, hsv, -⟩ := hown.view
  have hll : l.length = ls.length := by rw [← h1, List.length_map]
  rw [hll] at h2 hlen h
  refine wpList_append_own w hgd s x 50 ho B 76 i0 (.agg #[.int .i64 0, .int .i64 0, .int .i64 0, .int .i64 0, .int .i64 0, .slice none 0 0, .string ⟨#[]⟩]) 7 80 Tryz.underlying50 hi hz0 hz1 hz2 rfl (by decide) v _ _ hs h2 ⟨blk, 0, none⟩ 1 1 (nd.cells sv) hx rfl ?_ (Nd.one nd sv _ _ _ hsv) (by simp only [maxLen]; omega) (by omega) hB ?_
  · intro j u hj
    rw [Addr.add_lit, Nat.zero_add]
    exact hc j u hj
  · intro v' w' k1 k2 _
    obtain ⟨a', c', hv, _, _⟩ := ownE_view k1
    subst hv
    obtain ⟨m1, m2⟩ := nds_grown h2 h3 hown k1 k2 hB
    rw [h1] at m1
    exact h a' c' w' m1 m2
end Go.Proofs.YtaplaoelamnoiaaGreatDoor
