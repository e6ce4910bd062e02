/- Texts that lie in one file: what is plain, rows, boxes, squares, and what is known of a world. No condition. -/
import Derived.Test.YtaplaoelamnoiaaGreatDoorBg16
import Derived.Tactics
import Derived.Tactics2
import Derived.Defers
import Derived.Recover
import Derived.Laws.Pointers
import Derived.Test.YtaplaoelamnoiaaGreatDoorBg14
import Derived.Test.YtaplaoelamnoiaaGreatDoorBg07
import Derived.Test.YtaplaoelamnoiaaGreatDoorBg29
/- The call tree.Check: a tree as Parse tells it. Condition: the nodes and the library's tables lie. -/
namespace Go.Proofs.YtaplaoelamnoiaaGreatDoor
open Go.RowKit

theorem readIdle (a b : Value) (w : World) :
    CallsD Tryz.prog 64 #[a, b] .returning w fun e u' w' => e = .returned (.tuple #[]) ∧ u' = .returning ∧ w' = w := by
  refine callsD_of_wpS Tryz.func64 rfl fun c₀ cs hu => ?_
  apply wpS_seq
  generalize hy : (Code.block 0 _) = y
  apply wpS_region
  simp [wpOpsS, go_sem, recoverD, hu, Tryz.ntmps64, Exit.thenS]
  rw [show (#[a, b] ++ (Array.replicate 10 undef).setIfInBounds 3 Value.nilIface : Array Value) = #[a, b, undef, undef, undef, .nilIface, undef, undef, undef, undef, undef, undef] from rfl]
  subst hy
  refine wpS_of_wp ?_
  go_wp2
  cases c₀
  simp_all [bodyPostS, results, Tryz.results64]

set_option maxRecDepth 20000 in
set_option maxHeartbeats 8000000 in
theorem read_any (T : List Nd) (tb tc : Nat) (w : World) (hT : Tz w) (h8 : 8 ≤ w.heap.size) (htb : tb < w.heap.size) (hN : ∀ g, w.heap.size ≤ g → NdAt g tb T w) (e : Ex) (he : WexOk e) (hTe : T = M.flat e) (h4 : T.length ≤ 400) :
    Calls Tryz.prog 39 #[.slice (some ⟨tb, 0, none⟩) T.length tc] w fun en w' => ∃ v, en = .returned (.tuple #[v, .nilIface]) ∧ Below w.heap.size w w' := by
  have hmf : ∀ (fn : Fn) (first cap : Array Value) (w : World), (Instr.makeFunc fn first cap).run Tryz.prog w = .ok (.func fn first cap) w := fun _ _ _ _ => rfl
  obtain ⟨nl, hnl⟩ : ∃ nl, nl = T.length := ⟨_, rfl⟩
  have hpos : 0 < nl := by rw [hnl, hTe]; exact flat_pos e
  obtain ⟨W, hWe⟩ : ∃ W : World, W = ((w.alloc (.cells #[.nilIface] 67)).alloc (.cells #[.nilIface] 29)).alloc (.cells #[.slice (some ⟨tb, 0, none⟩) T.length tc, .int .i64 0, .int .i64 0] 133) := ⟨_, rfl⟩
  obtain ⟨bA, bB, bC, sW⟩ := three_boxes _ _ _ _ _ _ _ W hWe
  have hb0 : Below w.heap.size w W := by rw [hWe]; exact push (push (push (start w) _) _) _
  have hE : WkAt (w.heap.size + 1 + 1) tb tc T 0 W W := ⟨⟨⟨(bC 0 _ rfl).1, (bC 1 _ rfl).1, (bC 2 _ rfl).1⟩, (bC 1 _ rfl).2⟩, ⟨(hN _ (by omega)).but (But.of_below hb0), hT.below hb0 h8, by omega⟩, But.refl _ _, Below.refl _ _, by omega⟩
  have kx := he (w.heap.size + 1 + 1) tb tc T [] [] W 0 T.length hE rfl (by rw [hTe]; simp) (by rw [hTe]; simp) h4
  have e0 : decide (400 < ((nl : Nat) : Int)) = false := decide_eq_false (by omega)
  have e1 : (0 : Int) < ((nl : Nat) : Int) := by omega
  have e2 : decide ((0 : Int) < ((nl : Nat) : Int)) = true := decide_eq_true e1
  have e3 : decide (((nl : Nat) : Int) < ((nl : Nat) : Int)) = false := decide_eq_false (by omega)
  obtain ⟨a0, cc, t0, -⟩ := hE.nodes.2 0 (M.node e) (by rw [hTe, flat_node]; rfl)
  rw [Nat.zero_mul] at t0
  have e9 : ((M.node e).op == 9) = false := by cases e <;> rfl
  generalize (M.node e).op = op at *
  rw [hWe] at t0
  rw [← hnl] at hWe t0 h4
  rw [← hnl]
  have hWe' := Lib.hid hWe.symm
  replace hWe := Lib.hid hWe
  replace bA := Lib.hid bA
  replace bB := Lib.hid bB
  replace hb0 := Lib.hid hb0
  replace kx := Lib.hid kx
  replace hE := Lib.hid hE
  replace sW := Lib.hid sW
  replace hnl := Lib.hid hnl
  replace hTe := Lib.hid hTe
  clear bC hN hT he
  go_enter_defers Tryz.func39, Tryz.ntmps39
  go_wp2_with fail
  rw [hWe'.out]
  refine kx.out.mono ?_
  rintro en w2 ⟨X, x, rfl, hP⟩
  obtain ⟨⟨⟨p0, p1, p2⟩, q1⟩, -⟩ := id hP
  rw [← hnl.out] at p0 p1
  have A2 := bA.out.same (hP.2.2.1 _ (by have := sW.out; omega) (by omega))
  have B2 := bB.out.same (hP.2.2.1 _ (by have := sW.out; omega) (by omega))
  have hb2 := Lib.hid (hb0.out.trans (hP.2.2.2.1.mono (by omega)))
  obtain ⟨y0, x0⟩ := A2 0 _ rfl
  obtain ⟨y1, x1⟩ := B2 0 _ rfl
  have nn : w.heap.size ≠ w.heap.size + 1 + 1 := by omega
  clear A2 B2 hP t0
  go_wp2
  refine leaves_cons (f := 64) (args := #[.pointer (some ⟨w.heap.size, 0, none⟩), .pointer (some ⟨w.heap.size + 1, 0, none⟩)]) (by simp) (by simp [go_sem]) ?_
  refine (readIdle _ _ _).mono ?_
  rintro e u' w'' ⟨rfl, rfl, rfl⟩
  have s0 : (((w2.setCell ⟨w.heap.size, 0, none⟩ (.iface X x)).setCell ⟨w.heap.size, 0, none⟩ (.iface X x)).setCell ⟨w.heap.size + 1, 0, none⟩ .nilIface).cell? ⟨w.heap.size, 0, none⟩ = some (.iface X x) := by
    rw [World.cell?_setCell_other _ _ _ _ (by simp)]; exact World.cell?_setCell_same' _ _ _ (by rw [World.cell?_setCell_same' _ _ _ (by rw [y0]; rfl)]; rfl)
  have s1 : (((w2.setCell ⟨w.heap.size, 0, none⟩ (.iface X x)).setCell ⟨w.heap.size, 0, none⟩ (.iface X x)).setCell ⟨w.heap.size + 1, 0, none⟩ .nilIface).cell? ⟨w.heap.size + 1, 0, none⟩ = some .nilIface :=
    World.cell?_setCell_same' _ _ _ (by rw [World.cell?_setCell_other _ _ _ _ (by simp), World.cell?_setCell_other _ _ _ _ (by simp), y1]; rfl)
  have hfin : Below w.heap.size w (((w2.setCell ⟨w.heap.size, 0, none⟩ (.iface X x)).setCell ⟨w.heap.size, 0, none⟩ (.iface X x)).setCell ⟨w.heap.size + 1, 0, none⟩ .nilIface) := ((hb2.out.setCell (Nat.le_refl _) _).setCell (Nat.le_refl _) _).setCell (Nat.le_succ _) _
  clear y0 y1 x0 x1 hb2
  generalize (((w2.setCell ⟨w.heap.size, 0, none⟩ (.iface X x)).setCell ⟨w.heap.size, 0, none⟩ (.iface X x)).setCell ⟨w.heap.size + 1, 0, none⟩ .nilIface) = w9 at *
  simp only [Leaves, settle]
  refine ⟨.tuple #[.iface X x, .nilIface], by simp [results, Tryz.results39, go_sem, s0, s1], _, rfl, hfin⟩

theorem check_tree (T : List Nd) (tb tc : Nat) (w : World) (hT : Tz w) (h8 : 8 ≤ w.heap.size) (htb : tb < w.heap.size) (hN : ∀ g, w.heap.size ≤ g → NdAt g tb T w) (e : Ex) (he : WexOk e) (hTe : T = M.flat e) (h4 : T.length ≤ 400) :
    Calls Tryz.prog 29 #[.slice (some ⟨tb, 0, none⟩) T.length tc] w fun en w' => en = .returned .nilIface ∧ Below w.heap.size w w' := by
  have kr := Lib.hid (read_any T tb tc w hT h8 htb hN e he hTe h4)
  generalize T.length = nl at *
  clear hT hN he hTe
  go_enter Tryz.func29, Tryz.ntmps29
  go_wp2_with fail
  refine kr.out.mono ?_
  rintro en w2 ⟨v, rfl, hb⟩
  replace hb := Lib.hid hb
  go_wp2
  go_ret
  exact ⟨rfl, hb.out⟩
end Go.Proofs.YtaplaoelamnoiaaGreatDoor

/- The calls eval.Value, worth and tells: a line's text, its value. Condition: names with values and the library's tables lie. -/
namespace Go.Proofs.YtaplaoelamnoiaaGreatDoor
open Go.RowKit

/-- What a call that tells an array, a number and no error leaves. -/
def TellPost (x : Arr) (w : World) (en : Ending) (w' : World) : Prop := ∃ (left : Int) (a : Option Addr) (c : Nat) (b : Option Addr) (k : Nat), en = .returned (.tuple #[arrV x.ch a x.s.length c b x.d.length k, .int .i64 left, .nilIface]) ∧ Row w' a x.s ∧ Row w' b x.d ∧ Fresh w a ∧ Fresh w b ∧ x.s.length ≤ c ∧ Below w.heap.size w w'

set_option maxRecDepth 20000 in
set_option maxHeartbeats 8000000 in
theorem evalValue_any (A : Option Addr) (l : List Bd) (cp : Nat) (tb tc : Nat) (T : List Nd) (e : Ex) (x : Arr) (w : World) (hW : WsAt A l w) (hok : WsOk l) (hTz : Tz w) (h8 : 8 ≤ w.heap.size) (htb : tb < w.heap.size) (hN : ∀ g, w.heap.size ≤ g → NdAt g tb T w)
    (hT : T = M.flat e) (h4 : T.length ≤ 400) (hx : WexOk e) (hv : ValOk (envOf l) e x) (hst : M.steps e < 20000) (l1 : x.s.length ≤ 100000) (l2 : x.d.length ≤ 100000) :
    Calls Tryz.prog 21 #[.slice A l.length cp, .slice (some ⟨tb, 0, none⟩) T.length tc, .int .i64 20000] w fun en w' => TellPost x w en w' := by
  have hb0 : Below w.heap.size w (w.alloc (.cells #[.bool false, .slice none 0 0, .slice none 0 0] 24)) := push (start w) _
  have bB := boxC_alloc w #[.bool false, .slice none 0 0, .slice none 0 0] 24
  obtain ⟨W, hWe⟩ : ∃ W : World, W = w.alloc (.cells #[.bool false, .slice none 0 0, .slice none 0 0] 24) := ⟨_, rfl⟩
  have sW : W.heap.size = w.heap.size + 1 := by rw [hWe]; simp
  rw [← hWe] at hb0 bB
  have k1 := wsCheck_any A l cp W (hW.below hb0) hok (hTz.below hb0 h8) (by omega)
  have hop : ∀ W' : World, Below w.heap.size w W' → W'.cell? ⟨tb, 0, none⟩ = some (.int .i64 (M.node e).op) := fun W' hb => by
    obtain ⟨a0, cc, t0, -⟩ := (hN _ (Nat.le_refl _)).2 0 (M.node e) (by rw [hT, flat_node]; rfl)
    rw [Nat.zero_mul] at t0
    exact (hb.cell htb).trans t0
  have e9 : ((M.node e).op == 9) = false := by cases e <;> rfl
  have k2 := fun (W' : World) (hb : Below w.heap.size w W') => check_tree T tb tc W' (hTz.below hb h8) (by have := hb.size; omega) (by have := hb.size; omega) (fun g hg => (hN g (by have := hb.size; omega)).but (But.of_below hb)) e hx hT h4
  have k3 := fun (W' : World) (hb : Below w.heap.size w W') => valueOf_any A l cp tb tc T e x 20000 W' (hW.below hb) hok (fun g hg => (hN g (by have := hb.size; omega)).but (But.of_below hb)) hT (by omega) hv hst (Nat.le_refl _) l1 l2
  have hpos : 0 < T.length := by rw [hT]; exact flat_pos e
  obtain ⟨nl, hnl⟩ : ∃ nl, nl = T.length := ⟨_, rfl⟩
  rw [← hnl] at k2 k3 hpos
  rw [← hnl]
  have zp : (0 : Int) < ((nl : Nat) : Int) := by omega
  have hWe' := Lib.hid hWe.symm
  replace hWe := Lib.hid hWe
  replace k1 := Lib.hid k1
  replace k2 := Lib.hid k2
  replace k3 := Lib.hid k3
  replace hop := Lib.hid hop
  replace bB := Lib.hid bB
  replace hb0 := Lib.hid hb0
  replace sW := Lib.hid sW
  replace hnl := Lib.hid hnl
  replace hT := Lib.hid hT
  generalize (M.node e).op = op at *
  clear hW hok hTz hN hx hv hst l1 l2 h4
  go_enter Tryz.func21, Tryz.ntmps21
  go_wp2_with fail
  rw [hWe'.out]
  refine k1.out.mono ?_
  rintro en w1 ⟨rfl, hb1⟩
  have hb01 := hb0.out.trans (hb1.mono (by have := sW.out; omega))
  have B1 := bB.out.same (hb1.block _ (by have := sW.out; omega))
  have s1 : Hid (w.heap.size < w1.heap.size) := Lib.hid (by have := hb1.size; have := sW.out; omega)
  replace hb01 := Lib.hid hb01
  replace B1 := Lib.hid B1
  clear hb1
  go_wp2_with fail
  refine (k2.out w1 hb01.out).mono ?_
  rintro en w2 ⟨rfl, hb2⟩
  have hb02 := hb01.out.trans (hb2.mono hb01.out.size)
  have B2 := B1.out.same (hb2.block _ s1.out)
  have c0 := hop.out w2 hb02
  have s2 : Hid (w.heap.size < w2.heap.size) := Lib.hid (by have := hb2.size; have := s1.out; omega)
  replace hb02 := Lib.hid hb02
  replace B2 := Lib.hid B2
  clear hb2
  go_wp2_with fail
  refine (k3.out w2 hb02.out).mono ?_
  rintro en w3 ⟨left, a, c, b, k, rfl, r1, r2, f1, f2, hc, hb3⟩
  have hb03 := Lib.hid (hb02.out.trans (hb3.mono hb02.out.size))
  have B3 := B2.out.same (hb3.block _ s2.out)
  obtain ⟨y0, x0⟩ := B3 0 _ rfl
  obtain ⟨y1, x1⟩ := B3 1 _ rfl
  obtain ⟨y2, x2⟩ := B3 2 _ rfl
  have g1 : ∀ p, a = some p → w.heap.size < p.block := fun p e => by have := f1 p e; have := s2.out; omega
  have g2 : ∀ p, b = some p → w.heap.size < p.block := fun p e => by have := f2 p e; have := s2.out; omega
  replace r1 := Lib.hid r1
  replace r2 := Lib.hid r2
  replace hc := Lib.hid hc
  clear c0 B3 hb3 f1 f2
  go_wp2
  refine bodyPost_ret (v := .tuple #[arrV x.ch a x.s.length c b x.d.length k, .int .i64 left, .nilIface]) (by simp [results, Tryz.results21, go_sem, cell?_set_same, arrV, y0, y1, y2]) rfl ?_
  exact ⟨left, a, c, b, k, rfl, r1.out.but (But.set3 _ _ _ _ _ _) (fun _ p e => by have := g1 p e; omega), r2.out.but (But.set3 _ _ _ _ _ _) (fun _ p e => by have := g2 p e; omega), fun p e => Nat.le_of_lt (g1 p e), fun p e => Nat.le_of_lt (g2 p e), hc.out, set3 hb03.out (Nat.le_refl _) _ _ _⟩

/-- A line that is read as words, which are a tree. -/
structure LineOk (s : ByteArray) (ts : List Tok) (e : Ex) : Prop where
  size : s.size ≤ 1000
  lex : M.lexFrom s 30 0 = some ts
  good : ∀ t ∈ ts, t.good
  len : ts.length < 200
  len1 : 1 < ts.length
  noset : M.kindAt ts 0 = 3 → M.kindAt ts 1 ≠ 10
  tree : M.pExpr ts 12 0 = some (e, ts.length)
  flat : FlatOk e
  f400 : (M.flat e).length ≤ 400
  wex : WexOk e
  steps : M.steps e < 20000
theorem tokAt_of {B : Nat} {w : World} {v : Value} {ts : List Tok} (h : w.ownsRow B 82 5 v ts.length (ts.flatMap Tok.cells)) (h1 : 0 < ts.length) : ∃ tb c, v = .slice (some ⟨tb, 0, none⟩) ts.length c ∧ ts.length ≤ c ∧ tb < w.heap.size ∧ TokAt tb ts w := by
  rcases h.2 with ⟨hv, hn⟩ | ⟨tb, cap, cur, hv, hg, hcur, hnc, r⟩
  · omega
  subst hv
  refine ⟨tb, cap, rfl, hnc, (Array.getElem?_eq_some_iff.1 hcur).1, fun i t hi => ?_⟩
  have hil : i < ts.length := (List.getElem?_eq_some_iff.1 hi).1
  have hk : ∀ p ∈ ts, (Tok.cells p).length = 5 := fun p _ => rfl
  have hc : ∀ j, j < 5 → w.cell? ⟨tb, i * 5 + j, none⟩ = (Tok.cells t)[j]? := fun j hj => by
    rw [← flat_get Tok.cells 5 ts hk i _ hi j hj]
    exact h.cellAt _ (by omega)
  exact ⟨hc 0 (by omega), hc 1 (by omega), hc 2 (by omega), hc 3 (by omega), hc 4 (by omega)⟩

set_option maxRecDepth 20000 in
set_option maxHeartbeats 8000000 in
theorem worth_any (A : Option Addr) (l : List Bd) (cp : Nat) (s : ByteArray) (ts : List Tok) (e : Ex) (x : Arr) (w : World) (hW : WsAt A l w) (hok : WsOk l) (hTz : Tz w) (h8 : 8 ≤ w.heap.size) (hl : LineOk s ts e) (hv : ValOk (envOf l) e x) (l1 : x.s.length ≤ 100000) (l2 : x.d.length ≤ 100000) :
    Calls Tryz.prog 13 #[.slice A l.length cp, .string s] w fun en w' => ∃ (a : Option Addr) (c : Nat) (b : Option Addr) (k : Nat), en = .returned (.tuple #[arrV x.ch a x.s.length c b x.d.length k, .bool true]) ∧ Row w' a x.s ∧ Row w' b x.d ∧ Below w.heap.size w w' := by
  have hb0 : Below w.heap.size w (w.alloc (.cells #[.bool false, .slice none 0 0, .slice none 0 0] 24)) := push (start w) _
  have bB := boxC_alloc w #[.bool false, .slice none 0 0, .slice none 0 0] 24
  obtain ⟨W, hWe⟩ : ∃ W : World, W = w.alloc (.cells #[.bool false, .slice none 0 0, .slice none 0 0] 24) := ⟨_, rfl⟩
  have sW : W.heap.size = w.heap.size + 1 := by rw [hWe]; simp
  rw [← hWe] at hb0 bB
  have k1 := lexRead_any s W 30 ts hl.size (hTz.below hb0 h8).1 (by omega) hl.lex hl.len
  have k2 := fun (W' : World) (hb : Below w.heap.size w W') tb tc hT htb htc => parse_any ts tb tc W' hT (hTz.below hb h8) (by have := hb.size; omega) htb htc hl.good hl.len hl.len1 hl.noset 12 e hl.tree hl.flat hl.f400
  have k3 := fun (W' : World) (hb : Below w.heap.size w W') tb tc htb hN => evalValue_any A l cp tb tc (M.flat e) e x W' (hW.below hb) hok (hTz.below hb h8) (by have := hb.size; omega) htb hN rfl hl.f400 hl.wex hv hl.steps l1 l2
  have hpos := hl.len1
  have hne : M.flat e ≠ [] := by have := flat_pos e; intro h; rw [h] at this; simp at this
  have hWe' := Lib.hid hWe.symm
  replace hWe := Lib.hid hWe
  replace k1 := Lib.hid k1
  replace k2 := Lib.hid k2
  replace k3 := Lib.hid k3
  replace bB := Lib.hid bB
  replace hb0 := Lib.hid hb0
  replace sW := Lib.hid sW
  replace hne := Lib.hid hne
  replace hpos := Lib.hid hpos
  clear hW hok hTz hl hv l1 l2
  go_enter Tryz.func13, Tryz.ntmps13
  go_wp2_with fail
  rw [hWe'.out]
  refine k1.out.mono ?_
  rintro en w1 ⟨v1, rfl, ho, hb1⟩
  obtain ⟨tb, tc, rfl, htc, htb, hTok⟩ := tokAt_of ho (by have := hpos.out; omega)
  have hb01 := hb0.out.trans (hb1.mono (by have := sW.out; omega))
  have B1 := bB.out.same (hb1.block _ (by have := sW.out; omega))
  have s1 : Hid (w.heap.size < w1.heap.size) := Lib.hid (by have := hb1.size; have := sW.out; omega)
  replace hb01 := Lib.hid hb01
  replace B1 := Lib.hid B1
  replace hTok := Lib.hid hTok
  replace htb := Lib.hid htb
  replace htc := Lib.hid htc
  clear hb1 ho
  go_wp2_with fail
  refine (k2.out w1 hb01.out tb tc hTok.out htb.out htc.out).mono ?_
  rintro en w2 ⟨v2, rfl, hN, hb2⟩
  obtain ⟨ub, uc, rfl, -, -, hub, hNd⟩ := ndAt_of hN hne.out
  have hb02 := hb01.out.trans (hb2.mono hb01.out.size)
  have B2 := B1.out.same (hb2.block _ s1.out)
  have s2 : Hid (w.heap.size < w2.heap.size) := Lib.hid (by have := hb2.size; have := s1.out; omega)
  replace hb02 := Lib.hid hb02
  replace B2 := Lib.hid B2
  replace hNd := Lib.hid hNd
  replace hub := Lib.hid hub
  clear hb2 hN
  go_wp2_with fail
  refine (k3.out w2 hb02.out ub uc hub.out (fun g hg => hNd.out g (.inr hg))).mono ?_
  rintro en w3 ⟨left, a, c, b, k, rfl, r1, r2, f1, f2, hc, hb3⟩
  have B3 := B2.out.same (hb3.block _ s2.out)
  have hb03 := hb02.out.trans (hb3.mono hb02.out.size)
  have s3 : w.heap.size < w3.heap.size := by have := hb3.size; have := s2.out; omega
  have bC := boxC_alloc w3 #[.bool x.ch, .slice a x.s.length c, .slice b x.d.length k] 24
  have hba := push (start w3) (.cells #[.bool x.ch, .slice a x.s.length c, .slice b x.d.length k] 24)
  have g1 : ∀ p, a = some p → w.heap.size < p.block := fun p e => by have := f1 p e; have := s2.out; omega
  have g2 : ∀ p, b = some p → w.heap.size < p.block := fun p e => by have := f2 p e; have := s2.out; omega
  have B4 := B3.same (hba.block _ s3)
  have r14 := Lib.hid (r1.below hba)
  have r24 := Lib.hid (r2.below hba)
  have hb04 := Lib.hid (hb03.trans (hba.mono hb03.size))
  obtain ⟨y0, x0⟩ := B4 0 _ rfl
  obtain ⟨y1, x1⟩ := B4 1 _ rfl
  obtain ⟨y2, x2⟩ := B4 2 _ rfl
  replace B4 := Lib.hid B4
  obtain ⟨z0, -⟩ := bC 0 _ rfl
  obtain ⟨z1, -⟩ := bC 1 _ rfl
  obtain ⟨z2, -⟩ := bC 2 _ rfl
  replace g1 := Lib.hid g1
  replace g2 := Lib.hid g2
  have ne3 : w.heap.size ≠ w3.heap.size := by omega
  clear B3 bC hba hb3 hb03 r1 r2 f1 f2 hc
  clear s3
  go_wp2_with fail
  generalize w3.alloc (.cells #[.bool x.ch, .slice a x.s.length c, .slice b x.d.length k] 24) = w4 at *
  go_region
  clear y0 y1 y2 x0 x1 x2 z0 z1 z2
  have B5 : BoxC w.heap.size [.bool x.ch, .slice a x.s.length c, .slice b x.d.length k] (((w4.setCell ⟨w.heap.size, 0, none⟩ (.bool x.ch)).setCell ⟨w.heap.size, 1, none⟩ (.slice a x.s.length c)).setCell ⟨w.heap.size, 2, none⟩ (.slice b x.d.length k)).drew := (((B4.out.put 0 (by simp) (.bool x.ch)).put 1 (by simp) (.slice a x.s.length c)).put 2 (by simp) (.slice b x.d.length k)).same rfl
  have q1 : Row (((w4.setCell ⟨w.heap.size, 0, none⟩ (.bool x.ch)).setCell ⟨w.heap.size, 1, none⟩ (.slice a x.s.length c)).setCell ⟨w.heap.size, 2, none⟩ (.slice b x.d.length k)).drew a x.s := r14.out.but (g := w.heap.size) (But.set3 _ _ _ _ _ _) (fun _ p e => by have := g1.out p e; omega)
  have q2 : Row (((w4.setCell ⟨w.heap.size, 0, none⟩ (.bool x.ch)).setCell ⟨w.heap.size, 1, none⟩ (.slice a x.s.length c)).setCell ⟨w.heap.size, 2, none⟩ (.slice b x.d.length k)).drew b x.d := r24.out.but (g := w.heap.size) (But.set3 _ _ _ _ _ _) (fun _ p e => by have := g2.out p e; omega)
  have hb5 : Below w.heap.size w (((w4.setCell ⟨w.heap.size, 0, none⟩ (.bool x.ch)).setCell ⟨w.heap.size, 1, none⟩ (.slice a x.s.length c)).setCell ⟨w.heap.size, 2, none⟩ (.slice b x.d.length k)).drew := (set3 hb04.out (Nat.le_refl _) _ _ _).drew
  obtain ⟨y0, x0⟩ := B5 0 _ rfl
  obtain ⟨y1, x1⟩ := B5 1 _ rfl
  obtain ⟨y2, x2⟩ := B5 2 _ rfl
  clear B5 B4 r14 r24 hb04
  generalize (((w4.setCell ⟨w.heap.size, 0, none⟩ (.bool x.ch)).setCell ⟨w.heap.size, 1, none⟩ (.slice a x.s.length c)).setCell ⟨w.heap.size, 2, none⟩ (.slice b x.d.length k)).drew = w5 at *
  replace q1 := Lib.hid q1
  replace q2 := Lib.hid q2
  replace hb5 := Lib.hid hb5
  go_wp2
  refine bodyPost_ret (v := .tuple #[arrV x.ch a x.s.length c b x.d.length k, .bool true]) (by simp [results, Tryz.results13, go_sem, arrV, y0, y1, y2]) rfl ?_
  exact ⟨a, c, b, k, rfl, q1.out, q2.out, hb5.out⟩

set_option maxRecDepth 20000 in
set_option maxHeartbeats 4000000 in
theorem tells_any (A : Option Addr) (l : List Bd) (cp : Nat) (s : ByteArray) (ts : List Tok) (e : Ex) (x y : Arr) (a' : Option Addr) (c' : Nat) (b' : Option Addr) (k' : Nat) (w : World) (hW : WsAt A l w) (hok : WsOk l) (hTz : Tz w) (h8 : 8 ≤ w.heap.size) (hl : LineOk s ts e) (hv : ValOk (envOf l) e x) (l1 : x.s.length ≤ 100000) (l2 : x.d.length ≤ 100000)
    (r1 : Row w a' y.s) (r2 : Row w b' y.d) (m1 : y.s.length ≤ 100000) (m2 : y.d.length ≤ 100000) :
    Calls Tryz.prog 7 #[.slice A l.length cp, .string s, arrV y.ch a' y.s.length c' b' y.d.length k'] w fun en w' => en = .returned (.bool (decide (x = y))) ∧ Below w.heap.size w w' := by
  obtain ⟨r, hr⟩ : ∃ r, r = decide (x = y) := ⟨_, rfl⟩
  rw [← hr]
  replace hr := Lib.hid hr
  have hb0 : Below w.heap.size w (w.alloc (.cells #[.bool y.ch, .slice a' y.s.length c', .slice b' y.d.length k'] 24)) := push (start w) _
  have bB := boxC_alloc w #[.bool y.ch, .slice a' y.s.length c', .slice b' y.d.length k'] 24
  obtain ⟨W, hWe⟩ : ∃ W : World, W = w.alloc (.cells #[.bool y.ch, .slice a' y.s.length c', .slice b' y.d.length k'] 24) := ⟨_, rfl⟩
  have sW : W.heap.size = w.heap.size + 1 := by rw [hWe]; simp
  rw [← hWe] at hb0 bB
  have k1 := worth_any A l cp s ts e x W (hW.below hb0) hok (hTz.below hb0 h8) (by omega) hl hv l1 l2
  have k2 := fun (W' : World) a c b k h1 h2 h3 h4 => array_any x.ch y.ch a b a' b' x.s x.d y.s y.d x.s.length c x.d.length k y.s.length c' y.d.length k' W' h1 h2 (by simp only [maxLen]; omega) (by simp only [maxLen]; omega) rfl rfl h3 h4 (by simp only [maxLen]; omega) (by simp only [maxLen]; omega) rfl rfl
  have q1 := Lib.hid (r1.below hb0)
  have q2 := Lib.hid (r2.below hb0)
  have hWe' := Lib.hid hWe.symm
  replace hWe := Lib.hid hWe
  replace k1 := Lib.hid k1
  replace k2 := Lib.hid k2
  replace bB := Lib.hid bB
  replace hb0 := Lib.hid hb0
  replace sW := Lib.hid sW
  clear hW hok hTz hl hv l1 l2 m1 m2 r1 r2
  go_enter Tryz.func7, Tryz.ntmps7
  go_wp2_with fail
  rw [hWe'.out]
  refine k1.out.mono ?_
  rintro en w1 ⟨a, c, b, k, rfl, r1, r2, hb1⟩
  have B1 := bB.out.same (hb1.block _ (by have := sW.out; omega))
  have hba := push (start w1) (.cells #[.bool x.ch, .slice a x.s.length c, .slice b x.d.length k] 24)
  have B2 := B1.same (hba.block _ (by have := hb1.size; have := sW.out; omega))
  have hb2 := Lib.hid (((hb0.out.trans (hb1.mono (by have := sW.out; omega)))).trans (hba.mono (by have := hb1.size; have := sW.out; omega)))
  have p1 := Lib.hid (r1.below hba)
  have p2 := Lib.hid (r2.below hba)
  have p3 := Lib.hid ((q1.out.below hb1).below hba)
  have p4 := Lib.hid ((q2.out.below hb1).below hba)
  obtain ⟨y0, -⟩ := B2 0 _ rfl
  obtain ⟨y1, -⟩ := B2 1 _ rfl
  obtain ⟨y2, -⟩ := B2 2 _ rfl
  clear B1 B2 hba hb1 r1 r2
  go_wp2_with fail
  refine (k2.out _ a c b k p1.out p2.out p3.out p4.out).mono ?_
  rintro en w3 ⟨rfl, hb3⟩
  have hb4 := Lib.hid (hb2.out.trans (hb3.mono hb2.out.size))
  clear y0 y1 y2 hb3 k2
  rw [show decide ((⟨x.ch, x.s, x.d⟩ : Arr) = ⟨y.ch, y.s, y.d⟩) = r from hr.out.symm]
  go_wp2
  go_ret
  exact ⟨rfl, hb4.out⟩
end Go.Proofs.YtaplaoelamnoiaaGreatDoor
