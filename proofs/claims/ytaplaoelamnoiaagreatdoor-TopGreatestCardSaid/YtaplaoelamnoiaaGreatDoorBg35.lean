/- Texts that lie in one file: what is plain, rows, boxes, squares, and what is known of a world. No condition. -/
import Derived.Test.YtaplaoelamnoiaaGreatDoorBg04
import Derived.Shelf.Slices.Delete
import Derived.Lib.OwnBridge
import Derived.Test.YtaplaoelamnoiaaGreatDoorWkFoldedF
import Derived.Test.YtaplaoelamnoiaaGreatDoorWkClone
import Derived.Test.YtaplaoelamnoiaaGreatDoorBg18
import Derived.Laws.EntriesVeiled
/- The library's slices.Delete on ints, laid at this program: one number taken out of an own row. No condition. -/
namespace Go.Proofs.YtaplaoelamnoiaaGreatDoor
open Go.RowKit Go.Shelf Go.Lib Go.Sort

/-- Which number is whose. -/
def delRen : Ren := ⟨fun | 23 => 163 | n => n, fun | 0 => 0 | 3 => 3 | 4 => 4 | 22 => 22 | n => n, fun n => n⟩
theorem delLays : Lays2.n23 Tryz.prog delRen := {
  mixed := by kernel_rfl
  f23 := Tryz.func163.trans (congrArg some (by kernel_rfl))
  t0 := Tryz.underlying0
  a0 := Tryz.isAgg0
  z0 := Tryz.sizeOf0
  v0 := Tryz.zeroValue0
  t3 := Tryz.underlying3
  a3 := Tryz.isAgg3
  z3 := Tryz.sizeOf3
  v3 := Tryz.zeroValue3
  t4 := Tryz.underlying4
  a4 := Tryz.isAgg4
  z4 := Tryz.sizeOf4
  v4 := Tryz.zeroValue4
  t22 := Tryz.underlying22
  a22 := Tryz.isAgg22
  z22 := Tryz.sizeOf22
  v22 := Tryz.zeroValue22
  i3 := Tryz.infoInt }

theorem delete_any (v : Value) (ys : List Int) (B i : Nat) (w : World) (h : Own w B v ys) (hi : i < ys.length) :
    Calls Tryz.prog 163 #[v, .int .i64 i, .int .i64 ((i + 1 : Nat) : Int)] w fun e w' =>
      ∃ v', e = .returned v' ∧ Own w' B v' (ys.take i ++ ys.drop (i + 1)) ∧ Below B w w' := by
  obtain ⟨g, cap, rfl, hB, hg, hnc, hcm, -, hH⟩ := holds_of_ownsRow (enc := Value.int .i64) h (by
    intro e
    obtain ⟨a, c, hv, -⟩ := h.view
    rw [e] at hv
    have := (Value.slice.inj hv).2.1
    omega)
  refine (Any.slices_Delete_int delLays g 0 cap i (i + 1) ys w hH hnc hcm (by omega) (by omega)).mono ?_
  rintro e w' ⟨rfl, q, rfl⟩
  have hl : (ys.take i ++ ys.drop (i + 1) ++ List.replicate (i + 1 - i) 0).length = ys.length := by simp; omega
  have ho := ownsRow_putRow (q := q) (k := ys.length - (i + 1 - i)) h hl (by omega)
  have e2 : (ys.take i ++ ys.drop (i + 1) ++ List.replicate (i + 1 - i) 0).take (ys.length - (i + 1 - i)) = ys.take i ++ ys.drop (i + 1) := by
    rw [List.take_append_of_le_length (by simp; omega), List.take_of_length_le (by simp; omega)]
  rw [e2] at ho
  have e3 : ys.length - (i + 1 - i) = (ys.take i ++ ys.drop (i + 1)).length := by simp; omega
  refine ⟨_, rfl, ?_, below_putRow (Below.refl _ w) hB⟩
  unfold Own
  rw [← e3]
  exact ho
end Go.Proofs.YtaplaoelamnoiaaGreatDoor

/- The call fold.Reduce on a list, with word of the new memory. Condition: a sound list of numbers with one at least; its fold is no error. -/
namespace Go.Proofs.YtaplaoelamnoiaaGreatDoor
open Go.RowKit

theorem lineAt_all (d : List Int) : M.lineAt d d.length 0 = d := by
  unfold M.lineAt
  apply List.ext_getElem
  · simp
  · intro i h1 h2
    simp [h2]
set_option maxRecDepth 20000 in
set_option maxHeartbeats 8000000 in
theorem reduceF_list (f : Int) (hf : M.fn2 f = true) (a b : Option Addr) (P : Nat) (d : List Int) (v : Int) (c z : Nat) (w : World) (eP0 : P = d.length) (hs : Row w a [(P : Int)]) (hd : Row w b d) (hd64 : All64 d) (hfl : M.flaw false [(P : Int)] d = 0) (h0 : 0 < P) (hv : M.foldL f d = .ok v) :
    Calls Tryz.prog 116 #[.int .i64 f, .int .i64 0, arrV false a 1 c b d.length z] w fun e w' => ArrPostF (.ok ⟨false, [], [v]⟩) w e w' := by
  have hl4 := (flaw_len hfl).1
  have hP4 : P ≤ 4096 := by omega
  have kl := fun W h1 h2 => along_any f hf a b [] P d c z W h1 h2 (by unfold maxLen; omega) hfl
  have kc := fun W h => clone_any a [(P : Int)] 1 c W h (by simp) rfl
  have kd : ∀ (u : Value) (B : Nat) (W : World), Own W B u [(P : Int)] → Calls Tryz.prog 163 #[u, .int .i64 0, .int .i64 1] W fun e w' => ∃ v', e = .returned v' ∧ Own w' B v' [] ∧ Below B W w' := fun u B W h => delete_any u [(P : Int)] B 0 W h (by simp)
  have kf : ∀ (W : World) (sa : Option Addr) (sc L : Nat), Row W a [(P : Int)] → Row W b d → Row W sa [] → W.cell? ⟨L, 1, none⟩ = some (.int .i64 P) →
      Calls Tryz.prog 142 #[.agg #[.int .i64 1, .int .i64 P, .int .i64 1], .int .i64 f, arrV false a 1 c b d.length z, .slice sa 0 sc, .int .i64 1, .func (.func 164) #[] #[], .func (.func 165) #[] #[.pointer (some ⟨L, 0, none⟩)]] W fun e w' =>
      FoldPost (.ok ⟨false, [], [v]⟩) sa sc W e w' := fun W sa sc L h1 h2 h3 h4 => by
    have h := foldedF_one f 1 P a b sa [(P : Int)] [] d c z sc L W h1 h2 h3 h4 hd64 (by omega) hP4 (by omega) (by omega)
    have e : M.seqE 1 (M.lastFold f d P) = .ok [v] := by
      unfold M.seqE M.seqE M.lastFold
      rw [eP0, lineAt_all, hv]
      rfl
    rw [e] at h
    exact h
  have E := ((((Env.start w).addRow hd).addRow hs).box false a 1 c b d.length z).box false none 0 0 none 0 0
  simp only [World.size_alloc] at E
  rw [show M.alongO [] = 1 from rfl, show M.alongI [] = 1 from rfl] at kl
  replace eP0 := Lib.hid eP0
  replace kl := Lib.hid kl
  replace kc := Lib.hid kc
  replace kd := Lib.hid kd
  replace kf := Lib.hid kf
  clear hs hd hfl hv hd64
  go_enter Tryz.func116, Tryz.ntmps116
  obtain ⟨⟨u0, u1, u2⟩, -, -, -⟩ := E.getBox 1 rfl
  go_wp2_with fail
  refine (kl.out _ (E.getRow 2 rfl) (E.getRow 3 rfl)).mono ?_
  rintro e w3 ⟨rfl, hb⟩
  have hmf : ∀ (fn : Fn) (first cap : Array Value) (w : World), (Instr.makeFunc fn first cap).run Tryz.prog w = .ok (.func fn first cap) w := fun _ _ _ _ => rfl
  have eP : (((P : Nat) : Int) == 0) = false := by rw [beq_eq_false_iff_ne]; omega
  have E3 := (E.step hb).step (push (start w3) (.cells #[.int .i64 1, .int .i64 P, .int .i64 1] 213))
  have hL : ((w3.alloc (.cells #[.int .i64 1, .int .i64 P, .int .i64 1] 213)).cell? ⟨w3.heap.size, 0, none⟩ = some (.int .i64 1) ∧ (w3.alloc (.cells #[.int .i64 1, .int .i64 P, .int .i64 1] 213)).cell? ⟨w3.heap.size, 1, none⟩ = some (.int .i64 P) ∧ (w3.alloc (.cells #[.int .i64 1, .int .i64 P, .int .i64 1] 213)).cell? ⟨w3.heap.size, 2, none⟩ = some (.int .i64 1)) := by simp [go_sem]
  have hLlt : w3.heap.size < (w3.alloc (.cells #[.int .i64 1, .int .i64 P, .int .i64 1] 213)).heap.size := by simp
  obtain ⟨w5, hw5⟩ : ∃ w5 : World, w5 = w3.alloc (.cells #[.int .i64 1, .int .i64 P, .int .i64 1] 213) := ⟨_, rfl⟩
  rw [← hw5] at E3 hL hLlt
  have hw5' := hw5.symm
  replace hw5 := Lib.hid hw5
  obtain ⟨L0, L1, L2⟩ := hL
  clear E hb u0 u1 u2
  obtain ⟨⟨u0, u1, u2⟩, -, -, -⟩ := E3.getBox 1 rfl
  replace E3 := Lib.hid E3
  go_wp2_with fail
  refine (kc.out w5 (E3.out.getRow 2 rfl)).mono ?_
  rintro e w6 ⟨v6, rfl, o6, hb6⟩
  have fr6 : ∀ av n c, v6 = .slice av n c → ∀ p, av = some p → w5.heap.size ≤ p.block := fun av n c e p hp => by subst e; exact own_fresh o6 p hp
  go_wp2_with fail
  refine (kd.out _ _ _ o6).mono ?_
  rintro e w7 ⟨v7, rfl, o7, hb7⟩
  obtain ⟨av, cv, rfl, -, -, r7⟩ := o7.view
  have fr7 := own_fresh o7
  have hb57 := hb6.trans hb7
  have E5 := E3.out.step hb57
  have M1 := (hb57.cell (p := ⟨w3.heap.size, 1, none⟩) hLlt).trans L1
  have M0 := (hb57.cell (p := ⟨w3.heap.size, 0, none⟩) hLlt).trans L0
  have M2 := (hb57.cell (p := ⟨w3.heap.size, 2, none⟩) hLlt).trans L2
  clear u0 u1 u2 L0 L1 L2 o6 hb6 o7 hb7 fr6
  obtain ⟨⟨u0, u1, u2⟩, -, -, -⟩ := E5.getBox 1 rfl
  have hkf := Lib.hid (kf.out w7 av cv w3.heap.size (E5.getRow 2 rfl) (E5.getRow 3 rfl) r7 M1)
  have hlt5 := (E3.out.getBox 0 rfl).lt
  replace E5 := Lib.hid E5
  clear r7
  simp only [List.length_nil] at *
  go_wp2_with fail
  refine hkf.out.mono ?_
  intro e w9 hp
  obtain ⟨b9, k9, rfl, ra, rb, fb⟩ := hp.2.1 _ rfl
  have hb9 := hp.2.2
  have hbR := E5.out.getBox 0 rfl
  have hbel := E5.out.bel.trans (hb9.mono E5.out.bel.size)
  have hR9 := held3 hb9 hbR.1
  have hF9 := frozen3 hb9 hbR.lt hbR.2
  have g1 : ∀ p, av = some p → w.heap.size + 1 < p.block := fun p e => by have := fr7 p e; omega
  have g2 : ∀ p, b9 = some p → w.heap.size + 1 < p.block := fun p e => by have := fb p e; have := hbR.lt; omega
  replace rb := Lib.hid rb
  replace hbel := Lib.hid hbel
  replace g1 := Lib.hid g1
  replace g2 := Lib.hid g2
  obtain ⟨z0, z1, z2⟩ := hR9
  obtain ⟨z3, z4, z5⟩ := hF9
  clear hp ra fb hb9 hbR fr7 u0 u1 u2 M0 M1 M2 hb57
  go_wp2
  refine bodyPost_ret (v := .tuple #[arrV false av 0 cv b9 1 k9, .nilIface]) (by simp [results, Tryz.results116, go_sem, cell?_set_same, arrV, z0, z1, z2]) rfl ?_
  exact ArrPostF.ok (x := ⟨false, [], [v]⟩) rfl rfl (fun i h => absurd h (by simp)) (rb.out.but (But.set3 _ _ _ _ _ _) (fun _ p e => by have := g2.out p e; omega)) (fun p e => by have := g1.out p e; omega) (fun p e => by have := g2.out p e; omega) (Nat.zero_le _) (set3 hbel.out (by omega) _ _ _)
end Go.Proofs.YtaplaoelamnoiaaGreatDoor
