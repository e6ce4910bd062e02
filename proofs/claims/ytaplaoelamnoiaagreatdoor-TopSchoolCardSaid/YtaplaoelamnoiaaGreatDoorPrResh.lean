/- The call prim.byList where a list is given another shape. Condition: a list of numbers and a sound array. -/
import Derived.Test.YtaplaoelamnoiaaGreatDoorBdS2
import Derived.Test.YtaplaoelamnoiaaGreatDoorBdS1
namespace Go.Proofs.YtaplaoelamnoiaaGreatDoor
open Go.RowKit

set_option maxRecDepth 20000 in
set_option maxHeartbeats 8000000 in
theorem byList_resh (n : Nat) (base : List Int) (y z : Arr) (hn : n ≤ 1) (lb : base.length ≤ 100000) (hy : M.flaw y.ch y.s y.d = 0) (hz : M.reshape base y = .ok z)
    (w : World) (a : Option Addr) (c : Nat) (b : Option Addr) (k : Nat) (a' : Option Addr) (c' : Nat) (b' : Option Addr) (k' : Nat) (hd : Row w b base) (hs' : Row w a' y.s) (hd' : Row w b' y.d) :
    Calls Tryz.prog 113 #[.int .i64 18, arrV false a n c b base.length k, arrV y.ch a' y.s.length c' b' y.d.length k'] w fun e w' => ArrPostF (.ok z) w e w' := by
  have l3 := (flaw_len hy).2
  have l4 := (flaw_len hy).1
  have kl := fun W => last_any y.ch a' y.s.length c' b' y.d.length k' W (by omega)
  have kn := fun W => numbers_any a n c b base.length k W hn
  have kr := fun W h0 h1 h2 => reshapeF_any b base base.length k y.ch a' b' y.s y.d y.s.length c' y.d.length k' W h0 (by simp only [maxLen]; omega) rfl h1 h2 (by simp only [maxLen]; omega) (by simp only [maxLen]; omega) rfl rfl
  rw [show M.reshape base ⟨y.ch, y.s, y.d⟩ = .ok z from hz] at kr
  have E := ((((Env.start w).addRow hd').addRow hs').addRow hd)
  replace E := E.box false a n c b base.length k
  replace E := E.box y.ch a' y.s.length c' b' y.d.length k'
  replace E := E.box false none 0 0 none 0 0
  simp only [World.size_alloc] at E
  obtain ⟨W, hWe⟩ : ∃ W : World, W = ((w.alloc (.cells #[.bool false, .slice a n c, .slice b base.length k] 24)).alloc (.cells #[.bool y.ch, .slice a' y.s.length c', .slice b' y.d.length k'] 24)).alloc (.cells #[.bool false, .slice none 0 0, .slice none 0 0] 24) := ⟨_, rfl⟩
  rw [← hWe] at E
  have hWe' := Lib.hid hWe.symm
  replace hWe := Lib.hid hWe
  replace kl := Lib.hid kl
  replace kn := Lib.hid kn
  replace kr := Lib.hid kr
  clear hy hz l3 l4 hd hs' hd' lb hn
  replace E := Lib.hid E
  go_enter Tryz.func113, Tryz.ntmps113
  go_wp2_with fail
  rw [hWe'.out]
  replace E := E.out
  refine (kl.out _).mono ?_
  rintro en w1 ⟨rfl, hb⟩
  replace E := E.step hb
  clear hb
  obtain ⟨⟨y0, y1, y2⟩, -⟩ := E.getBox 2 rfl
  replace E := Lib.hid E
  go_wp2_with fail
  replace E := E.out
  refine (kn.out _).mono ?_
  rintro en w2 ⟨rfl, hb⟩
  replace E := E.step hb
  clear hb
  clear y0 y1 y2
  obtain ⟨⟨y0, y1, y2⟩, -⟩ := E.getBox 1 rfl
  replace E := Lib.hid E
  go_wp2_with fail
  replace E := E.out
  refine (kr.out w2 (E.getRow 3 rfl) (E.getRow 4 rfl) (E.getRow 5 rfl)).mono ?_
  intro en w6 hp
  obtain ⟨a5, c5, b5, k5, rfl, r1, r2, f1, f2, hc, hb6⟩ := hp.is_ok rfl
  clear hp
  clear y0 y1 y2
  have hlt := (E.getBox 0 rfl).lt
  have hfin := Lib.hid (result_any (x := z) (k := k5) (n0 := w.heap.size + 1 + 1) (by omega) E.bel hlt r1 r2 f1 f2 hc hb6)
  obtain ⟨⟨t0, t1, t2⟩, u0, u1, u2⟩ := (E.step hb6).getBox 0 rfl
  clear E r1 r2 f1 f2 hc hb6 hlt
  go_wp2
  refine bodyPost_ret (v := .tuple #[arrV z.ch a5 z.s.length c5 b5 z.d.length k5, .nilIface]) (by simp [results, Tryz.results113, go_sem, cell?_set_same, arrV, t0, t1, t2]) rfl ?_
  exact hfin.out
end Go.Proofs.YtaplaoelamnoiaaGreatDoor
