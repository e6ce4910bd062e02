/- The functions of one array that the law TopGreatest names: grade up, shape, a list's fold. Condition: a sound list of numbers with one at least. -/
import Derived.Test.YtaplaoelamnoiaaGreatDoorBg20
import Derived.Test.YtaplaoelamnoiaaGreatDoorBg27
import Derived.Test.YtaplaoelamnoiaaGreatDoorBg35
import Derived.Test.YtaplaoelamnoiaaGreatDoorBg34
namespace Go.Proofs.YtaplaoelamnoiaaGreatDoor
open Go.RowKit

set_option maxRecDepth 20000 in
set_option maxHeartbeats 4000000 in
theorem plain_up (d : List Int) (hf : M.flaw false [(d.length : Int)] d = 0) (h0 : 0 < d.length) (w : World) (a : Option Addr) (c : Nat) (b : Option Addr) (k : Nat) (hk : d.length ≤ k) (hs : Row w a [(d.length : Int)]) (hd : Row w b d) :
    Calls Tryz.prog 118 #[.int .i64 26, arrV false a 1 c b d.length k] w fun e w' => ArrPostF (.ok ⟨false, [(d.length : Int)], gradeL d⟩) w e w' := by
  obtain ⟨n, hn⟩ : ∃ n, n = d.length := ⟨_, rfl⟩
  have kl := fun W => last_any false a 1 c b n k W (by omega)
  have ku := fun W h1 h2 => gup_any a c b k n d W hn hf (by omega) (by omega) h1 h2
  have kp := fun W g h => plist_any (some ⟨g, 0, none⟩) (gradeL d) n n W h (by rw [gradeL_length]; exact hn)
  rw [← hn] at ku hs
  rw [gradeL_length, ← hn] at kp
  rw [← hn]
  have hgl : Hid ((gradeL d).length = n) := Lib.hid (by rw [gradeL_length]; exact hn.symm)
  have E := ((Env.start w).addRow hd).addRow hs
  replace E := E.box false a 1 c b n k
  replace E := E.box false none 0 0 none 0 0
  simp only [World.size_alloc] at E
  obtain ⟨W, hWe⟩ : ∃ W : World, W = (w.alloc (.cells #[.bool false, .slice a 1 c, .slice b n k] 24)).alloc (.cells #[.bool false, .slice none 0 0, .slice none 0 0] 24) := ⟨_, rfl⟩
  rw [← hWe] at E
  have hWe' := Lib.hid hWe.symm
  replace hWe := Lib.hid hWe
  replace kl := Lib.hid kl
  replace ku := Lib.hid ku
  replace kp := Lib.hid kp
  replace hn := Lib.hid hn
  clear hd hs hf h0 hk
  replace E := Lib.hid E
  go_enter Tryz.func118, Tryz.ntmps118
  go_wp2_with fail
  rw [hWe'.out]
  refine (kl.out _).mono ?_
  rintro en w1 ⟨rfl, hb⟩
  replace E := E.out.step hb
  clear hb
  obtain ⟨⟨y0, y1, y2⟩, -⟩ := E.getBox 1 rfl
  replace E := Lib.hid E
  go_wp2_with fail
  refine (ku.out w1 (E.out.getRow 2 rfl) (E.out.getRow 3 rfl)).mono ?_
  rintro en w2 ⟨g, rfl, hg, hr, hb⟩
  have hg1 : Hid (w.heap.size + 1 < g) := Lib.hid (by have := (E.out.getBox 0 rfl).lt; omega)
  replace E := Lib.hid ((E.out.step hb).addRow hr)
  clear hb y0 y1 y2 hr
  go_wp2_with fail
  refine (kp.out w2 g (E.out.getRow 0 rfl)).mono ?_
  rintro en w3 ⟨g2, rfl, hg2, r1, r2, hb⟩
  replace E := E.out
  have hlt := (E.getBox 1 rfl).lt
  have g0 := hg1.out
  obtain ⟨⟨t0, t1, t2⟩, u0, u1, u2⟩ := (E.step hb).getBox 1 rfl
  have hbel := E.bel.trans (hb.mono E.bel.size)
  have hsz := E.bel.size
  clear E hb
  replace r1 := Lib.hid r1
  replace r2 := Lib.hid r2
  replace hbel := Lib.hid hbel
  go_wp2
  refine bodyPost_ret (v := .tuple #[arrV false (some ⟨g2, 0, none⟩) 1 1 (some ⟨g, 0, none⟩) n n, .nilIface]) (by simp [results, Tryz.results118, go_sem, cell?_set_same, arrV, t0, t1, t2]) rfl ?_
  exact ArrPostF.ok (x := ⟨false, [(n : Int)], gradeL d⟩) rfl (by rw [hgl.out]; rfl) (r1.out.but (But.set3 _ _ _ _ _ _) (fun _ p e => by cases e; show g2 ≠ w.heap.size + 1; omega)) (r2.out.but (But.set3 _ _ _ _ _ _) (fun _ p e => by cases e; show g ≠ w.heap.size + 1; omega)) (fun p e => by cases e; show w.heap.size ≤ g2; omega) (fun p e => by cases e; show w.heap.size ≤ g; omega) (Nat.le_refl _) (set3 hbel.out (by omega) _ _ _)
set_option maxRecDepth 20000 in
set_option maxHeartbeats 4000000 in
theorem known1_up (w : World) : Calls Tryz.prog 115 #[.agg #[.int .i64 0, .int .i64 26, .int .i64 0]] w fun en w' => en = .returned (.bool true) ∧ Below w.heap.size w w' := by
  go_enter Tryz.func115, Tryz.ntmps115
  go_wp2
  go_ret
  exact ⟨rfl, push (start w) _⟩
set_option maxRecDepth 20000 in
set_option maxHeartbeats 4000000 in
theorem known1_rho (w : World) : Calls Tryz.prog 115 #[.agg #[.int .i64 0, .int .i64 18, .int .i64 0]] w fun en w' => en = .returned (.bool true) ∧ Below w.heap.size w w' := by
  go_enter Tryz.func115, Tryz.ntmps115
  go_wp2
  go_ret
  exact ⟨rfl, push (start w) _⟩
theorem prim_up (d : List Int) (hf : M.flaw false [(d.length : Int)] d = 0) (h0 : 0 < d.length) : One1C (fun k => d.length ≤ k) 0 26 0 ⟨false, [(d.length : Int)], d⟩ ⟨false, [(d.length : Int)], gradeL d⟩ :=
  one_plainC _ 26 ⟨false, [(d.length : Int)], d⟩ _ hf known1_up fun W a c b k hk h1 h2 => plain_up d hf h0 W a c b k hk h1 h2
set_option maxRecDepth 20000 in
set_option maxHeartbeats 4000000 in
theorem plain_rho (v n : Nat) (d : List Int) (w : World) (a : Option Addr) (c : Nat) (b : Option Addr) (k : Nat) (hs : Row w a [(n : Int)]) :
    Calls Tryz.prog 118 #[.int .i64 18, arrV false a 1 c b d.length k] w fun e w' => ArrPostF (.ok ⟨false, [1], [(n : Int)]⟩) w e w' := by
  have kl := fun W => last_any false a 1 c b d.length k W (by omega)
  have kp := fun W p z h => plist_any p [(n : Int)] 1 z W h rfl
  generalize d.length = m at *
  have E := (Env.start w).addRow hs
  replace E := E.box false a 1 c b m k
  replace E := E.box false none 0 0 none 0 0
  simp only [World.size_alloc] at E
  obtain ⟨W, hWe⟩ : ∃ W : World, W = (w.alloc (.cells #[.bool false, .slice a 1 c, .slice b m k] 24)).alloc (.cells #[.bool false, .slice none 0 0, .slice none 0 0] 24) := ⟨_, rfl⟩
  rw [← hWe] at E
  have hWe' := Lib.hid hWe.symm
  replace hWe := Lib.hid hWe
  replace kl := Lib.hid kl
  replace kp := Lib.hid kp
  clear hs
  replace E := Lib.hid E
  go_enter Tryz.func118, Tryz.ntmps118
  go_wp2_with fail
  rw [hWe'.out]
  refine (kl.out _).mono ?_
  rintro en w1 ⟨rfl, hb⟩
  replace E := E.out.step hb
  clear hb
  obtain ⟨⟨y0, y1, y2⟩, -⟩ := E.getBox 1 rfl
  have hlt1 := (E.getBox 0 rfl).lt
  replace E := Lib.hid E
  go_wp2_with (first | (at_builtin; refine app_opt rfl (.const (.slice none 0 0)) (.tmp 24) rfl w1.heap.size _ [] [(n : Int)] a c rfl (Own.nil _ _) rfl (E.out.getRow 2 rfl) (by simp) (Nat.le_refl _) ?_; intro v' w2 ho hb2 hl2; rw [List.nil_append] at ho; obtain ⟨sa, sc, rfl, -, -, rs⟩ := ho.view; simp only [List.length_cons, List.length_nil, Nat.reduceAdd] at ho ⊢; replace ho := Lib.hid ho; replace hb2 := Lib.hid hb2; replace rs := Lib.hid rs) | fail)
  refine (kp.out w2 sa sc rs.out).mono ?_
  rintro en w3 ⟨g2, rfl, hg2, r1, r2, hb⟩
  have hE2 := E.out.step hb2.out
  have hsa : ∀ p, sa = some p → w1.heap.size ≤ p.block := fun p e => own_fresh ho.out p e
  have hb2' := hb2.out.size
  obtain ⟨⟨t0, t1, t2⟩, u0, u1, u2⟩ := (hE2.step hb).getBox 0 rfl
  have hbel := hE2.bel.trans (hb.mono hE2.bel.size)
  have hsz := hE2.bel.size
  clear hb y0 y1 y2
  replace r1 := Lib.hid r1
  replace r2 := Lib.hid r2
  replace hE2 := Lib.hid hE2
  replace hbel := Lib.hid hbel
  replace hsa := Lib.hid hsa
  go_wp2
  refine bodyPost_ret (v := .tuple #[arrV false (some ⟨g2, 0, none⟩) 1 1 sa 1 sc, .nilIface]) (by simp [results, Tryz.results118, go_sem, cell?_set_same, arrV, t0, t1, t2]) rfl ?_
  exact ArrPostF.ok (x := ⟨false, [1], [(n : Int)]⟩) rfl rfl (r1.out.but (But.set3 _ _ _ _ _ _) (fun _ p e => by cases e; show g2 ≠ w.heap.size + 1; omega)) (r2.out.but (But.set3 _ _ _ _ _ _) (fun _ p e => by have := hsa.out p e; omega)) (fun p e => by cases e; show w.heap.size ≤ g2; omega) (fun p e => by have := hsa.out p e; omega) (Nat.le_refl _) (set3 hbel.out (by omega) _ _ _)
theorem prim_rho (d : List Int) (hf : M.flaw false [(d.length : Int)] d = 0) : One1 0 18 0 ⟨false, [(d.length : Int)], d⟩ ⟨false, [1], [(d.length : Int)]⟩ :=
  one_plain 18 ⟨false, [(d.length : Int)], d⟩ _ hf known1_rho fun W a c b k h1 _ => plain_rho 0 d.length d W a c b k h1
set_option maxRecDepth 20000 in
set_option maxHeartbeats 4000000 in
theorem known1_over1 (w : World) : Calls Tryz.prog 115 #[.agg #[.int .i64 1, .int .i64 1, .int .i64 0]] w fun en w' => en = .returned (.bool true) ∧ Below w.heap.size w w' := by
  go_enter Tryz.func115, Tryz.ntmps115
  go_wp2
  go_ret
  exact ⟨rfl, push (start w) _⟩
theorem prim_over1 (d : List Int) (v : Int) (hf : M.flaw false [(d.length : Int)] d = 0) (h64 : All64 d) (h0 : 0 < d.length) (hv : M.foldL 1 d = .ok v) : One1 1 1 0 ⟨false, [(d.length : Int)], d⟩ ⟨false, [], [v]⟩ :=
  one_over 1 ⟨false, [(d.length : Int)], d⟩ _ rfl hf known1_over1 fun W a c b k h1 h2 => reduceF_list 1 rfl a b d.length d v c k W rfl h1 h2 h64 hf h0 hv
set_option maxRecDepth 20000 in
set_option maxHeartbeats 4000000 in
theorem known1_over6 (w : World) : Calls Tryz.prog 115 #[.agg #[.int .i64 1, .int .i64 6, .int .i64 0]] w fun en w' => en = .returned (.bool true) ∧ Below w.heap.size w w' := by
  go_enter Tryz.func115, Tryz.ntmps115
  go_wp2
  go_ret
  exact ⟨rfl, push (start w) _⟩
theorem prim_over6 (d : List Int) (v : Int) (hf : M.flaw false [(d.length : Int)] d = 0) (h64 : All64 d) (h0 : 0 < d.length) (hv : M.foldL 6 d = .ok v) : One1 1 6 0 ⟨false, [(d.length : Int)], d⟩ ⟨false, [], [v]⟩ :=
  one_over 6 ⟨false, [(d.length : Int)], d⟩ _ rfl hf known1_over6 fun W a c b k h1 h2 => reduceF_list 6 rfl a b d.length d v c k W rfl h1 h2 h64 hf h0 hv
set_option maxRecDepth 20000 in
set_option maxHeartbeats 4000000 in
theorem known1_over7 (w : World) : Calls Tryz.prog 115 #[.agg #[.int .i64 1, .int .i64 7, .int .i64 0]] w fun en w' => en = .returned (.bool true) ∧ Below w.heap.size w w' := by
  go_enter Tryz.func115, Tryz.ntmps115
  go_wp2
  go_ret
  exact ⟨rfl, push (start w) _⟩
theorem prim_over7 (d : List Int) (v : Int) (hf : M.flaw false [(d.length : Int)] d = 0) (h64 : All64 d) (h0 : 0 < d.length) (hv : M.foldL 7 d = .ok v) : One1 1 7 0 ⟨false, [(d.length : Int)], d⟩ ⟨false, [], [v]⟩ :=
  one_over 7 ⟨false, [(d.length : Int)], d⟩ _ rfl hf known1_over7 fun W a c b k h1 h2 => reduceF_list 7 rfl a b d.length d v c k W rfl h1 h2 h64 hf h0 hv
end Go.Proofs.YtaplaoelamnoiaaGreatDoor
