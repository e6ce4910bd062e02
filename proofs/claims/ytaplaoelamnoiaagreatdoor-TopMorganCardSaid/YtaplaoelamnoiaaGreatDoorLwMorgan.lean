/- The walk of the law TopMorgan: it returns true at any two arrays. Condition: the library's tables are laid. -/
import Derived.Test.YtaplaoelamnoiaaGreatDoorBd20
import Derived.Test.YtaplaoelamnoiaaGreatDoorMaskAny
import Derived.Test.YtaplaoelamnoiaaGreatDoorBd03
import Derived.Test.YtaplaoelamnoiaaGreatDoorDoorKitZ
namespace Go.Proofs.YtaplaoelamnoiaaGreatDoor
open Go.RowKit

theorem held6m {w w' : World} {A B : Nat} {a b c d e f : Value} (hb : Below w.heap.size w w') (h : w.cell? ⟨A, 0, none⟩ = some a ∧ w.cell? ⟨A, 1, none⟩ = some b ∧ w.cell? ⟨A, 2, none⟩ = some c ∧ w.cell? ⟨B, 0, none⟩ = some d ∧ w.cell? ⟨B, 1, none⟩ = some e ∧ w.cell? ⟨B, 2, none⟩ = some f) :
    w'.cell? ⟨A, 0, none⟩ = some a ∧ w'.cell? ⟨A, 1, none⟩ = some b ∧ w'.cell? ⟨A, 2, none⟩ = some c ∧ w'.cell? ⟨B, 0, none⟩ = some d ∧ w'.cell? ⟨B, 1, none⟩ = some e ∧ w'.cell? ⟨B, 2, none⟩ = some f := by
  have k : ∀ {x : Addr} {v : Value}, w.cell? x = some v → w'.cell? x = some v := fun h => (hb.cell (World.block_lt_of_cell? w _ h)).trans h
  exact ⟨k h.1, k h.2.1, k h.2.2.1, k h.2.2.2.1, k h.2.2.2.2.1, k h.2.2.2.2.2⟩
theorem isMask_of {d : List Int} (h : (d.all fun c => c == 0 || c == 1) = true) : IsMask d := by
  rw [List.all_eq_true] at h
  intro c hc
  have := h c hc
  simpa using this

set_option maxRecDepth 20000 in
set_option maxHeartbeats 8000000 in
theorem topMorgan_main (ch ch' : Bool) (a b a' b' : Option Addr) (s d s' d' : List Int) (c k c' k' : Nat) (w : World) (hs : Row w a s) (hd : Row w b d) (ls : s.length ≤ maxLen) (ld : d.length ≤ maxLen) (hs' : Row w a' s') (hd' : Row w b' d') (ls' : s'.length ≤ maxLen) (ld' : d'.length ≤ maxLen) (hT : Tz w) (h8 : 8 ≤ w.heap.size) :
    Calls Tryz.prog 3 #[arrV ch a s.length c b d.length k, arrV ch' a' s'.length c' b' d'.length k'] w fun e w' => e = .returned (.bool true) ∧ Below w.heap.size w w' := by
  have E := (((((Env.start w).addRow hd').addRow hs').addRow hd).addRow hs).box ch a s.length c b d.length k
  replace E := E.box ch' a' s'.length c' b' d'.length k'
  replace E := E.alloc (.cells #[.int .i64 0, .int .i64 1] 3)
  simp only [World.size_alloc] at E
  have kf : ∀ W (_ : Tz W) (_ : 8 ≤ W.heap.size) (a : Option Addr) (b : Option Addr) (k : Nat) (_ : Row W a [2]) (_ : Row W b [0, 1]), Calls Tryz.prog 7 #[.slice none 0 0, .string ⟨#[126, 49, 32, 48, 226, 136, 167, 49, 32, 49]⟩, arrV false a 1 1 b 2 k] W fun e w' => e = .returned (.bool true) ∧ Below W.heap.size W w' :=
    fun W hT h8 a b k r1 r2 => (tells_any none [] 0 M.t1S M.t1T M.t1E ⟨false, [2], [0, 1]⟩ ⟨false, [2], [0, 1]⟩ a 1 b k W (wsAt_nil W) wsOk_nil hT h8 line_t1 t1_val (by decide) (by decide) r1 r2 (by decide) (by decide)).mono fun e w' h => ⟨h.1.trans (by rw [decide_eq_true rfl]), h.2⟩
  have kv := fun W p (hp : Row W p [0, 1]) => vector_one false p [0, 1] 2 2 W hp (by decide) rfl
  have ki := fun W h1 h2 => ints_any a a' s s' s.length s'.length c c' W h1 h2 ls ls' rfl rfl
  have kc1 := fun W h1 h2 => check_any ch a b s d s.length c d.length k W h1 h2 ls ld rfl rfl
  have kc2 := fun W h1 h2 => check_any ch' a' b' s' d' s'.length c' d'.length k' W h1 h2 ls' ld' rfl rfl
  have km1 := fun W h1 => mask_any b d d.length k W h1 ld rfl
  have km2 := fun W h1 => mask_any b' d' d'.length k' W h1 ld' rfl
  have r01 : Row (((w.alloc (.cells #[.bool ch, .slice a s.length c, .slice b d.length k] 24)).alloc (.cells #[.bool ch', .slice a' s'.length c', .slice b' d'.length k'] 24)).alloc (.cells #[.int .i64 0, .int .i64 1] 3)) (some ⟨w.heap.size + 1 + 1, 0, none⟩) [0, 1] := row_two (by simp [go_sem]) (by simp [go_sem])
  obtain ⟨W, hW⟩ : ∃ W : World, W = ((w.alloc (.cells #[.bool ch, .slice a s.length c, .slice b d.length k] 24)).alloc (.cells #[.bool ch', .slice a' s'.length c', .slice b' d'.length k'] 24)).alloc (.cells #[.int .i64 0, .int .i64 1] 3) := ⟨_, rfl⟩
  rw [← hW] at E r01
  have hW' := Lib.hid hW.symm
  replace hW := Lib.hid hW
  replace kf := Lib.hid kf
  replace kv := Lib.hid kv
  replace ki := Lib.hid ki
  replace kc1 := Lib.hid kc1
  replace kc2 := Lib.hid kc2
  replace km1 := Lib.hid km1
  replace km2 := Lib.hid km2
  replace r01 := Lib.hid r01
  replace hT := Lib.hid hT
  clear hs hd hs' hd' ls ld ls' ld'
  go_enter Tryz.func3, Tryz.ntmps3
  go_wp2_with fail
  rw [hW'.out]
  refine (kv.out W _ r01.out).mono ?_
  rintro e v1 ⟨av, bv, kk, rfl, ra, rb, hb⟩
  dsimp only [List.length_cons, List.length_nil, Nat.reduceAdd] at ra rb ⊢
  replace E := E.step hb
  clear hb
  go_wp2_with fail
  refine (kf.out v1 (hT.out.below E.bel h8) (Nat.le_trans h8 E.bel.size) av bv kk ra rb).mono ?_
  rintro e v2 ⟨rfl, hb⟩
  replace E := E.step hb
  clear hb ra rb
  obtain ⟨⟨u0, u1, u2⟩, -, -, -⟩ := E.getBox 0 rfl
  obtain ⟨⟨t0, t1, t2⟩, -, -, -⟩ := E.getBox 1 rfl
  go_wp2_with fail
  refine (ki.out v2 (E.getRow 2 rfl) (E.getRow 4 rfl)).mono ?_
  rintro e v3 ⟨rfl, n3, hv3⟩
  have hb : Below v2.heap.size v2 v3 := by rw [hv3]; exact below_drewN (Below.refl _ _) n3
  replace E := E.step hb
  clear hb hv3 u0 u1 u2 t0 t1 t2
  obtain ⟨⟨u0, u1, u2⟩, -, -, -⟩ := E.getBox 0 rfl
  obtain ⟨⟨t0, t1, t2⟩, -, -, -⟩ := E.getBox 1 rfl
  go_wp2_with fail
  refine (kc1.out v3 (E.getRow 2 rfl) (E.getRow 3 rfl)).mono ?_
  rintro e v4 ⟨rfl, hb⟩
  replace E := E.step hb
  clear hb u0 u1 u2 t0 t1 t2
  obtain ⟨⟨u0, u1, u2⟩, -, -, -⟩ := E.getBox 0 rfl
  obtain ⟨⟨t0, t1, t2⟩, -, -, -⟩ := E.getBox 1 rfl
  by_cases hx : M.flaw ch s d = 0
  case neg =>
    rw [errV_ne hx]
    generalize M.flaw ch s d = nn at *
    replace hx := Lib.hid hx
    have hb := Lib.hid E.bel
    clear E
    go_wp2
    go_ret
    exact ⟨rfl, hb.out⟩
  rw [hx, errV_zero]
  go_wp2_with fail
  refine (kc2.out v4 (E.getRow 4 rfl) (E.getRow 5 rfl)).mono ?_
  rintro e v5 ⟨rfl, hb⟩
  replace E := E.step hb
  clear hb u0 u1 u2 t0 t1 t2
  obtain ⟨⟨u0, u1, u2⟩, -, -, -⟩ := E.getBox 0 rfl
  obtain ⟨⟨t0, t1, t2⟩, -, -, -⟩ := E.getBox 1 rfl
  by_cases hy : M.flaw ch' s' d' = 0
  case neg =>
    rw [errV_ne hy]
    generalize M.flaw ch' s' d' = nn at *
    replace hx := Lib.hid hx
    replace hy := Lib.hid hy
    have hb := Lib.hid E.bel
    clear E
    go_wp2
    go_ret
    exact ⟨rfl, hb.out⟩
  rw [hy, errV_zero]
  cases ch with
  | true =>
    replace hx := Lib.hid hx
    replace hy := Lib.hid hy
    have hb := Lib.hid E.bel
    clear E
    go_wp2
    go_ret
    exact ⟨rfl, hb.out⟩
  | false =>
  cases ch' with
  | true =>
    replace hx := Lib.hid hx
    replace hy := Lib.hid hy
    have hb := Lib.hid E.bel
    clear E
    go_wp2
    go_ret
    exact ⟨rfl, hb.out⟩
  | false =>
  by_cases hss : s = s'
  case neg =>
    have hde : decide (s = s') = false := decide_eq_false hss
    rw [hde]
    replace hss := Lib.hid hss
    replace hx := Lib.hid hx
    replace hy := Lib.hid hy
    have hb := Lib.hid E.bel
    clear E
    go_wp2
    go_ret
    exact ⟨rfl, hb.out⟩
  subst hss
  rw [decide_eq_true (rfl : s = s)]
  replace hx := Lib.hid hx
  replace hy := Lib.hid hy
  go_wp2_with fail
  refine (km1.out v5 (E.getRow 3 rfl)).mono ?_
  rintro e v6 ⟨rfl, hv6⟩
  subst hv6
  cases hm1 : (d.all fun c => c == 0 || c == 1) with
  | false =>
    replace hm1 := Lib.hid hm1
    have hb := Lib.hid E.bel
    clear E
    go_wp2
    go_ret
    exact ⟨rfl, hb.out⟩
  | true =>
  replace hm1 := Lib.hid hm1
  go_wp2_with fail
  refine (km2.out v5 (E.getRow 5 rfl)).mono ?_
  rintro e v6 ⟨rfl, hv6⟩
  subst hv6
  cases hm2 : (d'.all fun c => c == 0 || c == 1) with
  | false =>
    replace hm2 := Lib.hid hm2
    have hb := Lib.hid E.bel
    clear E
    go_wp2
    go_ret
    exact ⟨rfl, hb.out⟩
  | true =>
  obtain ⟨xu, xv, lu, lv, q2, q3, q4, q5⟩ := mo_vals hx.out hy.out (isMask_of hm1.out) (isMask_of hm2)
  replace hm2 := Lib.hid hm2
  clear u0 u1 u2 t0 t1 t2
  have SS : v5.drew.cell? ⟨w.heap.size, 0, none⟩ = some (.bool false) ∧ v5.drew.cell? ⟨w.heap.size, 1, none⟩ = some (.slice a s.length c) ∧ v5.drew.cell? ⟨w.heap.size, 2, none⟩ = some (.slice b d.length k) ∧ v5.drew.cell? ⟨w.heap.size + 1, 0, none⟩ = some (.bool false) ∧ v5.drew.cell? ⟨w.heap.size + 1, 1, none⟩ = some (.slice a' s.length c') ∧ v5.drew.cell? ⟨w.heap.size + 1, 2, none⟩ = some (.slice b' d'.length k') :=
    ⟨(E.getBox 1 rfl).1.1, (E.getBox 1 rfl).1.2.1, (E.getBox 1 rfl).1.2.2, (E.getBox 0 rfl).1.1, (E.getBox 0 rfl).1.2.1, (E.getBox 0 rfl).1.2.2⟩
  go_upto_region 5 with fail
  go_region_held3 (fun W => W.cell? ⟨w.heap.size, 0, none⟩ = some (.bool false) ∧ W.cell? ⟨w.heap.size, 1, none⟩ = some (.slice a s.length c) ∧ W.cell? ⟨w.heap.size, 2, none⟩ = some (.slice b d.length k) ∧ W.cell? ⟨w.heap.size + 1, 0, none⟩ = some (.bool false) ∧ W.cell? ⟨w.heap.size + 1, 1, none⟩ = some (.slice a' s.length c') ∧ W.cell? ⟨w.heap.size + 1, 2, none⟩ = some (.slice b' d'.length k'))
    (first | (with_reducible assumption) | (exact held6m hb7 (by with_reducible assumption)) | (exact held6m hb8 (by with_reducible assumption)) | (exact held6m (push (start _) _) (by with_reducible assumption)) | go_keep)
    (first
      | (go_at_call_of 12 (Value.string ⟨#[109]⟩); refine (bind_any _ _ _ _ _ _ _ _ _).mono ?_; rintro e v7 ⟨rfl, hb7⟩)
      | (go_at_call_of 12 (Value.string ⟨#[110]⟩); refine (bind_any _ _ _ _ _ _ _ _ _).mono ?_; rintro e v8 ⟨rfl, hb8⟩))
  replace E := ((E.drew 1).step hb7).step hb8
  clear SS hb7 hb8
  have bW := boxC_alloc v8 #[.string ⟨#[109]⟩, .bool false, .slice a s.length c, .slice b d.length k, .string ⟨#[110]⟩, .bool false, .slice a' s.length c', .slice b' d'.length k'] 33
  have hba := push (start v8) (.cells #[.string ⟨#[109]⟩, .bool false, .slice a s.length c, .slice b d.length k, .string ⟨#[110]⟩, .bool false, .slice a' s.length c', .slice b' d'.length k'] 33)
  replace E := E.step hba
  have hWs : WsAt (some ⟨v8.heap.size, 0, none⟩) (moWs s d d') (v8.alloc (.cells #[.string ⟨#[109]⟩, .bool false, .slice a s.length c, .slice b d.length k, .string ⟨#[110]⟩, .bool false, .slice a' s.length c', .slice b' d'.length k'] 33)) := by
    intro i bd hi
    match i, hi with
    | 0, hi => cases hi; exact ⟨_, a, c, b, k, rfl, (bW 0 _ rfl).1, (bW 1 _ rfl).1, (bW 2 _ rfl).1, (bW 3 _ rfl).1, E.getRow 2 rfl, E.getRow 3 rfl⟩
    | 1, hi => cases hi; exact ⟨_, a', c', b', k', rfl, (bW 4 _ rfl).1, (bW 5 _ rfl).1, (bW 6 _ rfl).1, (bW 7 _ rfl).1, E.getRow 4 rfl, E.getRow 5 rfl⟩
    | i + 2, hi => simp at hi
  have l1 : s.length ≤ 100000 := by have := (flaw_len hx.out).2; omega
  have l2 : d.length ≤ 100000 := by have := (flaw_len hx.out).1; omega
  generalize v8.alloc (.cells #[.string ⟨#[109]⟩, .bool false, .slice a s.length c, .slice b d.length k, .string ⟨#[110]⟩, .bool false, .slice a' s.length c', .slice b' d'.length k'] 33) = v9 at *
  generalize v8.heap.size = N at *
  have k2 : ∀ W, WsAt (some ⟨N, 0, none⟩) (moWs s d d') W → Tz W → 8 ≤ W.heap.size → Calls Tryz.prog 13 #[.slice (some ⟨N, 0, none⟩) 2 2, .string ⟨#[126, 109, 226, 136, 167, 110]⟩] W fun en w' => ∃ (a : Option Addr) (c : Nat) (b : Option Addr) (k : Nat), en = .returned (.tuple #[arrV false a s.length c b xu.length k, .bool true]) ∧ Row w' a s ∧ Row w' b xu ∧ Below W.heap.size W w' :=
    fun W h1 h2 h3 => worth_any (some ⟨N, 0, none⟩) (moWs s d d') 2 M.t2S M.t2T M.t2E ⟨false, s, xu⟩ W h1 (moWs_ok hx.out hy.out) h2 h3 line_t2 q2 l1 (by dsimp only; omega)
  have k3 : ∀ W a c b k, WsAt (some ⟨N, 0, none⟩) (moWs s d d') W → Tz W → 8 ≤ W.heap.size → Row W a s → Row W b xu → Calls Tryz.prog 7 #[.slice (some ⟨N, 0, none⟩) 2 2, .string ⟨#[40, 126, 109, 41, 226, 136, 168, 126, 110]⟩, arrV false a s.length c b xu.length k] W fun en w' => en = .returned (.bool true) ∧ Below W.heap.size W w' :=
    fun W a c b k h1 h2 h3 h4 h5 => (tells_any (some ⟨N, 0, none⟩) (moWs s d d') 2 M.t3S M.t3T M.t3E ⟨false, s, xu⟩ ⟨false, s, xu⟩ a c b k W h1 (moWs_ok hx.out hy.out) h2 h3 line_t3 q3 l1 (by dsimp only; omega) h4 h5 l1 (by dsimp only; omega)).mono fun e w' h => ⟨h.1.trans (by rw [decide_eq_true rfl]), h.2⟩
  have k4 : ∀ W, WsAt (some ⟨N, 0, none⟩) (moWs s d d') W → Tz W → 8 ≤ W.heap.size → Calls Tryz.prog 13 #[.slice (some ⟨N, 0, none⟩) 2 2, .string ⟨#[126, 109, 226, 136, 168, 110]⟩] W fun en w' => ∃ (a : Option Addr) (c : Nat) (b : Option Addr) (k : Nat), en = .returned (.tuple #[arrV false a s.length c b xv.length k, .bool true]) ∧ Row w' a s ∧ Row w' b xv ∧ Below W.heap.size W w' :=
    fun W h1 h2 h3 => worth_any (some ⟨N, 0, none⟩) (moWs s d d') 2 M.t4S M.t4T M.t4E ⟨false, s, xv⟩ W h1 (moWs_ok hx.out hy.out) h2 h3 line_t4 q4 l1 (by dsimp only; omega)
  have k5 : ∀ W a c b k, WsAt (some ⟨N, 0, none⟩) (moWs s d d') W → Tz W → 8 ≤ W.heap.size → Row W a s → Row W b xv → Calls Tryz.prog 7 #[.slice (some ⟨N, 0, none⟩) 2 2, .string ⟨#[40, 126, 109, 41, 226, 136, 167, 126, 110]⟩, arrV false a s.length c b xv.length k] W fun en w' => en = .returned (.bool true) ∧ Below W.heap.size W w' :=
    fun W a c b k h1 h2 h3 h4 h5 => (tells_any (some ⟨N, 0, none⟩) (moWs s d d') 2 M.t5S M.t5T M.t5E ⟨false, s, xv⟩ ⟨false, s, xv⟩ a c b k W h1 (moWs_ok hx.out hy.out) h2 h3 line_t5 q5 l1 (by dsimp only; omega) h4 h5 l1 (by dsimp only; omega)).mono fun e w' h => ⟨h.1.trans (by rw [decide_eq_true rfl]), h.2⟩
  replace k2 := Lib.hid k2
  replace k3 := Lib.hid k3
  replace k4 := Lib.hid k4
  replace k5 := Lib.hid k5
  clear bW hba q2 q3 q4 q5 lu lv l1 l2
  go_wp2_with fail
  refine (k2.out v9 hWs (hT.out.below E.bel h8) (Nat.le_trans h8 E.bel.size)).mono ?_
  rintro e v10 ⟨ax, cx, bx, kx, rfl, ra, rb, hb⟩
  replace hWs := hWs.below hb
  replace E := (((E.step hb).addRow rb).addRow ra).box false ax s.length cx bx xu.length kx
  replace hWs := hWs.below (push (start v10) (.cells #[.bool false, .slice ax s.length cx, .slice bx xu.length kx] 24))
  clear hb ra rb
  obtain ⟨⟨u0, u1, u2⟩, -, -, -⟩ := E.getBox 0 rfl
  replace E := Lib.hid E
  replace hWs := Lib.hid hWs
  go_wp2_with fail
  refine (k3.out _ ax cx bx kx hWs.out (hT.out.below E.out.bel h8) (Nat.le_trans h8 E.out.bel.size) (E.out.getRow 1 rfl) (E.out.getRow 2 rfl)).mono ?_
  rintro e v10b ⟨rfl, hb⟩
  clear u0 u1 u2
  replace hWs := hWs.out.below hb
  replace E := E.out.step hb
  clear hb
  go_wp2_with fail
  refine (k4.out v10b hWs (hT.out.below E.bel h8) (Nat.le_trans h8 E.bel.size)).mono ?_
  rintro e v11 ⟨ax, cx, bx, kx, rfl, ra, rb, hb⟩
  replace hWs := hWs.below hb
  replace E := (((E.step hb).addRow rb).addRow ra).box false ax s.length cx bx xv.length kx
  replace hWs := hWs.below (push (start v11) (.cells #[.bool false, .slice ax s.length cx, .slice bx xv.length kx] 24))
  clear hb ra rb
  obtain ⟨⟨u0, u1, u2⟩, -, -, -⟩ := E.getBox 0 rfl
  replace E := Lib.hid E
  replace hWs := Lib.hid hWs
  go_wp2_with fail
  refine (k5.out _ ax cx bx kx hWs.out (hT.out.below E.out.bel h8) (Nat.le_trans h8 E.out.bel.size) (E.out.getRow 1 rfl) (E.out.getRow 2 rfl)).mono ?_
  rintro e v11b ⟨rfl, hb⟩
  clear u0 u1 u2
  replace hWs := hWs.out.below hb
  replace E := E.out.step hb
  clear hb
  have hb := Lib.hid E.bel
  clear E hWs
  go_wp2
  go_ret
  exact ⟨rfl, hb.out⟩
theorem topMorgan_walk (h0 : Bool) (p0 q0 : Option Addr) (x0 y0 : List Int) (c0 d0 : Nat) (h1 : Bool) (p1 q1 : Option Addr) (x1 y1 : List Int) (c1 d1 : Nat) (w : World) (r0 : Row w p0 x0) (t0 : Row w q0 y0) (l0 : x0.length ≤ maxLen) (m0 : y0.length ≤ maxLen) (_ : All64 x0) (_ : All64 y0)
    (r1 : Row w p1 x1) (t1 : Row w q1 y1) (l1 : x1.length ≤ maxLen) (m1 : y1.length ≤ maxLen) (_ : All64 x1) (_ : All64 y1) (hg : Zl w) :
    Calls Tryz.prog 3 #[arrV h0 p0 x0.length c0 q0 y0.length d0, arrV h1 p1 x1.length c1 q1 y1.length d1] w fun e w' => e = .returned (.bool true) ∧ Below w.heap.size w w' :=
  topMorgan_main h0 h1 p0 q0 p1 q1 x0 y0 x1 y1 c0 d0 c1 d1 w r0 t0 l0 m0 r1 t1 l1 m1 hg.1 hg.2
end Go.Proofs.YtaplaoelamnoiaaGreatDoor
