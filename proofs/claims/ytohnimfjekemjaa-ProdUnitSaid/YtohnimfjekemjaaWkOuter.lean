/- The call prod.Outer on two lists of numbers, by a function that tells a number of each two. Condition: at most 64 numbers each, of 64 bits, in rows. -/
import Derived.Test.YtohnimfjekemjaaWkInner
import Derived.Test.YtohnimfjekemjaaSemiRing
namespace Go.Proofs.Ytohnimfjekemjaa
open Go.RowKit

/-- The k-th number of the table. -/
def outG (F : Int → Int → Int) (d d' : List Int) (q : Nat) : Int := F (d.getD (q / d'.length) 0) (d'.getD (q % d'.length) 0)
def outL (F : Int → Int → Int) (d d' : List Int) (q : Nat) : List Int := (List.range q).map (outG F d d')
theorem outL_length (F : Int → Int → Int) (d d' : List Int) (q : Nat) : (outL F d d' q).length = q := by simp [outL]
theorem outL_next {F : Int → Int → Int} {d d' : List Int} {i j k : Nat} (hk : d'.length = k) (hj : j < k) : outL F d d' (i * k + j) ++ [F (d.getD i 0) (d'.getD j 0)] = outL F d d' (i * k + (j + 1)) := by
  have e1 : (i * k + j) / k = i := by rw [Nat.mul_comm, Nat.mul_add_div (by omega), Nat.div_eq_of_lt hj, Nat.add_zero]
  have e2 : (i * k + j) % k = j := by rw [Nat.mul_comm, Nat.mul_add_mod, Nat.mod_eq_of_lt hj]
  unfold outL
  rw [← Nat.add_assoc, List.range_succ, List.map_append, List.map_cons, List.map_nil]
  congr 2
  unfold outG
  rw [hk, e1, e2]
theorem OutAt.drewN {w wB wr : World} {N B : Nat} {ch : Bool} {sv dv : Value} {ys : List Int} (h : OutAt w wB N B ch sv dv ys wr) (n : Nat) : OutAt w wB N B ch sv dv ys (wr.drewN n) :=
  ⟨h.1, h.2.1, below_drewN h.2.2.1 n, h.2.2.2.1, h.2.2.2.2⟩

set_option maxHeartbeats 4000000 in
theorem known1_ok (f : Int) (hf : M.fn2 f = true) (b : Nat) (w : World) (c0 : w.cell? ⟨b, 0, none⟩ = some (.int .i64 f)) :
    Calls Try.prog 49 #[.slice (some ⟨b, 0, none⟩) 1 1] w fun e w' => e = .returned .nilIface ∧ ∃ n, w' = w.drewN n := by
  have k0 := fun W => cellTwo_any f 0 1 W (by unfold I64; omega) (by unfold I64; omega)
  obtain ⟨v, hv⟩ := two_known hf
  rw [hv] at k0
  dsimp only [resI] at k0
  replace k0 := Lib.hid k0
  replace hf := Lib.hid hf
  replace hv := Lib.hid hv
  go_enter Try.func49, Try.ntmps49
  go_wp2
  go_loopw [9] (fun i wr => ((i = .int .i64 0) ∨ (i = .int .i64 1)) ∧ ∃ n, wr = w.drewN n) (fun i _ => 1 - (intOf i).toNat)
  case atStart => exact ⟨.inl rfl, 0, rfl⟩
  case round =>
    obtain ⟨hcase, n, rfl⟩ := hrel
    rcases hcase with rfl | rfl
    · go_wp2_with fail
      refine (k0.out (w.drewN n)).mono ?_
      rintro e w1 ⟨rfl, m, rfl⟩
      go_wp2
      go_roundw
      case rel => exact ⟨.inr (by go_num), _, rfl⟩
      case measure => simp [intOf]
    · go_wp2
      go_ret
      exact ⟨rfl, _, rfl⟩

set_option maxRecDepth 20000 in
set_option maxHeartbeats 8000000 in
theorem outer_num (f : Int) (F : Int → Int → Int) (hfn : M.fn2 f = true) (hF : ∀ a b, I64 a → I64 b → M.two f a b = .ok (F a b)) (a b a' b' : Option Addr) (n k : Nat) (d d' : List Int) (c z c' z' : Nat) (w : World)
    (hs : Row w a [(n : Int)]) (hd : Row w b d) (hd64 : All64 d) (hs' : Row w a' [(k : Int)]) (hd' : Row w b' d') (hd64' : All64 d') (ln : d.length = n) (lk : d'.length = k) (hn : n ≤ 64) (hk : k ≤ 64) :
    Calls Try.prog 33 #[.int .i64 f, arrV false a 1 c b d.length z, arrV false a' 1 c' b' d'.length z'] w fun e w' => ArrPostF (.ok ⟨false, [(n : Int), (k : Int)], outL F d d' (n * k)⟩) w e w' := by
  have c1 : M.count [(n : Int)] = .ok (n : Int) := by
    have e : M.prod [(n : Int)] = (n : Int) := by simp [M.prod]
    exact (M.count_mk (s := [(n : Int)]) (Nat.le_of_ble_eq_true rfl) (fun x hx => by rw [List.mem_singleton.1 hx]; omega) (by rw [e]; omega)).trans (congrArg Except.ok e)
  have c2 : M.count [(k : Int)] = .ok (k : Int) := by
    have e : M.prod [(k : Int)] = (k : Int) := by simp [M.prod]
    exact (M.count_mk (s := [(k : Int)]) (Nat.le_of_ble_eq_true rfl) (fun x hx => by rw [List.mem_singleton.1 hx]; omega) (by rw [e]; omega)).trans (congrArg Except.ok e)
  have f1 : M.flaw false [(n : Int)] d = 0 := flaw_num c1 (by rw [ln])
  have f2 : M.flaw false [(k : Int)] d' = 0 := flaw_num c2 (by rw [lk])
  have hfl : M.flaws ⟨false, [(n : Int)], d⟩ ⟨false, [(k : Int)], d'⟩ = 0 := by unfold M.flaws; rw [if_pos f1]; exact f2
  have hcm := count_mat hn hk
  have hnk := Nat.mul_le_mul hn hk
  have ld : d.length ≤ maxLen := by unfold maxLen; omega
  have ld' : d'.length ≤ maxLen := by unfold maxLen; omega
  have E := (((((((Env.start w).addRow hd').addRow hs').addRow hd).addRow hs).box false a 1 c b d.length z).box false a' 1 c' b' d'.length z').box false none 0 0 none 0 0
  have E1 := E.alloc (.cells #[.int .i64 f] 42)
  have kn := known1_ok f hfn (w.heap.size + 1 + 1 + 1) ((((w.alloc (.cells #[.bool false, .slice a 1 c, .slice b d.length z] 24)).alloc (.cells #[.bool false, .slice a' 1 c', .slice b' d'.length z'] 24)).alloc (.cells #[.bool false, .slice none 0 0, .slice none 0 0] 24)).alloc (.cells #[.int .i64 f] 42)) (by simp [go_sem])
  simp only [World.size_alloc] at E1
  have hck := fun w h1 h2 h3 h4 => pcheck_any false false a b a' b' [(n : Int)] d [(k : Int)] d' _ c _ z _ c' _ z' w h1 h2 (by simp [maxLen]) ld rfl rfl h3 h4 (by simp [maxLen]) ld' rfl rfl
  rw [hfl, errV_zero] at hck
  clear E hfl f1 f2 c1 c2
  replace kn := Lib.hid kn
  replace hck := Lib.hid hck
  replace hcm := Lib.hid hcm
  replace hF := Lib.hid hF
  replace ln := Lib.hid ln
  replace lk := Lib.hid lk
  replace ld := Lib.hid ld
  replace ld' := Lib.hid ld'
  replace hfn := Lib.hid hfn
  go_enter Try.func33, Try.ntmps33
  go_wp2_with fail
  refine kn.out.mono ?_
  rintro e w1 ⟨rfl, n1, hw1⟩
  have E := E1.drew n1
  rw [← hw1] at E
  replace hw1 := Lib.hid hw1
  clear E1 kn
  -- [boxR 0, boxB 1, boxA 2, s 3, d 4, s' 5, d' 6]
  obtain ⟨⟨u0, u1, u2⟩, -, -, -⟩ := E.getBox 2 rfl
  obtain ⟨⟨t0, t1, t2⟩, -, -, -⟩ := E.getBox 1 rfl
  go_wp2_with fail
  refine (hck.out _ (E.getRow 3 rfl) (E.getRow 4 rfl) (E.getRow 5 rfl) (E.getRow 6 rfl)).mono ?_
  rintro e w2 ⟨rfl, hb⟩
  replace E := E.step hb
  clear hb u0 u1 u2 t0 t1 t2 hck
  obtain ⟨ga, oa, rfl, -⟩ := (E.getRow 3 rfl) 0 (by simp)
  obtain ⟨gb, ob, rfl, -⟩ := (E.getRow 5 rfl) 0 (by simp)
  obtain ⟨⟨u0, u1, u2⟩, -, -, -⟩ := E.getBox 2 rfl
  obtain ⟨⟨t0, t1, t2⟩, -, -, -⟩ := E.getBox 1 rfl
  go_wp2_with fail
  refine (concat2_any w2.heap.size ⟨ga, oa, none⟩ ⟨gb, ob, none⟩ c c' [(n : Int)] [(k : Int)] 1 1 _ (by simp [go_sem]) (by simp [go_sem]) ((E.getRow 3 rfl).alloc _) ((E.getRow 5 rfl).alloc _) (by simp) rfl rfl).mono ?_
  rintro e w3 ⟨v3, rfl, ho3, hb⟩
  have sz1 : w.heap.size ≤ w2.heap.size := E.bel.size
  have szr0 : w.heap.size + 1 + 1 < w2.heap.size := (E.getBox 0 rfl).lt
  replace E := (E.alloc _).step hb
  clear hb u0 u1 u2 t0 t1 t2
  obtain ⟨av, kv, rfl, hkv, -, rv⟩ := ho3.view
  have favge : ∀ p, av = some p → w2.heap.size ≤ p.block := fun p e => by have h1 := own_fresh ho3 p e; simp at h1; omega
  have fav : ∀ p, av = some p → w.heap.size ≤ p.block := fun p e => Nat.le_trans sz1 (favge p e)
  have favlt : ∀ p, av = some p → p.block < w3.heap.size := fun p e => by
    obtain ⟨g, o, e', h⟩ := rv 0 (by simp)
    rw [e] at e'
    cases e'
    exact World.block_lt_of_cell? _ _ h
  have szr : w.heap.size + 1 + 1 < w2.heap.size := szr0
  have hct := count_any av [(n : Int), (k : Int)] 2 kv w3 rv (by simp [maxLen]) (by simp)
  rw [hcm.out] at hct
  dsimp only [resI] at hct
  replace hct := Lib.hid hct
  have hkv2 : 2 ≤ kv := hkv
  obtain ⟨⟨u0, u1, u2⟩, -, -, -⟩ := E.getBox 2 rfl
  obtain ⟨⟨t0, t1, t2⟩, -, -, -⟩ := E.getBox 1 rfl
  dsimp only [List.length_append, List.length_cons, List.length_nil, Nat.reduceAdd] at ⊢
  go_wp2_with fail
  refine hct.out.mono ?_
  rintro e w4 ⟨rfl, rfl⟩
  have l4 : w.heap.size + 1 + 1 < w3.heap.size := (E.getBox 0 rfl).lt
  have E4 := E.box false av 2 kv none 0 0
  obtain ⟨⟨x0, x1, x2⟩, -, -, -⟩ := E4.getBox 3 rfl
  obtain ⟨⟨y0, y1, y2⟩, -, -, -⟩ := E4.getBox 2 rfl
  have rv4 := rv.alloc (.cells #[.bool false, .slice av 2 kv, .slice none 0 0] 24)
  go_wp2_with fail
  refine (between_num f _ _ _ _ _ _ _ _ _ _ _ _ _).mono ?_
  rintro e wB ⟨rfl, hgc, hb⟩
  simp only [World.size_alloc] at hgc
  have E5 := E4.step hb
  have rv5 := rv4.below hb
  clear E E4 rv rv4 hb u0 u1 u2 t0 t1 t2 x0 x1 x2 y0 y1 y2 hct
  -- [boxO 0, boxR 1, boxB 2, boxA 3, s 4, d 5, s' 6, d' 7]
  have hbO := E5.getBox 0 rfl
  have hbR := E5.getBox 1 rfl
  obtain ⟨⟨x0, x1, x2⟩, -, -, -⟩ := E5.getBox 3 rfl
  obtain ⟨⟨y0, y1, y2⟩, -, -, -⟩ := E5.getBox 2 rfl
  have rd := E5.getRow 5 rfl
  have rd' := E5.getRow 7 rfl
  have hbel := E5.bel
  have l1 : w3.heap.size < wB.heap.size := hbO.lt
  have l2 : w3.heap.size + 1 < wB.heap.size := World.block_lt_of_cell? _ _ hgc
  have l3 : w.heap.size + 1 + 1 < wB.heap.size := hbR.lt
  have hI0 : OutAt w wB w3.heap.size wB.heap.size false (.slice av 2 kv) (.slice none 0 0) (outL F d d' 0) wB :=
    ⟨⟨hbO.1, hbO.2.2.2⟩, Own.nil _ _, hbel, Nat.le_refl _, fun _ _ _ => rfl⟩
  have hda : ∀ i, i < d.length → ∃ g o, b = some ⟨g, o, none⟩ ∧ g < w.heap.size := fun i hi => by
    obtain ⟨g, o, e, h⟩ := hd i hi
    exact ⟨g, o, e, World.block_lt_of_cell? _ _ h⟩
  have hdb : ∀ i, i < d'.length → ∃ g o, b' = some ⟨g, o, none⟩ ∧ g < w.heap.size := fun i hi => by
    obtain ⟨g, o, e, h⟩ := hd' i hi
    exact ⟨g, o, e, World.block_lt_of_cell? _ _ h⟩
  have n64 : (n : Int) ≤ 64 := by omega
  have k64 : (k : Int) ≤ 64 := by omega
  have ixn : ∀ i : Nat, i < n → i < d.length := fun i h => by rw [ln.out]; exact h
  have ixk : ∀ i : Nat, i < k → i < d'.length := fun i h => by rw [lk.out]; exact h
  have Ln : ((d.length : Nat) : Int) = (n : Int) := by rw [ln.out]
  have Lk : ((d'.length : Nat) : Int) = (k : Int) := by rw [lk.out]
  replace hI0 := Lib.hid hI0
  replace ixn := Lib.hid ixn
  replace ixk := Lib.hid ixk
  replace hda := Lib.hid hda
  replace hdb := Lib.hid hdb
  replace rd := Lib.hid rd
  replace rd' := Lib.hid rd'
  replace rv5 := Lib.hid rv5
  replace hbO := Lib.hid hbO
  have g64 : ∀ (l : List Int), All64 l → ∀ j, I64 (l.getD j 0) := fun l h j => i64_getD h j
  have x64 := g64 d hd64
  have y64 := g64 d' hd64'
  clear g64 hd64 hd64'
  replace x64 := Lib.hid x64
  replace y64 := Lib.hid y64
  go_wp2
  go_loopw [72] (fun v wr => ∃ (i : Nat) (dv : Value), i ≤ n ∧ v = .int .i64 i ∧ OutAt w wB w3.heap.size wB.heap.size false (.slice av 2 kv) dv (outL F d d' (i * k)) wr) (fun v _ => n - (intOf v).toNat)
  case atStart => exact ⟨0, _, Nat.zero_le _, rfl, by rw [Nat.zero_mul]; exact hI0.out⟩
  case round =>
    clear hI0
    obtain ⟨i, dv, hi, rfl, hI⟩ := hrel
    by_cases hlt : i < n
    · obtain ⟨bd, od, rfl, lbd⟩ := hda.out i (ixn.out i hlt)
      obtain ⟨_, _, e, cd⟩ := rd.out i (ixn.out i hlt)
      cases e
      have xA := (cell_of_eq (hI.2.2.2.2 w.heap.size (by omega) (by omega)) 2).trans x2
      have xB := (cell_of_eq (hI.2.2.2.2 (w.heap.size + 1) (by omega) (by omega)) 2).trans y2
      have cdr := (cell_of_eq (hI.2.2.2.2 bd (by omega) (by omega)) (od + i)).trans cd
      have iln := ixn.out i hlt
      have X64 := x64.out i
      generalize hX : d.getD i 0 = X at *
      replace hX := Lib.hid hX
      replace X64 := Lib.hid X64
      replace hI := Lib.hid hI
      clear cd
      go_wp2
      go_loopw [79] (fun v wq => ∃ (j : Nat) (dv : Value), j ≤ k ∧ v = .int .i64 j ∧ OutAt w wB w3.heap.size wB.heap.size false (.slice av 2 kv) dv (outL F d d' (i * k + j)) wq) (fun v _ => k - (intOf v).toNat)
      case atStart => exact ⟨0, _, Nat.zero_le _, rfl, hI.out⟩
      case round =>
        clear hI xA xB cdr
        obtain ⟨j, dv, hj, rfl, hI⟩ := hrel
        by_cases hlk : j < k
        · obtain ⟨be, oe, rfl, lbe⟩ := hdb.out j (ixk.out j hlk)
          obtain ⟨_, _, e, ce⟩ := rd'.out j (ixk.out j hlk)
          cases e
          have cer := (cell_of_eq (hI.2.2.2.2 be (by omega) (by omega)) (oe + j)).trans ce
          have cg := (cell_of_eq (hI.2.2.2.2 (w3.heap.size + 1) (by omega) (by omega)) 0).trans hgc
          have Y64 := y64.out j
          have hnx := outL_next (F := F) (d := d) (i := i) lk.out hlk
          rw [hX.out] at hnx
          have jlk := ixk.out j hlk
          generalize hY : d'.getD j 0 = Y at *
          have hv := hF.out X Y X64.out Y64
          have hcall := fun w hc => betw1_any f X Y (w3.heap.size + 1) w hc X64.out Y64
          rw [hv] at hcall
          dsimp only [resI] at hcall
          have hId := fun n => hI.drewN n
          have hw0 : w.heap.size ≤ w3.heap.size := by omega
          replace hv := Lib.hid hv
          replace hnx := Lib.hid hnx
          replace hcall := Lib.hid hcall
          replace hI := Lib.hid hI
          replace hY := Lib.hid hY
          replace hId := Lib.hid hId
          clear ce Y64
          go_wp2_with fail
          refine (hcall.out _ cg).mono ?_
          rintro e w5 ⟨rfl, n5, hw5⟩
          have hI5 := hId.out n5
          rw [← hw5] at hI5
          have hI5' := hI5
          obtain ⟨⟨⟨c0, c1, c2⟩, f2⟩, hown, hbl, hsz, -⟩ := hI5'
          obtain ⟨av5, cv5, rfl, -, -, -⟩ := hown.view
          have hlen : (outL F d d' (i * k + j)).length + [F X Y].length < 17592186044416 := by
            rw [outL_length, List.length_singleton]
            have := Nat.mul_le_mul (show i ≤ 64 by omega) hk
            omega
          have hpush : Below wB.heap.size w5 (w5.alloc (.cells #[.int .i64 (F X Y)] 3)) := (Below.refl _ w5).alloc hsz _
          have hownA : Own (w5.alloc (.cells #[.int .i64 (F X Y)] 3)) wB.heap.size (.slice av5 (outL F d d' (i * k + j)).length cv5) (outL F d d' (i * k + j)) := hown.below (push (start w5) _)
          have hrow1 : Row (w5.alloc (.cells #[.int .i64 (F X Y)] 3)) (some ⟨w5.heap.size, 0, none⟩) [F X Y] := row_lit _ [F X Y] _ _ rfl
          have hszA : wB.heap.size ≤ (w5.alloc (.cells #[.int .i64 (F X Y)] 3)).heap.size := by simp; omega
          replace hlen := Lib.hid hlen
          replace hI5 := Lib.hid hI5
          replace hw5 := Lib.hid hw5
          clear cer cg hown hbl
          replace hownA := Lib.hid hownA
          go_wp2_with (at_builtin; go_loud (refine app_row rfl (.tmp 95) (.tmp 97) rfl wB.heap.size _ (outL F d d' (i * k + j)) [F X Y] ⟨w5.heap.size, 0, none⟩ 1 rfl hownA.out rfl hrow1 hlen.out hszA ?_); (intro v' w' ho' hb' hs'; obtain ⟨a', c', rfl, -, -, -⟩ := ho'.view; replace ho' := Lib.hid ho'; have c8 := (hb'.cell (by exact l1)).trans ((hpush.cell (by exact l1)).trans c2); have f8 := (hb'.frozen (by exact l1)).trans ((hpush.frozen (by exact l1)).trans f2)))
          have hfin := OutAt.step hI5.out hw0 l1 (hpush.trans hb') ho'.out
          rw [List.length_append, List.length_singleton, hnx.out] at hfin
          replace hfin := Lib.hid hfin
          clear c0 c1 c2 f2
          go_roundw
          case rel => exact ⟨j + 1, _, by omega, by go_num, hfin.out⟩
          case measure => simp [intOf]; omega
        · obtain rfl : j = k := by omega
          have e : i * j + j = (i + 1) * j := by rw [Nat.add_mul, Nat.one_mul]
          rw [e] at hI
          replace hI := Lib.hid hI
          replace e := Lib.hid e
          go_wp2
          go_roundw
          case rel => exact ⟨i + 1, _, by omega, by go_num, hI.out⟩
          case measure => simp [intOf]; omega
    · obtain rfl : i = n := by omega
      have bR := hI.box (R := w.heap.size + 1 + 1) l3 (by omega) hbR
      obtain ⟨⟨z0, z1, z2⟩, z3, z4, z5⟩ := bR
      have rs : Row _ av [(i : Int), (k : Int)] := fun q hq => by
        obtain ⟨g, o, e, h⟩ := rv5.out q hq
        subst e
        have hne : g ≠ w3.heap.size := fun e => by
          have h1 := favlt _ rfl
          exact absurd e (Nat.ne_of_lt h1)
        exact ⟨g, o, rfl, (cell_of_eq (hI.2.2.2.2 g (World.block_lt_of_cell? _ _ h) hne) (o + q)).trans h⟩
      have hown := hI.2.1
      obtain ⟨⟨⟨c0, c1, c2⟩, f2⟩, -, hbl, -, -⟩ := hI
      obtain ⟨av5, cv5, rfl, -, -, rdat⟩ := hown.view
      rw [outL_length] at c2
      have fdat := own_fresh hown
      have hl := outL_length F d d' (i * k)
      replace hl := Lib.hid hl
      replace hown := Lib.hid hown
      rename World => wr
      go_wp2
      refine bodyPost_ret (v := .tuple #[arrV false av 2 kv av5 (i * k) cv5, .nilIface]) (by simp [results, Try.results33, go_sem, cell?_set_same, z0, z1, z2]) rfl ?_
      have hk : ∀ (u0 u1 u2 : Value) (b : Nat), b ≠ w.heap.size + 1 + 1 → (((wr.setCell ⟨w.heap.size + 1 + 1, 0, none⟩ u0).setCell ⟨w.heap.size + 1 + 1, 1, none⟩ u1).setCell ⟨w.heap.size + 1 + 1, 2, none⟩ u2).heap[b]? = wr.heap[b]? := fun u0 u1 u2 b hb => by
        rw [Below.heap_setCell _ _ _ b hb, Below.heap_setCell _ _ _ b hb, Below.heap_setCell _ _ _ b hb]
      refine ArrPostF.ok (x := ⟨false, [(i : Int), (k : Int)], outL F d d' (i * k)⟩) rfl (by rw [hl.out]; rfl) ?_ ?_ fav (fun p e => by have := fdat p e; omega) hkv2 (set3 hbl (by omega) _ _ _)
      · intro q hq
        obtain ⟨g, o, e, h⟩ := rs q hq
        subst e
        exact ⟨g, o, rfl, (cell_of_eq (hk _ _ _ g (by have := favge _ rfl; show g ≠ _; have h2 : w2.heap.size ≤ g := this; omega)) (o + q)).trans h⟩
      · intro q hq
        obtain ⟨g, o, e, h⟩ := rdat q hq
        subst e
        exact ⟨g, o, rfl, (cell_of_eq (hk _ _ _ g (by have h2 : wB.heap.size ≤ g := fdat _ rfl; omega)) (o + q)).trans h⟩
end Go.Proofs.Ytohnimfjekemjaa
