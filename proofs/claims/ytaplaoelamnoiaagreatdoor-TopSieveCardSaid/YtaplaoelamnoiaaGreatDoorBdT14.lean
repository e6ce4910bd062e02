/- Texts that lie in one file: what is plain, rows, boxes, squares, and what is known of a world. No condition. -/
import Derived.Test.YtaplaoelamnoiaaGreatDoorBdT04
import Derived.Test.YtaplaoelamnoiaaGreatDoorBdT09
import Derived.Test.YtaplaoelamnoiaaGreatDoorConcatO
import Derived.Test.YtaplaoelamnoiaaGreatDoorBdT13
import Derived.Test.YtaplaoelamnoiaaGreatDoorBdU3
import Derived.Test.YtaplaoelamnoiaaGreatDoorBd05
/- The call prod.Outer. Condition: rows that lie as lists of ints of 64 bits. -/
namespace Go.Proofs.YtaplaoelamnoiaaGreatDoor
open Go.RowKit

/-- An own slice's block is there. -/
theorem own_lt_outer_ff {w : World} {B l c : Nat} {a : Option Addr} {ys : List Int} (h : Own w B (.slice a l c) ys) : ∀ p, a = some p → B ≤ p.block ∧ p.block < w.heap.size := fun p e => by
  rcases h.2 with ⟨hv, _⟩ | ⟨g, cap, cur, hv, hg, hh, _⟩
  · rw [e] at hv; cases hv
  · rw [e] at hv; cases hv; exact ⟨hg, (Array.getElem?_eq_some_iff.1 hh).1⟩

set_option maxRecDepth 20000 in
set_option maxHeartbeats 16000000 in
theorem outer_ff (f : Int) (a b a' b' : Option Addr) (s d s' d' : List Int) (m c n z m' c' n' z' : Nat) (w : World) (hs : Row w a s) (hd : Row w b d) (ls : s.length ≤ maxLen) (ld : d.length ≤ maxLen) (hd64 : All64 d) (em : m = s.length) (en : n = d.length)
    (hs' : Row w a' s') (hd' : Row w b' d') (ls' : s'.length ≤ maxLen) (ld' : d'.length ≤ maxLen) (hd64' : All64 d') (em' : m' = s'.length) (en' : n' = d'.length) :
    Calls Tryz.prog 107 #[.int .i64 f, arrV false a m c b n z, arrV false a' m' c' b' n' z'] w fun e w' => ArrPostG (M.outer f ⟨false, s, d⟩ ⟨false, s', d'⟩) w e w' := by
  subst em
  subst en
  subst em'
  subst en'
  have E := (((((((Env.start w).addRow hd').addRow hs').addRow hd).addRow hs).box false a s.length c b d.length z).box false a' s'.length c' b' d'.length z').box false none 0 0 none 0 0
  have E1 := E.alloc (.cells #[.int .i64 f] 72)
  have kn := known1_any f (w.heap.size + 1 + 1 + 1) ((((w.alloc (.cells #[.bool false, .slice a s.length c, .slice b d.length z] 24)).alloc (.cells #[.bool false, .slice a' s'.length c', .slice b' d'.length z'] 24)).alloc (.cells #[.bool false, .slice none 0 0, .slice none 0 0] 24)).alloc (.cells #[.int .i64 f] 72)) (by simp [go_sem])
  simp only [World.size_alloc] at E1
  have hck := fun w h1 h2 h3 h4 => pcheck_any false false a b a' b' s d s' d' _ c _ z _ c' _ z' w h1 h2 ls ld rfl rfl h3 h4 ls' ld' rfl rfl
  clear E hs hs'
  have hd0 := Lib.hid hd
  have hd0' := Lib.hid hd'
  clear hd hd'
  replace kn := Lib.hid kn
  replace hck := Lib.hid hck
  replace ls := Lib.hid ls
  replace ls' := Lib.hid ls'
  replace ld := Lib.hid ld
  replace ld' := Lib.hid ld'
  go_enter Tryz.func107, Tryz.ntmps107
  go_wp2_with fail
  refine kn.out.mono ?_
  rintro e w1 ⟨rfl, n1, hw1⟩
  have E := E1.drew n1
  rw [← hw1] at E
  replace hw1 := Lib.hid hw1
  clear E1 kn
  -- [boxR 0, boxB 1, boxA 2, s 3, d 4, s' 5, d' 6]
  by_cases hfn : M.fn2 f = true
  case neg =>
    have hr := Lib.hid (show M.outer f ⟨false, s, d⟩ ⟨false, s', d'⟩ = .error 1 from if_pos hfn)
    rw [if_neg hfn, errV_ne (show (1 : Int) ≠ 0 by decide)]
    replace hfn := Lib.hid hfn
    obtain ⟨⟨z0, z1, z2⟩, z3, z4, z5⟩ := E.getBox 0 rfl
    go_wp2
    refine bodyPost_ret (v := .tuple #[arrV false none 0 0 none 0 0, .iface 46 (.int .i64 1)]) (by simp [results, Tryz.results107, go_sem, cell?_set_same, z0, z1, z2]) rfl ?_
    exact .error hr.out rfl (set3 E.bel (by omega) _ _ _)
  have hr0 : M.outer f ⟨false, s, d⟩ ⟨false, s', d'⟩ = if M.flaws ⟨false, s, d⟩ ⟨false, s', d'⟩ ≠ 0 then .error (M.flaws ⟨false, s, d⟩ ⟨false, s', d'⟩) else match M.count (s ++ s') with
      | .error e => .error e
      | .ok _ => if ((false || false) && !M.cmp f) = true then .error 6
        else match M.seqE (d.length * d'.length) (M.outC f false false d d') with
        | .error e => .error e
        | .ok l => .ok ⟨false, s ++ s', l⟩ := if_neg (fun h => h hfn)
  rw [if_pos hfn, errV_zero]
  replace hfn := Lib.hid hfn
  replace hr0 := Lib.hid hr0
  obtain ⟨⟨u0, u1, u2⟩, -, -, -⟩ := E.getBox 2 rfl
  obtain ⟨⟨t0, t1, t2⟩, -, -, -⟩ := E.getBox 1 rfl
  go_wp2_with fail
  refine (hck.out _ (E.getRow 3 rfl) (E.getRow 4 rfl) (E.getRow 5 rfl) (E.getRow 6 rfl)).mono ?_
  rintro e w2 ⟨rfl, hb⟩
  replace E := E.step hb
  clear hb u0 u1 u2 t0 t1 t2 hck
  by_cases hf : M.flaws ⟨false, s, d⟩ ⟨false, s', d'⟩ = 0
  case neg =>
    have hr := Lib.hid (hr0.out.trans (if_pos hf))
    rw [errV_ne hf]
    generalize M.flaws ⟨false, s, d⟩ ⟨false, s', d'⟩ = nn at *
    replace hf := Lib.hid hf
    obtain ⟨⟨z0, z1, z2⟩, z3, z4, z5⟩ := E.getBox 0 rfl
    go_wp2
    refine bodyPost_ret (v := .tuple #[arrV false none 0 0 none 0 0, .iface 46 (.int .i64 nn)]) (by simp [results, Tryz.results107, go_sem, cell?_set_same, z0, z1, z2]) rfl ?_
    exact .error hr.out rfl (set3 E.bel (by omega) _ _ _)
  have hr1 := hr0.out.trans (if_neg (fun h => h hf))
  rw [hf, errV_zero]
  obtain ⟨hfa, hfb⟩ := flaws_parts hf
  dsimp only at hfa hfb
  have l6 := (flaw_len hfa).2
  have l6' := (flaw_len hfb).2
  clear hr0 hf
  replace hfa := Lib.hid hfa
  replace hfb := Lib.hid hfb
  replace hr1 := Lib.hid hr1
  obtain ⟨⟨u0, u1, u2⟩, -, -, -⟩ := E.getBox 2 rfl
  obtain ⟨⟨t0, t1, t2⟩, -, -, -⟩ := E.getBox 1 rfl
  go_wp2_with fail
  refine (concat2o_any w2.heap.size a a' c c' s s' s.length s'.length _ (by simp [go_sem]) (by simp [go_sem]) ((E.getRow 3 rfl).alloc _) ((E.getRow 5 rfl).alloc _) (by omega) rfl rfl).mono ?_
  rintro e w3 ⟨v3, rfl, ho3, hb⟩
  have sz1 : w.heap.size ≤ w2.heap.size := E.bel.size
  have szr : w.heap.size + 1 + 1 < w2.heap.size := (E.getBox 0 rfl).lt
  replace E := (E.alloc _).step hb
  clear hb u0 u1 u2 t0 t1 t2
  obtain ⟨S, hS⟩ : ∃ S, S = s ++ s' := ⟨_, rfl⟩
  rw [← hS] at ho3
  obtain ⟨av, kv, rfl, hkv, -, rv⟩ := ho3.view
  have hol := own_lt_outer_ff ho3
  have favge : ∀ p, av = some p → w2.heap.size ≤ p.block := fun p e => by have h1 := (hol p e).1; simp at h1; omega
  have fav : ∀ p, av = some p → w.heap.size ≤ p.block := fun p e => Nat.le_trans sz1 (favge p e)
  have favlt : ∀ p, av = some p → p.block < w3.heap.size := fun p e => (hol p e).2
  have lS : S.length ≤ 12 := by rw [hS, List.length_append]; omega
  have hct := count_any av S S.length kv w3 rv (by unfold maxLen; omega) rfl
  have hr2 := hr1.out
  rw [← hS] at hr2
  replace hS := Lib.hid hS
  replace hol := Lib.hid hol
  replace ho3 := Lib.hid ho3
  cases hcnt : M.count S with
  | error e0 =>
    rw [hcnt] at hct hr2
    dsimp only [resI] at hct hr2
    replace hct := Lib.hid hct
    replace hr2 := Lib.hid hr2
    replace hcnt := Lib.hid hcnt
    go_wp2_with fail
    refine hct.out.mono ?_
    rintro e w4 ⟨rfl, rfl⟩
    obtain ⟨⟨z0, z1, z2⟩, z3, z4, z5⟩ := E.getBox 0 rfl
    go_wp2
    refine bodyPost_ret (v := .tuple #[arrV false none 0 0 none 0 0, .iface 46 (.int .i64 e0)]) (by simp [results, Tryz.results107, go_sem, cell?_set_same, z0, z1, z2]) rfl ?_
    exact .error hr2.out rfl (set3 E.bel (by omega) _ _ _)
  | ok N =>
  rw [hcnt] at hct hr2
  dsimp only [resI] at hct hr2
  rw [hS.out] at hcnt
  obtain ⟨-, hnk, hn, hk⟩ := outer_sizes hfa.out hfb.out hcnt
  replace hct := Lib.hid hct
  replace hcnt := Lib.hid hcnt
  clear hr1 l6 l6'
  rw [if_neg (by simp)] at hr2
  obtain ⟨⟨u0, u1, u2⟩, -, -, -⟩ := E.getBox 2 rfl
  obtain ⟨⟨t0, t1, t2⟩, -, -, -⟩ := E.getBox 1 rfl
  replace hr2 := Lib.hid hr2
  go_wp2_with fail
  refine hct.out.mono ?_
  rintro e w4 ⟨rfl, rfl⟩
  have l4 : w.heap.size + 1 + 1 < w3.heap.size := (E.getBox 0 rfl).lt
  have E4 := E.box false av S.length kv none 0 0
  obtain ⟨⟨x0, x1, x2⟩, -, -, -⟩ := E4.getBox 3 rfl
  obtain ⟨⟨y0, y1, y2⟩, -, -, -⟩ := E4.getBox 2 rfl
  have rv4 := rv.alloc (.cells #[.bool false, .slice av S.length kv, .slice none 0 0] 24)
  go_wp2_with fail
  clear u0 u1 u2 t0 t1 t2
  refine (between_same f false _ _ _ _ _ _ _ _ _ _ _ _ _).mono ?_
  rintro e wB ⟨rfl, hgc, hb⟩
  simp only [World.size_alloc] at hgc
  have E5 := E4.step hb
  have rv5 := rv4.below hb
  clear E E4 rv rv4 hb x0 x1 x2 y0 y1 y2 hct
  -- [boxO 0, boxR 1, boxB 2, boxA 3, s 4, d 5, s' 6, d' 7]
  have hbO := E5.getBox 0 rfl
  have hbR := E5.getBox 1 rfl
  obtain ⟨⟨x0, x1, x2⟩, -, -, -⟩ := E5.getBox 3 rfl
  obtain ⟨⟨y0, y1, y2⟩, -, -, -⟩ := E5.getBox 2 rfl
  have rd := E5.getRow 5 rfl
  have rd' := E5.getRow 7 rfl
  have hbel := E5.bel
  have l1 : w3.heap.size < wB.heap.size := hbO.lt
  have l2 : w3.heap.size + 1 < wB.heap.size := World.block_lt_of_cell? _ _ hgc
  have l3 : w.heap.size + 1 + 1 < wB.heap.size := hbR.lt
  have hI0 : OutAt w wB w3.heap.size wB.heap.size false (.slice av S.length kv) (.slice none 0 0) [] wB :=
    ⟨⟨hbO.1, hbO.2.2.2⟩, Own.nil _ _, hbel, Nat.le_refl _, fun _ _ _ => rfl⟩
  have hda : ∀ i, i < d.length → ∃ g o, b = some ⟨g, o, none⟩ ∧ g < wB.heap.size ∧ g ≠ w3.heap.size := fun i hi => by
    obtain ⟨g, o, e, h⟩ := hd0.out i hi
    have : g < w.heap.size := World.block_lt_of_cell? _ _ h
    exact ⟨g, o, e, by omega, by omega⟩
  have hdb : ∀ i, i < d'.length → ∃ g o, b' = some ⟨g, o, none⟩ ∧ g < wB.heap.size ∧ g ≠ w3.heap.size := fun i hi => by
    obtain ⟨g, o, e, h⟩ := hd0'.out i hi
    have : g < w.heap.size := World.block_lt_of_cell? _ _ h
    exact ⟨g, o, e, by omega, by omega⟩
  obtain ⟨n, ln⟩ : ∃ n, n = d.length := ⟨_, rfl⟩
  obtain ⟨k, lk⟩ : ∃ k, k = d'.length := ⟨_, rfl⟩
  have hr3 := hr2.out
  rw [← ln, ← lk] at hr3 hnk
  rw [← ln] at hn
  rw [← lk] at hk
  have ixn : ∀ i : Nat, i < n → i < d.length := fun i h => by omega
  have ixk : ∀ i : Nat, i < k → i < d'.length := fun i h => by omega
  have Ln : ((d.length : Nat) : Int) = (n : Int) := by omega
  have Lk : ((d'.length : Nat) : Int) = (k : Int) := by omega
  have hij : ∀ i j : Nat, i < n → j < k → i * k + j < n * k := fun i j h1 h2 => by
    have h3 := Nat.mul_le_mul_right k (show i + 1 ≤ n from h1)
    rw [Nat.add_mul, Nat.one_mul] at h3
    omega
  replace hr3 := Lib.hid hr3
  replace ln := Lib.hid ln
  replace lk := Lib.hid lk
  replace hI0 := Lib.hid hI0
  replace ixn := Lib.hid ixn
  replace ixk := Lib.hid ixk
  replace hij := Lib.hid hij
  replace hda := Lib.hid hda
  replace hdb := Lib.hid hdb
  replace rd := Lib.hid rd
  replace rd' := Lib.hid rd'
  replace rv5 := Lib.hid rv5
  replace hbO := Lib.hid hbO
  replace hbR := Lib.hid hbR
  have x64 := Lib.hid (fun j => i64_getD hd64 j)
  have y64 := Lib.hid (fun j => i64_getD hd64' j)
  clear hd64 hd64' hr2 E5
  go_wp2
  go_loopw [72] (fun v wr => ∃ (i : Nat) (dv : Value) (ys : List Int), i ≤ n ∧ v = .int .i64 i ∧ M.seqE (i * k) (M.outC f false false d d') = .ok ys ∧ OutAt w wB w3.heap.size wB.heap.size false (.slice av S.length kv) dv ys wr) (fun v _ => n - (intOf v).toNat)
  case atStart => exact ⟨0, _, [], Nat.zero_le _, rfl, by rw [Nat.zero_mul]; rfl, hI0.out⟩
  case round =>
    clear hI0
    obtain ⟨i, dv, ys, hi, rfl, hseq, hI⟩ := hrel
    by_cases hlt : i < n
    · obtain ⟨bd, od, rfl, lbd, nbd⟩ := hda.out i (ixn.out i hlt)
      obtain ⟨_, _, e, cd⟩ := rd.out i (ixn.out i hlt)
      cases e
      have xA := (cell_of_eq (hI.2.2.2.2 w.heap.size (by omega) (by omega)) 2).trans x2
      have xB := (cell_of_eq (hI.2.2.2.2 (w.heap.size + 1) (by omega) (by omega)) 2).trans y2
      have cdr := (cell_of_eq (hI.2.2.2.2 bd lbd nbd) (od + i)).trans cd
      have iln := ixn.out i hlt
      have X64 := x64.out i
      generalize hX : d.getD i 0 = X at *
      replace hX := Lib.hid hX
      replace X64 := Lib.hid X64
      replace hI := Lib.hid hI
      replace hseq := Lib.hid hseq
      clear cd
      rename World => wo
      go_wp2
      go_loopw [79] (fun v wq => ∃ (j : Nat) (dv : Value) (ys : List Int), j ≤ k ∧ v = .int .i64 j ∧ M.seqE (i * k + j) (M.outC f false false d d') = .ok ys ∧ OutAt w wB w3.heap.size wB.heap.size false (.slice av S.length kv) dv ys wq) (fun v _ => k - (intOf v).toNat)
      case atStart => exact ⟨0, _, _, Nat.zero_le _, rfl, hseq.out, hI.out⟩
      case round =>
        clear hI xA xB cdr hseq
        obtain ⟨j, dv, ys, hj, rfl, hseq, hI⟩ := hrel
        by_cases hlk : j < k
        · obtain ⟨be, oe, rfl, lbe, nbe⟩ := hdb.out j (ixk.out j hlk)
          obtain ⟨_, _, e, ce⟩ := rd'.out j (ixk.out j hlk)
          cases e
          have cer := (cell_of_eq (hI.2.2.2.2 be lbe nbe) (oe + j)).trans ce
          have cg := (cell_of_eq (hI.2.2.2.2 (w3.heap.size + 1) l2 (by omega)) 0).trans hgc
          have Y64 := y64.out j
          have hoc := outC_at (f := f) (c1 := false) (c2 := false) (d := d) (i := i) lk.out.symm hlk
          rw [hX.out] at hoc
          have jlk := ixk.out j hlk
          have hlty := hij.out i j hlt hlk
          generalize hY : d'.getD j 0 = Y at *
          have hcall := fun w hc => betwT_ff f X Y (w3.heap.size + 1) w hc X64.out Y64
          have hId := fun n => hI.drewN n
          have hw0 : w.heap.size ≤ w3.heap.size := by omega
          have hlen0 := seqE_length hseq
          have bR := fun n => (hI.drewN n).box (R := w.heap.size + 1 + 1) l3 (by omega) hbR.out
          replace hY := Lib.hid hY
          replace hId := Lib.hid hId
          replace bR := Lib.hid bR
          clear ce Y64
          cases hv : M.tw f false false X Y with
          | error e0 =>
            rw [hv] at hoc hcall
            dsimp only [resI] at hcall
            have hrx := hr3.out
            rw [seqE_error (seqE_stop hseq hoc) hlty] at hrx
            replace hrx := Lib.hid hrx
            replace hcall := Lib.hid hcall
            clear hoc hv hlen0 hlty
            replace hseq := Lib.hid hseq
            replace hI := Lib.hid hI
            go_wp2_with fail
            refine (hcall.out _ cg).mono ?_
            rintro e w5 ⟨rfl, n5, rfl⟩
            obtain ⟨⟨z0, z1, z2⟩, z3, z4, z5⟩ := bR.out n5
            have hb5 := (hId.out n5).2.2.1
            clear cer cg
            generalize World.drewN _ n5 = w5 at *
            go_wp2
            refine bodyPost_ret (v := .tuple #[arrV false none 0 0 none 0 0, .iface 46 (.int .i64 e0)]) (by simp [results, Tryz.results107, go_sem, cell?_set_same, z0, z1, z2]) rfl ?_
            exact .error hrx.out rfl (set3 hb5 (by omega) _ _ _)
          | ok v =>
            rw [hv] at hoc hcall
            dsimp only [resI] at hcall
            have hsn := Lib.hid (seqE_next hseq hoc)
            replace hcall := Lib.hid hcall
            have hlen : ys.length < 17592186044416 := by omega
            clear hoc hv hlen0 hlty
            replace hseq := Lib.hid hseq
            replace hI := Lib.hid hI
            go_wp2_with fail
            refine (hcall.out _ cg).mono ?_
            rintro e w5 ⟨rfl, n5, hw5⟩
            have hI5 := hId.out n5
            rw [← hw5] at hI5
            have hI5' := hI5
            obtain ⟨⟨⟨c0, c1, c2⟩, f2⟩, hown, hbl, hsz, -⟩ := hI5'
            obtain ⟨av5, cv5, rfl, -, -, -⟩ := hown.view
            replace hI5 := Lib.hid hI5
            replace hw5 := Lib.hid hw5
            replace hlen := Lib.hid hlen
            clear cer cg hbl
            replace hown := Lib.hid hown
            go_wp2_with (at_builtin; refine app_int rfl (.tmp 95) (.tmp 97) rfl wB.heap.size _ ys v rfl hown.out rfl hlen.out hsz ?_; intro v' w' ho' hb' hl'; obtain ⟨a', c', rfl, -, -, -⟩ := ho'.view; have c8 := (hb'.cell (by exact l1)).trans c2; have f8 := (hb'.frozen (by exact l1)).trans f2; have hfin := Lib.hid (OutAt.step hI5.out hw0 l1 hb' ho'); replace ho' := Lib.hid ho')
            clear c0 c1 c2 f2
            go_roundw
            case rel => exact ⟨j + 1, _, _, by omega, by go_num, hsn.out, by have h := hfin.out; rw [List.length_append] at h; exact h⟩
            case measure => simp [intOf]; omega
        · obtain rfl : j = k := by omega
          have e : i * j + j = (i + 1) * j := by rw [Nat.add_mul, Nat.one_mul]
          rw [e] at hseq
          replace hI := Lib.hid hI
          replace hseq := Lib.hid hseq
          replace e := Lib.hid e
          go_wp2
          go_roundw
          case rel => exact ⟨i + 1, _, _, by omega, by go_num, hseq.out, hI.out⟩
          case measure => simp [intOf]; omega
    · obtain rfl : i = n := by omega
      have hrx := hr3.out
      rw [hseq] at hrx
      dsimp only at hrx
      have bR := hI.box (R := w.heap.size + 1 + 1) l3 (by omega) hbR.out
      obtain ⟨⟨z0, z1, z2⟩, z3, z4, z5⟩ := bR
      have rs : Row wr av S := fun q hq => by
        obtain ⟨g, o, e, h⟩ := rv5.out q hq
        subst e
        have hne : g ≠ w3.heap.size := fun e => by
          have h1 := favlt _ rfl
          exact absurd e (Nat.ne_of_lt h1)
        exact ⟨g, o, rfl, (cell_of_eq (hI.2.2.2.2 g (World.block_lt_of_cell? _ _ h) hne) (o + q)).trans h⟩
      have hown := hI.2.1
      obtain ⟨⟨⟨c0, c1, c2⟩, f2⟩, -, hbl, -, -⟩ := hI
      obtain ⟨av5, cv5, rfl, hk5, -, rdat⟩ := hown.view
      have fdat := own_fresh hown
      replace hown := Lib.hid hown
      replace hrx := Lib.hid hrx
      replace hseq := Lib.hid hseq
      go_wp2
      refine bodyPost_ret (v := .tuple #[arrV false av S.length kv av5 ys.length cv5, .nilIface]) (by simp [results, Tryz.results107, go_sem, cell?_set_same, z0, z1, z2]) rfl ?_
      refine ArrPostG.ok (x := ⟨false, S, ys⟩) hrx.out rfl ?_ ?_ fav (fun p e => by have := fdat p e; omega) hkv (set3 hbl (by omega) _ _ _) hk5
      · exact ((Row.set_ne rs z0 (by simp)).set_ne ((World.cell?_setCell_other _ _ _ _ (by simp)).trans z1) (by simp)).set_ne ((World.cell?_setCell_other _ _ _ _ (by simp)).trans ((World.cell?_setCell_other _ _ _ _ (by simp)).trans z2)) (by simp)
      · exact ((Row.set_ne rdat z0 (by simp)).set_ne ((World.cell?_setCell_other _ _ _ _ (by simp)).trans z1) (by simp)).set_ne ((World.cell?_setCell_other _ _ _ _ (by simp)).trans ((World.cell?_setCell_other _ _ _ _ (by simp)).trans z2)) (by simp)

end Go.Proofs.YtaplaoelamnoiaaGreatDoor

/- The call prod.Outer. Condition: rows that lie as lists of ints of 64 bits. -/
namespace Go.Proofs.YtaplaoelamnoiaaGreatDoor
open Go.RowKit

/-- An own slice's block is there. -/
theorem own_lt_outer_tt {w : World} {B l c : Nat} {a : Option Addr} {ys : List Int} (h : Own w B (.slice a l c) ys) : ∀ p, a = some p → B ≤ p.block ∧ p.block < w.heap.size := fun p e => by
  rcases h.2 with ⟨hv, _⟩ | ⟨g, cap, cur, hv, hg, hh, _⟩
  · rw [e] at hv; cases hv
  · rw [e] at hv; cases hv; exact ⟨hg, (Array.getElem?_eq_some_iff.1 hh).1⟩

set_option maxRecDepth 20000 in
set_option maxHeartbeats 16000000 in
theorem outer_tt (f : Int) (a b a' b' : Option Addr) (s d s' d' : List Int) (m c n z m' c' n' z' : Nat) (w : World) (hs : Row w a s) (hd : Row w b d) (ls : s.length ≤ maxLen) (ld : d.length ≤ maxLen) (hd64 : All64 d) (em : m = s.length) (en : n = d.length)
    (hs' : Row w a' s') (hd' : Row w b' d') (ls' : s'.length ≤ maxLen) (ld' : d'.length ≤ maxLen) (hd64' : All64 d') (em' : m' = s'.length) (en' : n' = d'.length) :
    Calls Tryz.prog 107 #[.int .i64 f, arrV true a m c b n z, arrV true a' m' c' b' n' z'] w fun e w' => ArrPostG (M.outer f ⟨true, s, d⟩ ⟨true, s', d'⟩) w e w' := by
  subst em
  subst en
  subst em'
  subst en'
  have E := (((((((Env.start w).addRow hd').addRow hs').addRow hd).addRow hs).box true a s.length c b d.length z).box true a' s'.length c' b' d'.length z').box false none 0 0 none 0 0
  have E1 := E.alloc (.cells #[.int .i64 f] 72)
  have kn := known1_any f (w.heap.size + 1 + 1 + 1) ((((w.alloc (.cells #[.bool true, .slice a s.length c, .slice b d.length z] 24)).alloc (.cells #[.bool true, .slice a' s'.length c', .slice b' d'.length z'] 24)).alloc (.cells #[.bool false, .slice none 0 0, .slice none 0 0] 24)).alloc (.cells #[.int .i64 f] 72)) (by simp [go_sem])
  simp only [World.size_alloc] at E1
  have hck := fun w h1 h2 h3 h4 => pcheck_any true true a b a' b' s d s' d' _ c _ z _ c' _ z' w h1 h2 ls ld rfl rfl h3 h4 ls' ld' rfl rfl
  clear E hs hs'
  have hd0 := Lib.hid hd
  have hd0' := Lib.hid hd'
  clear hd hd'
  replace kn := Lib.hid kn
  replace hck := Lib.hid hck
  replace ls := Lib.hid ls
  replace ls' := Lib.hid ls'
  replace ld := Lib.hid ld
  replace ld' := Lib.hid ld'
  go_enter Tryz.func107, Tryz.ntmps107
  go_wp2_with fail
  refine kn.out.mono ?_
  rintro e w1 ⟨rfl, n1, hw1⟩
  have E := E1.drew n1
  rw [← hw1] at E
  replace hw1 := Lib.hid hw1
  clear E1 kn
  -- [boxR 0, boxB 1, boxA 2, s 3, d 4, s' 5, d' 6]
  by_cases hfn : M.fn2 f = true
  case neg =>
    have hr := Lib.hid (show M.outer f ⟨true, s, d⟩ ⟨true, s', d'⟩ = .error 1 from if_pos hfn)
    rw [if_neg hfn, errV_ne (show (1 : Int) ≠ 0 by decide)]
    replace hfn := Lib.hid hfn
    obtain ⟨⟨z0, z1, z2⟩, z3, z4, z5⟩ := E.getBox 0 rfl
    go_wp2
    refine bodyPost_ret (v := .tuple #[arrV false none 0 0 none 0 0, .iface 46 (.int .i64 1)]) (by simp [results, Tryz.results107, go_sem, cell?_set_same, z0, z1, z2]) rfl ?_
    exact .error hr.out rfl (set3 E.bel (by omega) _ _ _)
  have hr0 : M.outer f ⟨true, s, d⟩ ⟨true, s', d'⟩ = if M.flaws ⟨true, s, d⟩ ⟨true, s', d'⟩ ≠ 0 then .error (M.flaws ⟨true, s, d⟩ ⟨true, s', d'⟩) else match M.count (s ++ s') with
      | .error e => .error e
      | .ok _ => if ((true || true) && !M.cmp f) = true then .error 6
        else match M.seqE (d.length * d'.length) (M.outC f true true d d') with
        | .error e => .error e
        | .ok l => .ok ⟨false, s ++ s', l⟩ := if_neg (fun h => h hfn)
  rw [if_pos hfn, errV_zero]
  replace hfn := Lib.hid hfn
  replace hr0 := Lib.hid hr0
  obtain ⟨⟨u0, u1, u2⟩, -, -, -⟩ := E.getBox 2 rfl
  obtain ⟨⟨t0, t1, t2⟩, -, -, -⟩ := E.getBox 1 rfl
  go_wp2_with fail
  refine (hck.out _ (E.getRow 3 rfl) (E.getRow 4 rfl) (E.getRow 5 rfl) (E.getRow 6 rfl)).mono ?_
  rintro e w2 ⟨rfl, hb⟩
  replace E := E.step hb
  clear hb u0 u1 u2 t0 t1 t2 hck
  by_cases hf : M.flaws ⟨true, s, d⟩ ⟨true, s', d'⟩ = 0
  case neg =>
    have hr := Lib.hid (hr0.out.trans (if_pos hf))
    rw [errV_ne hf]
    generalize M.flaws ⟨true, s, d⟩ ⟨true, s', d'⟩ = nn at *
    replace hf := Lib.hid hf
    obtain ⟨⟨z0, z1, z2⟩, z3, z4, z5⟩ := E.getBox 0 rfl
    go_wp2
    refine bodyPost_ret (v := .tuple #[arrV false none 0 0 none 0 0, .iface 46 (.int .i64 nn)]) (by simp [results, Tryz.results107, go_sem, cell?_set_same, z0, z1, z2]) rfl ?_
    exact .error hr.out rfl (set3 E.bel (by omega) _ _ _)
  have hr1 := hr0.out.trans (if_neg (fun h => h hf))
  rw [hf, errV_zero]
  obtain ⟨hfa, hfb⟩ := flaws_parts hf
  dsimp only at hfa hfb
  have l6 := (flaw_len hfa).2
  have l6' := (flaw_len hfb).2
  clear hr0 hf
  replace hfa := Lib.hid hfa
  replace hfb := Lib.hid hfb
  replace hr1 := Lib.hid hr1
  obtain ⟨⟨u0, u1, u2⟩, -, -, -⟩ := E.getBox 2 rfl
  obtain ⟨⟨t0, t1, t2⟩, -, -, -⟩ := E.getBox 1 rfl
  go_wp2_with fail
  refine (concat2o_any w2.heap.size a a' c c' s s' s.length s'.length _ (by simp [go_sem]) (by simp [go_sem]) ((E.getRow 3 rfl).alloc _) ((E.getRow 5 rfl).alloc _) (by omega) rfl rfl).mono ?_
  rintro e w3 ⟨v3, rfl, ho3, hb⟩
  have sz1 : w.heap.size ≤ w2.heap.size := E.bel.size
  have szr : w.heap.size + 1 + 1 < w2.heap.size := (E.getBox 0 rfl).lt
  replace E := (E.alloc _).step hb
  clear hb u0 u1 u2 t0 t1 t2
  obtain ⟨S, hS⟩ : ∃ S, S = s ++ s' := ⟨_, rfl⟩
  rw [← hS] at ho3
  obtain ⟨av, kv, rfl, hkv, -, rv⟩ := ho3.view
  have hol := own_lt_outer_tt ho3
  have favge : ∀ p, av = some p → w2.heap.size ≤ p.block := fun p e => by have h1 := (hol p e).1; simp at h1; omega
  have fav : ∀ p, av = some p → w.heap.size ≤ p.block := fun p e => Nat.le_trans sz1 (favge p e)
  have favlt : ∀ p, av = some p → p.block < w3.heap.size := fun p e => (hol p e).2
  have lS : S.length ≤ 12 := by rw [hS, List.length_append]; omega
  have hct := count_any av S S.length kv w3 rv (by unfold maxLen; omega) rfl
  have hr2 := hr1.out
  rw [← hS] at hr2
  replace hS := Lib.hid hS
  replace hol := Lib.hid hol
  replace ho3 := Lib.hid ho3
  cases hcnt : M.count S with
  | error e0 =>
    rw [hcnt] at hct hr2
    dsimp only [resI] at hct hr2
    replace hct := Lib.hid hct
    replace hr2 := Lib.hid hr2
    replace hcnt := Lib.hid hcnt
    go_wp2_with fail
    refine hct.out.mono ?_
    rintro e w4 ⟨rfl, rfl⟩
    obtain ⟨⟨z0, z1, z2⟩, z3, z4, z5⟩ := E.getBox 0 rfl
    go_wp2
    refine bodyPost_ret (v := .tuple #[arrV false none 0 0 none 0 0, .iface 46 (.int .i64 e0)]) (by simp [results, Tryz.results107, go_sem, cell?_set_same, z0, z1, z2]) rfl ?_
    exact .error hr2.out rfl (set3 E.bel (by omega) _ _ _)
  | ok N =>
  rw [hcnt] at hct hr2
  dsimp only [resI] at hct hr2
  rw [hS.out] at hcnt
  obtain ⟨-, hnk, hn, hk⟩ := outer_sizes hfa.out hfb.out hcnt
  replace hct := Lib.hid hct
  replace hcnt := Lib.hid hcnt
  clear hr1 l6 l6'
  obtain ⟨⟨u0, u1, u2⟩, -, -, -⟩ := E.getBox 2 rfl
  obtain ⟨⟨t0, t1, t2⟩, -, -, -⟩ := E.getBox 1 rfl
  replace hr2 := Lib.hid hr2
  go_wp2_with fail
  refine hct.out.mono ?_
  rintro e w4 ⟨rfl, rfl⟩
  go_wp2_with fail
  refine (compares_any f _).mono ?_
  rintro e w4 ⟨rfl, rfl⟩
  cases hcm : M.cmp f with
  | false =>
    have hrx := Lib.hid (hr2.out.trans (if_pos (by rw [hcm]; rfl)))
    replace hcm := Lib.hid hcm
    obtain ⟨⟨z0, z1, z2⟩, z3, z4, z5⟩ := E.getBox 0 rfl
    clear u0 u1 u2 t0 t1 t2
    go_wp2
    refine bodyPost_ret (v := .tuple #[arrV false none 0 0 none 0 0, .iface 46 (.int .i64 6)]) (by simp [results, Tryz.results107, go_sem, cell?_set_same, z0, z1, z2]) rfl ?_
    exact .error hrx.out rfl (set3 E.bel (by omega) _ _ _)
  | true =>
  replace hr2 := Lib.hid (hr2.out.trans (if_neg (by rw [hcm]; simp)))
  replace hcm := Lib.hid hcm
  have l4 : w.heap.size + 1 + 1 < w3.heap.size := (E.getBox 0 rfl).lt
  have E4 := E.box false av S.length kv none 0 0
  obtain ⟨⟨x0, x1, x2⟩, -, -, -⟩ := E4.getBox 3 rfl
  obtain ⟨⟨y0, y1, y2⟩, -, -, -⟩ := E4.getBox 2 rfl
  have rv4 := rv.alloc (.cells #[.bool false, .slice av S.length kv, .slice none 0 0] 24)
  clear u0 u1 u2 t0 t1 t2
  go_wp2_with fail
  refine (between_same f true _ _ _ _ _ _ _ _ _ _ _ _ _).mono ?_
  rintro e wB ⟨rfl, hgc, hb⟩
  simp only [World.size_alloc] at hgc
  have E5 := E4.step hb
  have rv5 := rv4.below hb
  clear E E4 rv rv4 hb x0 x1 x2 y0 y1 y2 hct
  -- [boxO 0, boxR 1, boxB 2, boxA 3, s 4, d 5, s' 6, d' 7]
  have hbO := E5.getBox 0 rfl
  have hbR := E5.getBox 1 rfl
  obtain ⟨⟨x0, x1, x2⟩, -, -, -⟩ := E5.getBox 3 rfl
  obtain ⟨⟨y0, y1, y2⟩, -, -, -⟩ := E5.getBox 2 rfl
  have rd := E5.getRow 5 rfl
  have rd' := E5.getRow 7 rfl
  have hbel := E5.bel
  have l1 : w3.heap.size < wB.heap.size := hbO.lt
  have l2 : w3.heap.size + 1 < wB.heap.size := World.block_lt_of_cell? _ _ hgc
  have l3 : w.heap.size + 1 + 1 < wB.heap.size := hbR.lt
  have hI0 : OutAt w wB w3.heap.size wB.heap.size false (.slice av S.length kv) (.slice none 0 0) [] wB :=
    ⟨⟨hbO.1, hbO.2.2.2⟩, Own.nil _ _, hbel, Nat.le_refl _, fun _ _ _ => rfl⟩
  have hda : ∀ i, i < d.length → ∃ g o, b = some ⟨g, o, none⟩ ∧ g < wB.heap.size ∧ g ≠ w3.heap.size := fun i hi => by
    obtain ⟨g, o, e, h⟩ := hd0.out i hi
    have : g < w.heap.size := World.block_lt_of_cell? _ _ h
    exact ⟨g, o, e, by omega, by omega⟩
  have hdb : ∀ i, i < d'.length → ∃ g o, b' = some ⟨g, o, none⟩ ∧ g < wB.heap.size ∧ g ≠ w3.heap.size := fun i hi => by
    obtain ⟨g, o, e, h⟩ := hd0'.out i hi
    have : g < w.heap.size := World.block_lt_of_cell? _ _ h
    exact ⟨g, o, e, by omega, by omega⟩
  obtain ⟨n, ln⟩ : ∃ n, n = d.length := ⟨_, rfl⟩
  obtain ⟨k, lk⟩ : ∃ k, k = d'.length := ⟨_, rfl⟩
  have hr3 := hr2.out
  rw [← ln, ← lk] at hr3 hnk
  rw [← ln] at hn
  rw [← lk] at hk
  have ixn : ∀ i : Nat, i < n → i < d.length := fun i h => by omega
  have ixk : ∀ i : Nat, i < k → i < d'.length := fun i h => by omega
  have Ln : ((d.length : Nat) : Int) = (n : Int) := by omega
  have Lk : ((d'.length : Nat) : Int) = (k : Int) := by omega
  have hij : ∀ i j : Nat, i < n → j < k → i * k + j < n * k := fun i j h1 h2 => by
    have h3 := Nat.mul_le_mul_right k (show i + 1 ≤ n from h1)
    rw [Nat.add_mul, Nat.one_mul] at h3
    omega
  replace hr3 := Lib.hid hr3
  replace ln := Lib.hid ln
  replace lk := Lib.hid lk
  replace hI0 := Lib.hid hI0
  replace ixn := Lib.hid ixn
  replace ixk := Lib.hid ixk
  replace hij := Lib.hid hij
  replace hda := Lib.hid hda
  replace hdb := Lib.hid hdb
  replace rd := Lib.hid rd
  replace rd' := Lib.hid rd'
  replace rv5 := Lib.hid rv5
  replace hbO := Lib.hid hbO
  replace hbR := Lib.hid hbR
  have x64 := Lib.hid (fun j => i64_getD hd64 j)
  have y64 := Lib.hid (fun j => i64_getD hd64' j)
  clear hd64 hd64' hr2 E5
  go_wp2
  go_loopw [72] (fun v wr => ∃ (i : Nat) (dv : Value) (ys : List Int), i ≤ n ∧ v = .int .i64 i ∧ M.seqE (i * k) (M.outC f true true d d') = .ok ys ∧ OutAt w wB w3.heap.size wB.heap.size false (.slice av S.length kv) dv ys wr) (fun v _ => n - (intOf v).toNat)
  case atStart => exact ⟨0, _, [], Nat.zero_le _, rfl, by rw [Nat.zero_mul]; rfl, hI0.out⟩
  case round =>
    clear hI0
    obtain ⟨i, dv, ys, hi, rfl, hseq, hI⟩ := hrel
    by_cases hlt : i < n
    · obtain ⟨bd, od, rfl, lbd, nbd⟩ := hda.out i (ixn.out i hlt)
      obtain ⟨_, _, e, cd⟩ := rd.out i (ixn.out i hlt)
      cases e
      have xA := (cell_of_eq (hI.2.2.2.2 w.heap.size (by omega) (by omega)) 2).trans x2
      have xB := (cell_of_eq (hI.2.2.2.2 (w.heap.size + 1) (by omega) (by omega)) 2).trans y2
      have cdr := (cell_of_eq (hI.2.2.2.2 bd lbd nbd) (od + i)).trans cd
      have iln := ixn.out i hlt
      have X64 := x64.out i
      generalize hX : d.getD i 0 = X at *
      replace hX := Lib.hid hX
      replace X64 := Lib.hid X64
      replace hI := Lib.hid hI
      replace hseq := Lib.hid hseq
      clear cd
      rename World => wo
      go_wp2
      go_loopw [79] (fun v wq => ∃ (j : Nat) (dv : Value) (ys : List Int), j ≤ k ∧ v = .int .i64 j ∧ M.seqE (i * k + j) (M.outC f true true d d') = .ok ys ∧ OutAt w wB w3.heap.size wB.heap.size false (.slice av S.length kv) dv ys wq) (fun v _ => k - (intOf v).toNat)
      case atStart => exact ⟨0, _, _, Nat.zero_le _, rfl, hseq.out, hI.out⟩
      case round =>
        clear hI xA xB cdr hseq
        obtain ⟨j, dv, ys, hj, rfl, hseq, hI⟩ := hrel
        by_cases hlk : j < k
        · obtain ⟨be, oe, rfl, lbe, nbe⟩ := hdb.out j (ixk.out j hlk)
          obtain ⟨_, _, e, ce⟩ := rd'.out j (ixk.out j hlk)
          cases e
          have cer := (cell_of_eq (hI.2.2.2.2 be lbe nbe) (oe + j)).trans ce
          have cg := (cell_of_eq (hI.2.2.2.2 (w3.heap.size + 1) l2 (by omega)) 0).trans hgc
          have Y64 := y64.out j
          have hoc := outC_at (f := f) (c1 := true) (c2 := true) (d := d) (i := i) lk.out.symm hlk
          rw [hX.out] at hoc
          have jlk := ixk.out j hlk
          have hlty := hij.out i j hlt hlk
          generalize hY : d'.getD j 0 = Y at *
          have hcall := fun w hc => betwT_tt f X Y (w3.heap.size + 1) w hc X64.out Y64
          have hId := fun n => hI.drewN n
          have hw0 : w.heap.size ≤ w3.heap.size := by omega
          have hlen0 := seqE_length hseq
          have bR := fun n => (hI.drewN n).box (R := w.heap.size + 1 + 1) l3 (by omega) hbR.out
          replace hY := Lib.hid hY
          replace hId := Lib.hid hId
          replace bR := Lib.hid bR
          clear ce Y64
          cases hv : M.tw f true true X Y with
          | error e0 =>
            rw [hv] at hoc hcall
            dsimp only [resI] at hcall
            have hrx := hr3.out
            rw [seqE_error (seqE_stop hseq hoc) hlty] at hrx
            replace hrx := Lib.hid hrx
            replace hcall := Lib.hid hcall
            clear hoc hv hlen0 hlty
            replace hseq := Lib.hid hseq
            replace hI := Lib.hid hI
            go_wp2_with fail
            refine (hcall.out _ cg).mono ?_
            rintro e w5 ⟨rfl, n5, rfl⟩
            obtain ⟨⟨z0, z1, z2⟩, z3, z4, z5⟩ := bR.out n5
            have hb5 := (hId.out n5).2.2.1
            clear cer cg
            generalize World.drewN _ n5 = w5 at *
            go_wp2
            refine bodyPost_ret (v := .tuple #[arrV false none 0 0 none 0 0, .iface 46 (.int .i64 e0)]) (by simp [results, Tryz.results107, go_sem, cell?_set_same, z0, z1, z2]) rfl ?_
            exact .error hrx.out rfl (set3 hb5 (by omega) _ _ _)
          | ok v =>
            rw [hv] at hoc hcall
            dsimp only [resI] at hcall
            have hsn := Lib.hid (seqE_next hseq hoc)
            replace hcall := Lib.hid hcall
            have hlen : ys.length < 17592186044416 := by omega
            clear hoc hv hlen0 hlty
            replace hseq := Lib.hid hseq
            replace hI := Lib.hid hI
            go_wp2_with fail
            refine (hcall.out _ cg).mono ?_
            rintro e w5 ⟨rfl, n5, hw5⟩
            have hI5 := hId.out n5
            rw [← hw5] at hI5
            have hI5' := hI5
            obtain ⟨⟨⟨c0, c1, c2⟩, f2⟩, hown, hbl, hsz, -⟩ := hI5'
            obtain ⟨av5, cv5, rfl, -, -, -⟩ := hown.view
            replace hI5 := Lib.hid hI5
            replace hw5 := Lib.hid hw5
            replace hlen := Lib.hid hlen
            clear cer cg hbl
            replace hown := Lib.hid hown
            go_wp2_with (at_builtin; refine app_int rfl (.tmp 95) (.tmp 97) rfl wB.heap.size _ ys v rfl hown.out rfl hlen.out hsz ?_; intro v' w' ho' hb' hl'; obtain ⟨a', c', rfl, -, -, -⟩ := ho'.view; have c8 := (hb'.cell (by exact l1)).trans c2; have f8 := (hb'.frozen (by exact l1)).trans f2; have hfin := Lib.hid (OutAt.step hI5.out hw0 l1 hb' ho'); replace ho' := Lib.hid ho')
            clear c0 c1 c2 f2
            go_roundw
            case rel => exact ⟨j + 1, _, _, by omega, by go_num, hsn.out, by have h := hfin.out; rw [List.length_append] at h; exact h⟩
            case measure => simp [intOf]; omega
        · obtain rfl : j = k := by omega
          have e : i * j + j = (i + 1) * j := by rw [Nat.add_mul, Nat.one_mul]
          rw [e] at hseq
          replace hI := Lib.hid hI
          replace hseq := Lib.hid hseq
          replace e := Lib.hid e
          go_wp2
          go_roundw
          case rel => exact ⟨i + 1, _, _, by omega, by go_num, hseq.out, hI.out⟩
          case measure => simp [intOf]; omega
    · obtain rfl : i = n := by omega
      have hrx := hr3.out
      rw [hseq] at hrx
      dsimp only at hrx
      have bR := hI.box (R := w.heap.size + 1 + 1) l3 (by omega) hbR.out
      obtain ⟨⟨z0, z1, z2⟩, z3, z4, z5⟩ := bR
      have rs : Row wr av S := fun q hq => by
        obtain ⟨g, o, e, h⟩ := rv5.out q hq
        subst e
        have hne : g ≠ w3.heap.size := fun e => by
          have h1 := favlt _ rfl
          exact absurd e (Nat.ne_of_lt h1)
        exact ⟨g, o, rfl, (cell_of_eq (hI.2.2.2.2 g (World.block_lt_of_cell? _ _ h) hne) (o + q)).trans h⟩
      have hown := hI.2.1
      obtain ⟨⟨⟨c0, c1, c2⟩, f2⟩, -, hbl, -, -⟩ := hI
      obtain ⟨av5, cv5, rfl, hk5, -, rdat⟩ := hown.view
      have fdat := own_fresh hown
      replace hown := Lib.hid hown
      replace hrx := Lib.hid hrx
      replace hseq := Lib.hid hseq
      go_wp2
      refine bodyPost_ret (v := .tuple #[arrV false av S.length kv av5 ys.length cv5, .nilIface]) (by simp [results, Tryz.results107, go_sem, cell?_set_same, z0, z1, z2]) rfl ?_
      refine ArrPostG.ok (x := ⟨false, S, ys⟩) hrx.out rfl ?_ ?_ fav (fun p e => by have := fdat p e; omega) hkv (set3 hbl (by omega) _ _ _) hk5
      · exact ((Row.set_ne rs z0 (by simp)).set_ne ((World.cell?_setCell_other _ _ _ _ (by simp)).trans z1) (by simp)).set_ne ((World.cell?_setCell_other _ _ _ _ (by simp)).trans ((World.cell?_setCell_other _ _ _ _ (by simp)).trans z2)) (by simp)
      · exact ((Row.set_ne rdat z0 (by simp)).set_ne ((World.cell?_setCell_other _ _ _ _ (by simp)).trans z1) (by simp)).set_ne ((World.cell?_setCell_other _ _ _ _ (by simp)).trans ((World.cell?_setCell_other _ _ _ _ (by simp)).trans z2)) (by simp)

end Go.Proofs.YtaplaoelamnoiaaGreatDoor

/- The call prod.Outer. Condition: rows that lie as lists of ints of 64 bits. -/
namespace Go.Proofs.YtaplaoelamnoiaaGreatDoor
open Go.RowKit

/-- An own slice's block is there. -/
theorem own_lt_outer_ft {w : World} {B l c : Nat} {a : Option Addr} {ys : List Int} (h : Own w B (.slice a l c) ys) : ∀ p, a = some p → B ≤ p.block ∧ p.block < w.heap.size := fun p e => by
  rcases h.2 with ⟨hv, _⟩ | ⟨g, cap, cur, hv, hg, hh, _⟩
  · rw [e] at hv; cases hv
  · rw [e] at hv; cases hv; exact ⟨hg, (Array.getElem?_eq_some_iff.1 hh).1⟩

set_option maxRecDepth 20000 in
set_option maxHeartbeats 16000000 in
theorem outer_ft (f : Int) (a b a' b' : Option Addr) (s d s' d' : List Int) (m c n z m' c' n' z' : Nat) (w : World) (hs : Row w a s) (hd : Row w b d) (ls : s.length ≤ maxLen) (ld : d.length ≤ maxLen) (hd64 : All64 d) (em : m = s.length) (en : n = d.length)
    (hs' : Row w a' s') (hd' : Row w b' d') (ls' : s'.length ≤ maxLen) (ld' : d'.length ≤ maxLen) (hd64' : All64 d') (em' : m' = s'.length) (en' : n' = d'.length) :
    Calls Tryz.prog 107 #[.int .i64 f, arrV false a m c b n z, arrV true a' m' c' b' n' z'] w fun e w' => ArrPostG (M.outer f ⟨false, s, d⟩ ⟨true, s', d'⟩) w e w' := by
  subst em
  subst en
  subst em'
  subst en'
  have E := (((((((Env.start w).addRow hd').addRow hs').addRow hd).addRow hs).box false a s.length c b d.length z).box true a' s'.length c' b' d'.length z').box false none 0 0 none 0 0
  have E1 := E.alloc (.cells #[.int .i64 f] 72)
  have kn := known1_any f (w.heap.size + 1 + 1 + 1) ((((w.alloc (.cells #[.bool false, .slice a s.length c, .slice b d.length z] 24)).alloc (.cells #[.bool true, .slice a' s'.length c', .slice b' d'.length z'] 24)).alloc (.cells #[.bool false, .slice none 0 0, .slice none 0 0] 24)).alloc (.cells #[.int .i64 f] 72)) (by simp [go_sem])
  simp only [World.size_alloc] at E1
  have hck := fun w h1 h2 h3 h4 => pcheck_any false true a b a' b' s d s' d' _ c _ z _ c' _ z' w h1 h2 ls ld rfl rfl h3 h4 ls' ld' rfl rfl
  clear E hs hs'
  have hd0 := Lib.hid hd
  have hd0' := Lib.hid hd'
  clear hd hd'
  replace kn := Lib.hid kn
  replace hck := Lib.hid hck
  replace ls := Lib.hid ls
  replace ls' := Lib.hid ls'
  replace ld := Lib.hid ld
  replace ld' := Lib.hid ld'
  go_enter Tryz.func107, Tryz.ntmps107
  go_wp2_with fail
  refine kn.out.mono ?_
  rintro e w1 ⟨rfl, n1, hw1⟩
  have E := E1.drew n1
  rw [← hw1] at E
  replace hw1 := Lib.hid hw1
  clear E1 kn
  -- [boxR 0, boxB 1, boxA 2, s 3, d 4, s' 5, d' 6]
  by_cases hfn : M.fn2 f = true
  case neg =>
    have hr := Lib.hid (show M.outer f ⟨false, s, d⟩ ⟨true, s', d'⟩ = .error 1 from if_pos hfn)
    rw [if_neg hfn, errV_ne (show (1 : Int) ≠ 0 by decide)]
    replace hfn := Lib.hid hfn
    obtain ⟨⟨z0, z1, z2⟩, z3, z4, z5⟩ := E.getBox 0 rfl
    go_wp2
    refine bodyPost_ret (v := .tuple #[arrV false none 0 0 none 0 0, .iface 46 (.int .i64 1)]) (by simp [results, Tryz.results107, go_sem, cell?_set_same, z0, z1, z2]) rfl ?_
    exact .error hr.out rfl (set3 E.bel (by omega) _ _ _)
  have hr0 : M.outer f ⟨false, s, d⟩ ⟨true, s', d'⟩ = if M.flaws ⟨false, s, d⟩ ⟨true, s', d'⟩ ≠ 0 then .error (M.flaws ⟨false, s, d⟩ ⟨true, s', d'⟩) else match M.count (s ++ s') with
      | .error e => .error e
      | .ok _ => if ((false || true) && !M.cmp f) = true then .error 6
        else match M.seqE (d.length * d'.length) (M.outC f false true d d') with
        | .error e => .error e
        | .ok l => .ok ⟨false, s ++ s', l⟩ := if_neg (fun h => h hfn)
  rw [if_pos hfn, errV_zero]
  replace hfn := Lib.hid hfn
  replace hr0 := Lib.hid hr0
  obtain ⟨⟨u0, u1, u2⟩, -, -, -⟩ := E.getBox 2 rfl
  obtain ⟨⟨t0, t1, t2⟩, -, -, -⟩ := E.getBox 1 rfl
  go_wp2_with fail
  refine (hck.out _ (E.getRow 3 rfl) (E.getRow 4 rfl) (E.getRow 5 rfl) (E.getRow 6 rfl)).mono ?_
  rintro e w2 ⟨rfl, hb⟩
  replace E := E.step hb
  clear hb u0 u1 u2 t0 t1 t2 hck
  by_cases hf : M.flaws ⟨false, s, d⟩ ⟨true, s', d'⟩ = 0
  case neg =>
    have hr := Lib.hid (hr0.out.trans (if_pos hf))
    rw [errV_ne hf]
    generalize M.flaws ⟨false, s, d⟩ ⟨true, s', d'⟩ = nn at *
    replace hf := Lib.hid hf
    obtain ⟨⟨z0, z1, z2⟩, z3, z4, z5⟩ := E.getBox 0 rfl
    go_wp2
    refine bodyPost_ret (v := .tuple #[arrV false none 0 0 none 0 0, .iface 46 (.int .i64 nn)]) (by simp [results, Tryz.results107, go_sem, cell?_set_same, z0, z1, z2]) rfl ?_
    exact .error hr.out rfl (set3 E.bel (by omega) _ _ _)
  have hr1 := hr0.out.trans (if_neg (fun h => h hf))
  rw [hf, errV_zero]
  obtain ⟨hfa, hfb⟩ := flaws_parts hf
  dsimp only at hfa hfb
  have l6 := (flaw_len hfa).2
  have l6' := (flaw_len hfb).2
  clear hr0 hf
  replace hfa := Lib.hid hfa
  replace hfb := Lib.hid hfb
  replace hr1 := Lib.hid hr1
  obtain ⟨⟨u0, u1, u2⟩, -, -, -⟩ := E.getBox 2 rfl
  obtain ⟨⟨t0, t1, t2⟩, -, -, -⟩ := E.getBox 1 rfl
  go_wp2_with fail
  refine (concat2o_any w2.heap.size a a' c c' s s' s.length s'.length _ (by simp [go_sem]) (by simp [go_sem]) ((E.getRow 3 rfl).alloc _) ((E.getRow 5 rfl).alloc _) (by omega) rfl rfl).mono ?_
  rintro e w3 ⟨v3, rfl, ho3, hb⟩
  have sz1 : w.heap.size ≤ w2.heap.size := E.bel.size
  have szr : w.heap.size + 1 + 1 < w2.heap.size := (E.getBox 0 rfl).lt
  replace E := (E.alloc _).step hb
  clear hb u0 u1 u2 t0 t1 t2
  obtain ⟨S, hS⟩ : ∃ S, S = s ++ s' := ⟨_, rfl⟩
  rw [← hS] at ho3
  obtain ⟨av, kv, rfl, hkv, -, rv⟩ := ho3.view
  have hol := own_lt_outer_ft ho3
  have favge : ∀ p, av = some p → w2.heap.size ≤ p.block := fun p e => by have h1 := (hol p e).1; simp at h1; omega
  have fav : ∀ p, av = some p → w.heap.size ≤ p.block := fun p e => Nat.le_trans sz1 (favge p e)
  have favlt : ∀ p, av = some p → p.block < w3.heap.size := fun p e => (hol p e).2
  have lS : S.length ≤ 12 := by rw [hS, List.length_append]; omega
  have hct := count_any av S S.length kv w3 rv (by unfold maxLen; omega) rfl
  have hr2 := hr1.out
  rw [← hS] at hr2
  replace hS := Lib.hid hS
  replace hol := Lib.hid hol
  replace ho3 := Lib.hid ho3
  cases hcnt : M.count S with
  | error e0 =>
    rw [hcnt] at hct hr2
    dsimp only [resI] at hct hr2
    replace hct := Lib.hid hct
    replace hr2 := Lib.hid hr2
    replace hcnt := Lib.hid hcnt
    go_wp2_with fail
    refine hct.out.mono ?_
    rintro e w4 ⟨rfl, rfl⟩
    obtain ⟨⟨z0, z1, z2⟩, z3, z4, z5⟩ := E.getBox 0 rfl
    go_wp2
    refine bodyPost_ret (v := .tuple #[arrV false none 0 0 none 0 0, .iface 46 (.int .i64 e0)]) (by simp [results, Tryz.results107, go_sem, cell?_set_same, z0, z1, z2]) rfl ?_
    exact .error hr2.out rfl (set3 E.bel (by omega) _ _ _)
  | ok N =>
  rw [hcnt] at hct hr2
  dsimp only [resI] at hct hr2
  rw [hS.out] at hcnt
  obtain ⟨-, hnk, hn, hk⟩ := outer_sizes hfa.out hfb.out hcnt
  replace hct := Lib.hid hct
  replace hcnt := Lib.hid hcnt
  clear hr1 l6 l6'
  obtain ⟨⟨u0, u1, u2⟩, -, -, -⟩ := E.getBox 2 rfl
  obtain ⟨⟨t0, t1, t2⟩, -, -, -⟩ := E.getBox 1 rfl
  replace hr2 := Lib.hid hr2
  go_wp2_with fail
  refine hct.out.mono ?_
  rintro e w4 ⟨rfl, rfl⟩
  go_wp2_with fail
  refine (compares_any f _).mono ?_
  rintro e w4 ⟨rfl, rfl⟩
  cases hcm : M.cmp f with
  | false =>
    have hrx := Lib.hid (hr2.out.trans (if_pos (by rw [hcm]; rfl)))
    replace hcm := Lib.hid hcm
    obtain ⟨⟨z0, z1, z2⟩, z3, z4, z5⟩ := E.getBox 0 rfl
    clear u0 u1 u2 t0 t1 t2
    go_wp2
    refine bodyPost_ret (v := .tuple #[arrV false none 0 0 none 0 0, .iface 46 (.int .i64 6)]) (by simp [results, Tryz.results107, go_sem, cell?_set_same, z0, z1, z2]) rfl ?_
    exact .error hrx.out rfl (set3 E.bel (by omega) _ _ _)
  | true =>
  replace hr2 := Lib.hid (hr2.out.trans (if_neg (by rw [hcm]; simp)))
  replace hcm := Lib.hid hcm
  have l4 : w.heap.size + 1 + 1 < w3.heap.size := (E.getBox 0 rfl).lt
  have E4 := E.box false av S.length kv none 0 0
  obtain ⟨⟨x0, x1, x2⟩, -, -, -⟩ := E4.getBox 3 rfl
  obtain ⟨⟨y0, y1, y2⟩, -, -, -⟩ := E4.getBox 2 rfl
  have rv4 := rv.alloc (.cells #[.bool false, .slice av S.length kv, .slice none 0 0] 24)
  clear u0 u1 u2 t0 t1 t2
  go_wp2_with fail
  refine (between_ft f _ _ _ _ _ _ _ _ _ _ _ _ _).mono ?_
  rintro e wB ⟨rfl, hgc, hb⟩
  simp only [World.size_alloc] at hgc
  have E5 := E4.step hb
  have rv5 := rv4.below hb
  clear E E4 rv rv4 hb x0 x1 x2 y0 y1 y2 hct
  -- [boxO 0, boxR 1, boxB 2, boxA 3, s 4, d 5, s' 6, d' 7]
  have hbO := E5.getBox 0 rfl
  have hbR := E5.getBox 1 rfl
  obtain ⟨⟨x0, x1, x2⟩, -, -, -⟩ := E5.getBox 3 rfl
  obtain ⟨⟨y0, y1, y2⟩, -, -, -⟩ := E5.getBox 2 rfl
  have rd := E5.getRow 5 rfl
  have rd' := E5.getRow 7 rfl
  have hbel := E5.bel
  have l1 : w3.heap.size < wB.heap.size := hbO.lt
  have l2 : w3.heap.size + 1 + 1 + 1 + 1 < wB.heap.size := World.block_lt_of_cell? _ _ hgc
  have l3 : w.heap.size + 1 + 1 < wB.heap.size := hbR.lt
  have hI0 : OutAt w wB w3.heap.size wB.heap.size false (.slice av S.length kv) (.slice none 0 0) [] wB :=
    ⟨⟨hbO.1, hbO.2.2.2⟩, Own.nil _ _, hbel, Nat.le_refl _, fun _ _ _ => rfl⟩
  have hda : ∀ i, i < d.length → ∃ g o, b = some ⟨g, o, none⟩ ∧ g < wB.heap.size ∧ g ≠ w3.heap.size := fun i hi => by
    obtain ⟨g, o, e, h⟩ := hd0.out i hi
    have : g < w.heap.size := World.block_lt_of_cell? _ _ h
    exact ⟨g, o, e, by omega, by omega⟩
  have hdb : ∀ i, i < d'.length → ∃ g o, b' = some ⟨g, o, none⟩ ∧ g < wB.heap.size ∧ g ≠ w3.heap.size := fun i hi => by
    obtain ⟨g, o, e, h⟩ := hd0'.out i hi
    have : g < w.heap.size := World.block_lt_of_cell? _ _ h
    exact ⟨g, o, e, by omega, by omega⟩
  obtain ⟨n, ln⟩ : ∃ n, n = d.length := ⟨_, rfl⟩
  obtain ⟨k, lk⟩ : ∃ k, k = d'.length := ⟨_, rfl⟩
  have hr3 := hr2.out
  rw [← ln, ← lk] at hr3 hnk
  rw [← ln] at hn
  rw [← lk] at hk
  have ixn : ∀ i : Nat, i < n → i < d.length := fun i h => by omega
  have ixk : ∀ i : Nat, i < k → i < d'.length := fun i h => by omega
  have Ln : ((d.length : Nat) : Int) = (n : Int) := by omega
  have Lk : ((d'.length : Nat) : Int) = (k : Int) := by omega
  have hij : ∀ i j : Nat, i < n → j < k → i * k + j < n * k := fun i j h1 h2 => by
    have h3 := Nat.mul_le_mul_right k (show i + 1 ≤ n from h1)
    rw [Nat.add_mul, Nat.one_mul] at h3
    omega
  replace hr3 := Lib.hid hr3
  replace ln := Lib.hid ln
  replace lk := Lib.hid lk
  replace hI0 := Lib.hid hI0
  replace ixn := Lib.hid ixn
  replace ixk := Lib.hid ixk
  replace hij := Lib.hid hij
  replace hda := Lib.hid hda
  replace hdb := Lib.hid hdb
  replace rd := Lib.hid rd
  replace rd' := Lib.hid rd'
  replace rv5 := Lib.hid rv5
  replace hbO := Lib.hid hbO
  replace hbR := Lib.hid hbR
  have x64 := Lib.hid (fun j => i64_getD hd64 j)
  have y64 := Lib.hid (fun j => i64_getD hd64' j)
  clear hd64 hd64' hr2 E5
  go_wp2
  go_loopw [72] (fun v wr => ∃ (i : Nat) (dv : Value) (ys : List Int), i ≤ n ∧ v = .int .i64 i ∧ M.seqE (i * k) (M.outC f false true d d') = .ok ys ∧ OutAt w wB w3.heap.size wB.heap.size false (.slice av S.length kv) dv ys wr) (fun v _ => n - (intOf v).toNat)
  case atStart => exact ⟨0, _, [], Nat.zero_le _, rfl, by rw [Nat.zero_mul]; rfl, hI0.out⟩
  case round =>
    clear hI0
    obtain ⟨i, dv, ys, hi, rfl, hseq, hI⟩ := hrel
    by_cases hlt : i < n
    · obtain ⟨bd, od, rfl, lbd, nbd⟩ := hda.out i (ixn.out i hlt)
      obtain ⟨_, _, e, cd⟩ := rd.out i (ixn.out i hlt)
      cases e
      have xA := (cell_of_eq (hI.2.2.2.2 w.heap.size (by omega) (by omega)) 2).trans x2
      have xB := (cell_of_eq (hI.2.2.2.2 (w.heap.size + 1) (by omega) (by omega)) 2).trans y2
      have cdr := (cell_of_eq (hI.2.2.2.2 bd lbd nbd) (od + i)).trans cd
      have iln := ixn.out i hlt
      have X64 := x64.out i
      generalize hX : d.getD i 0 = X at *
      replace hX := Lib.hid hX
      replace X64 := Lib.hid X64
      replace hI := Lib.hid hI
      replace hseq := Lib.hid hseq
      clear cd
      rename World => wo
      go_wp2
      go_loopw [79] (fun v wq => ∃ (j : Nat) (dv : Value) (ys : List Int), j ≤ k ∧ v = .int .i64 j ∧ M.seqE (i * k + j) (M.outC f false true d d') = .ok ys ∧ OutAt w wB w3.heap.size wB.heap.size false (.slice av S.length kv) dv ys wq) (fun v _ => k - (intOf v).toNat)
      case atStart => exact ⟨0, _, _, Nat.zero_le _, rfl, hseq.out, hI.out⟩
      case round =>
        clear hI xA xB cdr hseq
        obtain ⟨j, dv, ys, hj, rfl, hseq, hI⟩ := hrel
        by_cases hlk : j < k
        · obtain ⟨be, oe, rfl, lbe, nbe⟩ := hdb.out j (ixk.out j hlk)
          obtain ⟨_, _, e, ce⟩ := rd'.out j (ixk.out j hlk)
          cases e
          have cer := (cell_of_eq (hI.2.2.2.2 be lbe nbe) (oe + j)).trans ce
          have cg := (cell_of_eq (hI.2.2.2.2 (w3.heap.size + 1 + 1 + 1 + 1) l2 (by omega)) 0).trans hgc
          have Y64 := y64.out j
          have hoc := outC_at (f := f) (c1 := false) (c2 := true) (d := d) (i := i) lk.out.symm hlk
          rw [hX.out] at hoc
          have jlk := ixk.out j hlk
          have hlty := hij.out i j hlt hlk
          generalize hY : d'.getD j 0 = Y at *
          have hcall := fun w hc => betwT_ft f X Y (w3.heap.size + 1 + 1 + 1 + 1) w hc X64.out Y64
          have hId := fun n => hI.drewN n
          have hw0 : w.heap.size ≤ w3.heap.size := by omega
          have hlen0 := seqE_length hseq
          have bR := fun n => (hI.drewN n).box (R := w.heap.size + 1 + 1) l3 (by omega) hbR.out
          replace hY := Lib.hid hY
          replace hId := Lib.hid hId
          replace bR := Lib.hid bR
          clear ce Y64
          cases hv : M.tw f false true X Y with
          | error e0 =>
            rw [hv] at hoc hcall
            dsimp only [resI] at hcall
            have hrx := hr3.out
            rw [seqE_error (seqE_stop hseq hoc) hlty] at hrx
            replace hrx := Lib.hid hrx
            replace hcall := Lib.hid hcall
            clear hoc hv hlen0 hlty
            replace hseq := Lib.hid hseq
            replace hI := Lib.hid hI
            go_wp2_with fail
            refine (hcall.out _ cg).mono ?_
            rintro e w5 ⟨rfl, n5, rfl⟩
            obtain ⟨⟨z0, z1, z2⟩, z3, z4, z5⟩ := bR.out n5
            have hb5 := (hId.out n5).2.2.1
            clear cer cg
            generalize World.drewN _ n5 = w5 at *
            go_wp2
            refine bodyPost_ret (v := .tuple #[arrV false none 0 0 none 0 0, .iface 46 (.int .i64 e0)]) (by simp [results, Tryz.results107, go_sem, cell?_set_same, z0, z1, z2]) rfl ?_
            exact .error hrx.out rfl (set3 hb5 (by omega) _ _ _)
          | ok v =>
            rw [hv] at hoc hcall
            dsimp only [resI] at hcall
            have hsn := Lib.hid (seqE_next hseq hoc)
            replace hcall := Lib.hid hcall
            have hlen : ys.length < 17592186044416 := by omega
            clear hoc hv hlen0 hlty
            replace hseq := Lib.hid hseq
            replace hI := Lib.hid hI
            go_wp2_with fail
            refine (hcall.out _ cg).mono ?_
            rintro e w5 ⟨rfl, n5, hw5⟩
            have hI5 := hId.out n5
            rw [← hw5] at hI5
            have hI5' := hI5
            obtain ⟨⟨⟨c0, c1, c2⟩, f2⟩, hown, hbl, hsz, -⟩ := hI5'
            obtain ⟨av5, cv5, rfl, -, -, -⟩ := hown.view
            replace hI5 := Lib.hid hI5
            replace hw5 := Lib.hid hw5
            replace hlen := Lib.hid hlen
            clear cer cg hbl
            replace hown := Lib.hid hown
            go_wp2_with (at_builtin; refine app_int rfl (.tmp 95) (.tmp 97) rfl wB.heap.size _ ys v rfl hown.out rfl hlen.out hsz ?_; intro v' w' ho' hb' hl'; obtain ⟨a', c', rfl, -, -, -⟩ := ho'.view; have c8 := (hb'.cell (by exact l1)).trans c2; have f8 := (hb'.frozen (by exact l1)).trans f2; have hfin := Lib.hid (OutAt.step hI5.out hw0 l1 hb' ho'); replace ho' := Lib.hid ho')
            clear c0 c1 c2 f2
            go_roundw
            case rel => exact ⟨j + 1, _, _, by omega, by go_num, hsn.out, by have h := hfin.out; rw [List.length_append] at h; exact h⟩
            case measure => simp [intOf]; omega
        · obtain rfl : j = k := by omega
          have e : i * j + j = (i + 1) * j := by rw [Nat.add_mul, Nat.one_mul]
          rw [e] at hseq
          replace hI := Lib.hid hI
          replace hseq := Lib.hid hseq
          replace e := Lib.hid e
          go_wp2
          go_roundw
          case rel => exact ⟨i + 1, _, _, by omega, by go_num, hseq.out, hI.out⟩
          case measure => simp [intOf]; omega
    · obtain rfl : i = n := by omega
      have hrx := hr3.out
      rw [hseq] at hrx
      dsimp only at hrx
      have bR := hI.box (R := w.heap.size + 1 + 1) l3 (by omega) hbR.out
      obtain ⟨⟨z0, z1, z2⟩, z3, z4, z5⟩ := bR
      have rs : Row wr av S := fun q hq => by
        obtain ⟨g, o, e, h⟩ := rv5.out q hq
        subst e
        have hne : g ≠ w3.heap.size := fun e => by
          have h1 := favlt _ rfl
          exact absurd e (Nat.ne_of_lt h1)
        exact ⟨g, o, rfl, (cell_of_eq (hI.2.2.2.2 g (World.block_lt_of_cell? _ _ h) hne) (o + q)).trans h⟩
      have hown := hI.2.1
      obtain ⟨⟨⟨c0, c1, c2⟩, f2⟩, -, hbl, -, -⟩ := hI
      obtain ⟨av5, cv5, rfl, hk5, -, rdat⟩ := hown.view
      have fdat := own_fresh hown
      replace hown := Lib.hid hown
      replace hrx := Lib.hid hrx
      replace hseq := Lib.hid hseq
      go_wp2
      refine bodyPost_ret (v := .tuple #[arrV false av S.length kv av5 ys.length cv5, .nilIface]) (by simp [results, Tryz.results107, go_sem, cell?_set_same, z0, z1, z2]) rfl ?_
      refine ArrPostG.ok (x := ⟨false, S, ys⟩) hrx.out rfl ?_ ?_ fav (fun p e => by have := fdat p e; omega) hkv (set3 hbl (by omega) _ _ _) hk5
      · exact ((Row.set_ne rs z0 (by simp)).set_ne ((World.cell?_setCell_other _ _ _ _ (by simp)).trans z1) (by simp)).set_ne ((World.cell?_setCell_other _ _ _ _ (by simp)).trans ((World.cell?_setCell_other _ _ _ _ (by simp)).trans z2)) (by simp)
      · exact ((Row.set_ne rdat z0 (by simp)).set_ne ((World.cell?_setCell_other _ _ _ _ (by simp)).trans z1) (by simp)).set_ne ((World.cell?_setCell_other _ _ _ _ (by simp)).trans ((World.cell?_setCell_other _ _ _ _ (by simp)).trans z2)) (by simp)

end Go.Proofs.YtaplaoelamnoiaaGreatDoor

/- The call prod.Outer. Condition: rows that lie as lists of ints of 64 bits. -/
namespace Go.Proofs.YtaplaoelamnoiaaGreatDoor
open Go.RowKit

/-- An own slice's block is there. -/
theorem own_lt_outer_tf {w : World} {B l c : Nat} {a : Option Addr} {ys : List Int} (h : Own w B (.slice a l c) ys) : ∀ p, a = some p → B ≤ p.block ∧ p.block < w.heap.size := fun p e => by
  rcases h.2 with ⟨hv, _⟩ | ⟨g, cap, cur, hv, hg, hh, _⟩
  · rw [e] at hv; cases hv
  · rw [e] at hv; cases hv; exact ⟨hg, (Array.getElem?_eq_some_iff.1 hh).1⟩

set_option maxRecDepth 20000 in
set_option maxHeartbeats 16000000 in
theorem outer_tf (f : Int) (a b a' b' : Option Addr) (s d s' d' : List Int) (m c n z m' c' n' z' : Nat) (w : World) (hs : Row w a s) (hd : Row w b d) (ls : s.length ≤ maxLen) (ld : d.length ≤ maxLen) (hd64 : All64 d) (em : m = s.length) (en : n = d.length)
    (hs' : Row w a' s') (hd' : Row w b' d') (ls' : s'.length ≤ maxLen) (ld' : d'.length ≤ maxLen) (hd64' : All64 d') (em' : m' = s'.length) (en' : n' = d'.length) :
    Calls Tryz.prog 107 #[.int .i64 f, arrV true a m c b n z, arrV false a' m' c' b' n' z'] w fun e w' => ArrPostG (M.outer f ⟨true, s, d⟩ ⟨false, s', d'⟩) w e w' := by
  subst em
  subst en
  subst em'
  subst en'
  have E := (((((((Env.start w).addRow hd').addRow hs').addRow hd).addRow hs).box true a s.length c b d.length z).box false a' s'.length c' b' d'.length z').box false none 0 0 none 0 0
  have E1 := E.alloc (.cells #[.int .i64 f] 72)
  have kn := known1_any f (w.heap.size + 1 + 1 + 1) ((((w.alloc (.cells #[.bool true, .slice a s.length c, .slice b d.length z] 24)).alloc (.cells #[.bool false, .slice a' s'.length c', .slice b' d'.length z'] 24)).alloc (.cells #[.bool false, .slice none 0 0, .slice none 0 0] 24)).alloc (.cells #[.int .i64 f] 72)) (by simp [go_sem])
  simp only [World.size_alloc] at E1
  have hck := fun w h1 h2 h3 h4 => pcheck_any true false a b a' b' s d s' d' _ c _ z _ c' _ z' w h1 h2 ls ld rfl rfl h3 h4 ls' ld' rfl rfl
  clear E hs hs'
  have hd0 := Lib.hid hd
  have hd0' := Lib.hid hd'
  clear hd hd'
  replace kn := Lib.hid kn
  replace hck := Lib.hid hck
  replace ls := Lib.hid ls
  replace ls' := Lib.hid ls'
  replace ld := Lib.hid ld
  replace ld' := Lib.hid ld'
  go_enter Tryz.func107, Tryz.ntmps107
  go_wp2_with fail
  refine kn.out.mono ?_
  rintro e w1 ⟨rfl, n1, hw1⟩
  have E := E1.drew n1
  rw [← hw1] at E
  replace hw1 := Lib.hid hw1
  clear E1 kn
  -- [boxR 0, boxB 1, boxA 2, s 3, d 4, s' 5, d' 6]
  by_cases hfn : M.fn2 f = true
  case neg =>
    have hr := Lib.hid (show M.outer f ⟨true, s, d⟩ ⟨false, s', d'⟩ = .error 1 from if_pos hfn)
    rw [if_neg hfn, errV_ne (show (1 : Int) ≠ 0 by decide)]
    replace hfn := Lib.hid hfn
    obtain ⟨⟨z0, z1, z2⟩, z3, z4, z5⟩ := E.getBox 0 rfl
    go_wp2
    refine bodyPost_ret (v := .tuple #[arrV false none 0 0 none 0 0, .iface 46 (.int .i64 1)]) (by simp [results, Tryz.results107, go_sem, cell?_set_same, z0, z1, z2]) rfl ?_
    exact .error hr.out rfl (set3 E.bel (by omega) _ _ _)
  have hr0 : M.outer f ⟨true, s, d⟩ ⟨false, s', d'⟩ = if M.flaws ⟨true, s, d⟩ ⟨false, s', d'⟩ ≠ 0 then .error (M.flaws ⟨true, s, d⟩ ⟨false, s', d'⟩) else match M.count (s ++ s') with
      | .error e => .error e
      | .ok _ => if ((true || false) && !M.cmp f) = true then .error 6
        else match M.seqE (d.length * d'.length) (M.outC f true false d d') with
        | .error e => .error e
        | .ok l => .ok ⟨false, s ++ s', l⟩ := if_neg (fun h => h hfn)
  rw [if_pos hfn, errV_zero]
  replace hfn := Lib.hid hfn
  replace hr0 := Lib.hid hr0
  obtain ⟨⟨u0, u1, u2⟩, -, -, -⟩ := E.getBox 2 rfl
  obtain ⟨⟨t0, t1, t2⟩, -, -, -⟩ := E.getBox 1 rfl
  go_wp2_with fail
  refine (hck.out _ (E.getRow 3 rfl) (E.getRow 4 rfl) (E.getRow 5 rfl) (E.getRow 6 rfl)).mono ?_
  rintro e w2 ⟨rfl, hb⟩
  replace E := E.step hb
  clear hb u0 u1 u2 t0 t1 t2 hck
  by_cases hf : M.flaws ⟨true, s, d⟩ ⟨false, s', d'⟩ = 0
  case neg =>
    have hr := Lib.hid (hr0.out.trans (if_pos hf))
    rw [errV_ne hf]
    generalize M.flaws ⟨true, s, d⟩ ⟨false, s', d'⟩ = nn at *
    replace hf := Lib.hid hf
    obtain ⟨⟨z0, z1, z2⟩, z3, z4, z5⟩ := E.getBox 0 rfl
    go_wp2
    refine bodyPost_ret (v := .tuple #[arrV false none 0 0 none 0 0, .iface 46 (.int .i64 nn)]) (by simp [results, Tryz.results107, go_sem, cell?_set_same, z0, z1, z2]) rfl ?_
    exact .error hr.out rfl (set3 E.bel (by omega) _ _ _)
  have hr1 := hr0.out.trans (if_neg (fun h => h hf))
  rw [hf, errV_zero]
  obtain ⟨hfa, hfb⟩ := flaws_parts hf
  dsimp only at hfa hfb
  have l6 := (flaw_len hfa).2
  have l6' := (flaw_len hfb).2
  clear hr0 hf
  replace hfa := Lib.hid hfa
  replace hfb := Lib.hid hfb
  replace hr1 := Lib.hid hr1
  obtain ⟨⟨u0, u1, u2⟩, -, -, -⟩ := E.getBox 2 rfl
  obtain ⟨⟨t0, t1, t2⟩, -, -, -⟩ := E.getBox 1 rfl
  go_wp2_with fail
  refine (concat2o_any w2.heap.size a a' c c' s s' s.length s'.length _ (by simp [go_sem]) (by simp [go_sem]) ((E.getRow 3 rfl).alloc _) ((E.getRow 5 rfl).alloc _) (by omega) rfl rfl).mono ?_
  rintro e w3 ⟨v3, rfl, ho3, hb⟩
  have sz1 : w.heap.size ≤ w2.heap.size := E.bel.size
  have szr : w.heap.size + 1 + 1 < w2.heap.size := (E.getBox 0 rfl).lt
  replace E := (E.alloc _).step hb
  clear hb u0 u1 u2 t0 t1 t2
  obtain ⟨S, hS⟩ : ∃ S, S = s ++ s' := ⟨_, rfl⟩
  rw [← hS] at ho3
  obtain ⟨av, kv, rfl, hkv, -, rv⟩ := ho3.view
  have hol := own_lt_outer_tf ho3
  have favge : ∀ p, av = some p → w2.heap.size ≤ p.block := fun p e => by have h1 := (hol p e).1; simp at h1; omega
  have fav : ∀ p, av = some p → w.heap.size ≤ p.block := fun p e => Nat.le_trans sz1 (favge p e)
  have favlt : ∀ p, av = some p → p.block < w3.heap.size := fun p e => (hol p e).2
  have lS : S.length ≤ 12 := by rw [hS, List.length_append]; omega
  have hct := count_any av S S.length kv w3 rv (by unfold maxLen; omega) rfl
  have hr2 := hr1.out
  rw [← hS] at hr2
  replace hS := Lib.hid hS
  replace hol := Lib.hid hol
  replace ho3 := Lib.hid ho3
  cases hcnt : M.count S with
  | error e0 =>
    rw [hcnt] at hct hr2
    dsimp only [resI] at hct hr2
    replace hct := Lib.hid hct
    replace hr2 := Lib.hid hr2
    replace hcnt := Lib.hid hcnt
    go_wp2_with fail
    refine hct.out.mono ?_
    rintro e w4 ⟨rfl, rfl⟩
    obtain ⟨⟨z0, z1, z2⟩, z3, z4, z5⟩ := E.getBox 0 rfl
    go_wp2
    refine bodyPost_ret (v := .tuple #[arrV false none 0 0 none 0 0, .iface 46 (.int .i64 e0)]) (by simp [results, Tryz.results107, go_sem, cell?_set_same, z0, z1, z2]) rfl ?_
    exact .error hr2.out rfl (set3 E.bel (by omega) _ _ _)
  | ok N =>
  rw [hcnt] at hct hr2
  dsimp only [resI] at hct hr2
  rw [hS.out] at hcnt
  obtain ⟨-, hnk, hn, hk⟩ := outer_sizes hfa.out hfb.out hcnt
  replace hct := Lib.hid hct
  replace hcnt := Lib.hid hcnt
  clear hr1 l6 l6'
  obtain ⟨⟨u0, u1, u2⟩, -, -, -⟩ := E.getBox 2 rfl
  obtain ⟨⟨t0, t1, t2⟩, -, -, -⟩ := E.getBox 1 rfl
  replace hr2 := Lib.hid hr2
  go_wp2_with fail
  refine hct.out.mono ?_
  rintro e w4 ⟨rfl, rfl⟩
  go_wp2_with fail
  refine (compares_any f _).mono ?_
  rintro e w4 ⟨rfl, rfl⟩
  cases hcm : M.cmp f with
  | false =>
    have hrx := Lib.hid (hr2.out.trans (if_pos (by rw [hcm]; rfl)))
    replace hcm := Lib.hid hcm
    obtain ⟨⟨z0, z1, z2⟩, z3, z4, z5⟩ := E.getBox 0 rfl
    clear u0 u1 u2 t0 t1 t2
    go_wp2
    refine bodyPost_ret (v := .tuple #[arrV false none 0 0 none 0 0, .iface 46 (.int .i64 6)]) (by simp [results, Tryz.results107, go_sem, cell?_set_same, z0, z1, z2]) rfl ?_
    exact .error hrx.out rfl (set3 E.bel (by omega) _ _ _)
  | true =>
  replace hr2 := Lib.hid (hr2.out.trans (if_neg (by rw [hcm]; simp)))
  replace hcm := Lib.hid hcm
  have l4 : w.heap.size + 1 + 1 < w3.heap.size := (E.getBox 0 rfl).lt
  have E4 := E.box false av S.length kv none 0 0
  obtain ⟨⟨x0, x1, x2⟩, -, -, -⟩ := E4.getBox 3 rfl
  obtain ⟨⟨y0, y1, y2⟩, -, -, -⟩ := E4.getBox 2 rfl
  have rv4 := rv.alloc (.cells #[.bool false, .slice av S.length kv, .slice none 0 0] 24)
  clear u0 u1 u2 t0 t1 t2
  go_wp2_with fail
  refine (between_tf f _ _ _ _ _ _ _ _ _ _ _ _ _).mono ?_
  rintro e wB ⟨rfl, hgc, hb⟩
  simp only [World.size_alloc] at hgc
  have E5 := E4.step hb
  have rv5 := rv4.below hb
  clear E E4 rv rv4 hb x0 x1 x2 y0 y1 y2 hct
  -- [boxO 0, boxR 1, boxB 2, boxA 3, s 4, d 5, s' 6, d' 7]
  have hbO := E5.getBox 0 rfl
  have hbR := E5.getBox 1 rfl
  obtain ⟨⟨x0, x1, x2⟩, -, -, -⟩ := E5.getBox 3 rfl
  obtain ⟨⟨y0, y1, y2⟩, -, -, -⟩ := E5.getBox 2 rfl
  have rd := E5.getRow 5 rfl
  have rd' := E5.getRow 7 rfl
  have hbel := E5.bel
  have l1 : w3.heap.size < wB.heap.size := hbO.lt
  have l2 : w3.heap.size + 1 + 1 + 1 + 1 < wB.heap.size := World.block_lt_of_cell? _ _ hgc
  have l3 : w.heap.size + 1 + 1 < wB.heap.size := hbR.lt
  have hI0 : OutAt w wB w3.heap.size wB.heap.size false (.slice av S.length kv) (.slice none 0 0) [] wB :=
    ⟨⟨hbO.1, hbO.2.2.2⟩, Own.nil _ _, hbel, Nat.le_refl _, fun _ _ _ => rfl⟩
  have hda : ∀ i, i < d.length → ∃ g o, b = some ⟨g, o, none⟩ ∧ g < wB.heap.size ∧ g ≠ w3.heap.size := fun i hi => by
    obtain ⟨g, o, e, h⟩ := hd0.out i hi
    have : g < w.heap.size := World.block_lt_of_cell? _ _ h
    exact ⟨g, o, e, by omega, by omega⟩
  have hdb : ∀ i, i < d'.length → ∃ g o, b' = some ⟨g, o, none⟩ ∧ g < wB.heap.size ∧ g ≠ w3.heap.size := fun i hi => by
    obtain ⟨g, o, e, h⟩ := hd0'.out i hi
    have : g < w.heap.size := World.block_lt_of_cell? _ _ h
    exact ⟨g, o, e, by omega, by omega⟩
  obtain ⟨n, ln⟩ : ∃ n, n = d.length := ⟨_, rfl⟩
  obtain ⟨k, lk⟩ : ∃ k, k = d'.length := ⟨_, rfl⟩
  have hr3 := hr2.out
  rw [← ln, ← lk] at hr3 hnk
  rw [← ln] at hn
  rw [← lk] at hk
  have ixn : ∀ i : Nat, i < n → i < d.length := fun i h => by omega
  have ixk : ∀ i : Nat, i < k → i < d'.length := fun i h => by omega
  have Ln : ((d.length : Nat) : Int) = (n : Int) := by omega
  have Lk : ((d'.length : Nat) : Int) = (k : Int) := by omega
  have hij : ∀ i j : Nat, i < n → j < k → i * k + j < n * k := fun i j h1 h2 => by
    have h3 := Nat.mul_le_mul_right k (show i + 1 ≤ n from h1)
    rw [Nat.add_mul, Nat.one_mul] at h3
    omega
  replace hr3 := Lib.hid hr3
  replace ln := Lib.hid ln
  replace lk := Lib.hid lk
  replace hI0 := Lib.hid hI0
  replace ixn := Lib.hid ixn
  replace ixk := Lib.hid ixk
  replace hij := Lib.hid hij
  replace hda := Lib.hid hda
  replace hdb := Lib.hid hdb
  replace rd := Lib.hid rd
  replace rd' := Lib.hid rd'
  replace rv5 := Lib.hid rv5
  replace hbO := Lib.hid hbO
  replace hbR := Lib.hid hbR
  have x64 := Lib.hid (fun j => i64_getD hd64 j)
  have y64 := Lib.hid (fun j => i64_getD hd64' j)
  clear hd64 hd64' hr2 E5
  go_wp2
  go_loopw [72] (fun v wr => ∃ (i : Nat) (dv : Value) (ys : List Int), i ≤ n ∧ v = .int .i64 i ∧ M.seqE (i * k) (M.outC f true false d d') = .ok ys ∧ OutAt w wB w3.heap.size wB.heap.size false (.slice av S.length kv) dv ys wr) (fun v _ => n - (intOf v).toNat)
  case atStart => exact ⟨0, _, [], Nat.zero_le _, rfl, by rw [Nat.zero_mul]; rfl, hI0.out⟩
  case round =>
    clear hI0
    obtain ⟨i, dv, ys, hi, rfl, hseq, hI⟩ := hrel
    by_cases hlt : i < n
    · obtain ⟨bd, od, rfl, lbd, nbd⟩ := hda.out i (ixn.out i hlt)
      obtain ⟨_, _, e, cd⟩ := rd.out i (ixn.out i hlt)
      cases e
      have xA := (cell_of_eq (hI.2.2.2.2 w.heap.size (by omega) (by omega)) 2).trans x2
      have xB := (cell_of_eq (hI.2.2.2.2 (w.heap.size + 1) (by omega) (by omega)) 2).trans y2
      have cdr := (cell_of_eq (hI.2.2.2.2 bd lbd nbd) (od + i)).trans cd
      have iln := ixn.out i hlt
      have X64 := x64.out i
      generalize hX : d.getD i 0 = X at *
      replace hX := Lib.hid hX
      replace X64 := Lib.hid X64
      replace hI := Lib.hid hI
      replace hseq := Lib.hid hseq
      clear cd
      rename World => wo
      go_wp2
      go_loopw [79] (fun v wq => ∃ (j : Nat) (dv : Value) (ys : List Int), j ≤ k ∧ v = .int .i64 j ∧ M.seqE (i * k + j) (M.outC f true false d d') = .ok ys ∧ OutAt w wB w3.heap.size wB.heap.size false (.slice av S.length kv) dv ys wq) (fun v _ => k - (intOf v).toNat)
      case atStart => exact ⟨0, _, _, Nat.zero_le _, rfl, hseq.out, hI.out⟩
      case round =>
        clear hI xA xB cdr hseq
        obtain ⟨j, dv, ys, hj, rfl, hseq, hI⟩ := hrel
        by_cases hlk : j < k
        · obtain ⟨be, oe, rfl, lbe, nbe⟩ := hdb.out j (ixk.out j hlk)
          obtain ⟨_, _, e, ce⟩ := rd'.out j (ixk.out j hlk)
          cases e
          have cer := (cell_of_eq (hI.2.2.2.2 be lbe nbe) (oe + j)).trans ce
          have cg := (cell_of_eq (hI.2.2.2.2 (w3.heap.size + 1 + 1 + 1 + 1) l2 (by omega)) 0).trans hgc
          have Y64 := y64.out j
          have hoc := outC_at (f := f) (c1 := true) (c2 := false) (d := d) (i := i) lk.out.symm hlk
          rw [hX.out] at hoc
          have jlk := ixk.out j hlk
          have hlty := hij.out i j hlt hlk
          generalize hY : d'.getD j 0 = Y at *
          have hcall := fun w hc => betwT_tf f X Y (w3.heap.size + 1 + 1 + 1 + 1) w hc X64.out Y64
          have hId := fun n => hI.drewN n
          have hw0 : w.heap.size ≤ w3.heap.size := by omega
          have hlen0 := seqE_length hseq
          have bR := fun n => (hI.drewN n).box (R := w.heap.size + 1 + 1) l3 (by omega) hbR.out
          replace hY := Lib.hid hY
          replace hId := Lib.hid hId
          replace bR := Lib.hid bR
          clear ce Y64
          cases hv : M.tw f true false X Y with
          | error e0 =>
            rw [hv] at hoc hcall
            dsimp only [resI] at hcall
            have hrx := hr3.out
            rw [seqE_error (seqE_stop hseq hoc) hlty] at hrx
            replace hrx := Lib.hid hrx
            replace hcall := Lib.hid hcall
            clear hoc hv hlen0 hlty
            replace hseq := Lib.hid hseq
            replace hI := Lib.hid hI
            go_wp2_with fail
            refine (hcall.out _ cg).mono ?_
            rintro e w5 ⟨rfl, n5, rfl⟩
            obtain ⟨⟨z0, z1, z2⟩, z3, z4, z5⟩ := bR.out n5
            have hb5 := (hId.out n5).2.2.1
            clear cer cg
            generalize World.drewN _ n5 = w5 at *
            go_wp2
            refine bodyPost_ret (v := .tuple #[arrV false none 0 0 none 0 0, .iface 46 (.int .i64 e0)]) (by simp [results, Tryz.results107, go_sem, cell?_set_same, z0, z1, z2]) rfl ?_
            exact .error hrx.out rfl (set3 hb5 (by omega) _ _ _)
          | ok v =>
            rw [hv] at hoc hcall
            dsimp only [resI] at hcall
            have hsn := Lib.hid (seqE_next hseq hoc)
            replace hcall := Lib.hid hcall
            have hlen : ys.length < 17592186044416 := by omega
            clear hoc hv hlen0 hlty
            replace hseq := Lib.hid hseq
            replace hI := Lib.hid hI
            go_wp2_with fail
            refine (hcall.out _ cg).mono ?_
            rintro e w5 ⟨rfl, n5, hw5⟩
            have hI5 := hId.out n5
            rw [← hw5] at hI5
            have hI5' := hI5
            obtain ⟨⟨⟨c0, c1, c2⟩, f2⟩, hown, hbl, hsz, -⟩ := hI5'
            obtain ⟨av5, cv5, rfl, -, -, -⟩ := hown.view
            replace hI5 := Lib.hid hI5
            replace hw5 := Lib.hid hw5
            replace hlen := Lib.hid hlen
            clear cer cg hbl
            replace hown := Lib.hid hown
            go_wp2_with (at_builtin; refine app_int rfl (.tmp 95) (.tmp 97) rfl wB.heap.size _ ys v rfl hown.out rfl hlen.out hsz ?_; intro v' w' ho' hb' hl'; obtain ⟨a', c', rfl, -, -, -⟩ := ho'.view; have c8 := (hb'.cell (by exact l1)).trans c2; have f8 := (hb'.frozen (by exact l1)).trans f2; have hfin := Lib.hid (OutAt.step hI5.out hw0 l1 hb' ho'); replace ho' := Lib.hid ho')
            clear c0 c1 c2 f2
            go_roundw
            case rel => exact ⟨j + 1, _, _, by omega, by go_num, hsn.out, by have h := hfin.out; rw [List.length_append] at h; exact h⟩
            case measure => simp [intOf]; omega
        · obtain rfl : j = k := by omega
          have e : i * j + j = (i + 1) * j := by rw [Nat.add_mul, Nat.one_mul]
          rw [e] at hseq
          replace hI := Lib.hid hI
          replace hseq := Lib.hid hseq
          replace e := Lib.hid e
          go_wp2
          go_roundw
          case rel => exact ⟨i + 1, _, _, by omega, by go_num, hseq.out, hI.out⟩
          case measure => simp [intOf]; omega
    · obtain rfl : i = n := by omega
      have hrx := hr3.out
      rw [hseq] at hrx
      dsimp only at hrx
      have bR := hI.box (R := w.heap.size + 1 + 1) l3 (by omega) hbR.out
      obtain ⟨⟨z0, z1, z2⟩, z3, z4, z5⟩ := bR
      have rs : Row wr av S := fun q hq => by
        obtain ⟨g, o, e, h⟩ := rv5.out q hq
        subst e
        have hne : g ≠ w3.heap.size := fun e => by
          have h1 := favlt _ rfl
          exact absurd e (Nat.ne_of_lt h1)
        exact ⟨g, o, rfl, (cell_of_eq (hI.2.2.2.2 g (World.block_lt_of_cell? _ _ h) hne) (o + q)).trans h⟩
      have hown := hI.2.1
      obtain ⟨⟨⟨c0, c1, c2⟩, f2⟩, -, hbl, -, -⟩ := hI
      obtain ⟨av5, cv5, rfl, hk5, -, rdat⟩ := hown.view
      have fdat := own_fresh hown
      replace hown := Lib.hid hown
      replace hrx := Lib.hid hrx
      replace hseq := Lib.hid hseq
      go_wp2
      refine bodyPost_ret (v := .tuple #[arrV false av S.length kv av5 ys.length cv5, .nilIface]) (by simp [results, Tryz.results107, go_sem, cell?_set_same, z0, z1, z2]) rfl ?_
      refine ArrPostG.ok (x := ⟨false, S, ys⟩) hrx.out rfl ?_ ?_ fav (fun p e => by have := fdat p e; omega) hkv (set3 hbl (by omega) _ _ _) hk5
      · exact ((Row.set_ne rs z0 (by simp)).set_ne ((World.cell?_setCell_other _ _ _ _ (by simp)).trans z1) (by simp)).set_ne ((World.cell?_setCell_other _ _ _ _ (by simp)).trans ((World.cell?_setCell_other _ _ _ _ (by simp)).trans z2)) (by simp)
      · exact ((Row.set_ne rdat z0 (by simp)).set_ne ((World.cell?_setCell_other _ _ _ _ (by simp)).trans z1) (by simp)).set_ne ((World.cell?_setCell_other _ _ _ _ (by simp)).trans ((World.cell?_setCell_other _ _ _ _ (by simp)).trans z2)) (by simp)

end Go.Proofs.YtaplaoelamnoiaaGreatDoor

/- The call prod.Outer of any arrays. Condition: rows that lie as lists of ints of 64 bits. -/
namespace Go.Proofs.YtaplaoelamnoiaaGreatDoor
open Go.RowKit

theorem outerG_any (f : Int) (ch ch' : Bool) (a b a' b' : Option Addr) (s d s' d' : List Int) (m c n z m' c' n' z' : Nat) (w : World) (hs : Row w a s) (hd : Row w b d) (ls : s.length ≤ maxLen) (ld : d.length ≤ maxLen) (hd64 : All64 d) (em : m = s.length) (en : n = d.length)
    (hs' : Row w a' s') (hd' : Row w b' d') (ls' : s'.length ≤ maxLen) (ld' : d'.length ≤ maxLen) (hd64' : All64 d') (em' : m' = s'.length) (en' : n' = d'.length) :
    Calls Tryz.prog 107 #[.int .i64 f, arrV ch a m c b n z, arrV ch' a' m' c' b' n' z'] w fun e w' => ArrPostG (M.outer f ⟨ch, s, d⟩ ⟨ch', s', d'⟩) w e w' := by
  cases ch <;> cases ch'
  · exact outer_ff f a b a' b' s d s' d' m c n z m' c' n' z' w hs hd ls ld hd64 em en hs' hd' ls' ld' hd64' em' en'
  · exact outer_ft f a b a' b' s d s' d' m c n z m' c' n' z' w hs hd ls ld hd64 em en hs' hd' ls' ld' hd64' em' en'
  · exact outer_tf f a b a' b' s d s' d' m c n z m' c' n' z' w hs hd ls ld hd64 em en hs' hd' ls' ld' hd64' em' en'
  · exact outer_tt f a b a' b' s d s' d' m c n z m' c' n' z' w hs hd ls ld hd64 em en hs' hd' ls' ld' hd64' em' en'

theorem outer_any (f : Int) (ch ch' : Bool) (a b a' b' : Option Addr) (s d s' d' : List Int) (m c n z m' c' n' z' : Nat) (w : World) (hs : Row w a s) (hd : Row w b d) (ls : s.length ≤ maxLen) (ld : d.length ≤ maxLen) (hd64 : All64 d) (em : m = s.length) (en : n = d.length)
    (hs' : Row w a' s') (hd' : Row w b' d') (ls' : s'.length ≤ maxLen) (ld' : d'.length ≤ maxLen) (hd64' : All64 d') (em' : m' = s'.length) (en' : n' = d'.length) :
    Calls Tryz.prog 107 #[.int .i64 f, arrV ch a m c b n z, arrV ch' a' m' c' b' n' z'] w fun e w' => ArrPostF (M.outer f ⟨ch, s, d⟩ ⟨ch', s', d'⟩) w e w' :=
  (outerG_any f ch ch' a b a' b' s d s' d' m c n z m' c' n' z' w hs hd ls ld hd64 em en hs' hd' ls' ld' hd64' em' en').mono fun _ _ h => h.F

end Go.Proofs.YtaplaoelamnoiaaGreatDoor
