/- The reader's method all: the words of a line. Condition: the reader lies; the tables of utf8 are laid; the line has words that are told by M.lexFrom. -/
import Derived.Test.YtaplaoelamnoiaaGreatDoorBg06
import Derived.Test.YtaplaoelamnoiaaGreatDoorBg05
namespace Go.Proofs.YtaplaoelamnoiaaGreatDoor
open Go.RowKit

theorem Rd.setWords {g : Nat} {s : ByteArray} {p : Nat} {wv : Value} {w : World} (h : Rd g s p wv w) (v : Value) : Rd g s p v (w.setCell ⟨g, 2, none⟩ v) := by
  obtain ⟨⟨c0, c1, c2⟩, f1, f2⟩ := h
  refine ⟨⟨?_, ?_, ?_⟩, ?_, ?_⟩
  · rw [World.cell?_setCell_other _ _ _ _ (by simp)]; exact c0
  · rw [World.cell?_setCell_other _ _ _ _ (by simp)]; exact c1
  · exact World.cell?_setCell_same' _ _ _ (by rw [c2]; rfl)
  · rw [World.frozen?_setCell]; exact f1
  · rw [World.frozen?_setCell]; exact f2
namespace M
/-- The word at a place, and the place behind it. -/
def word (s : ByteArray) (p : Nat) : Option (Tok × Nat) :=
  if (Lib.decodeGo (s.extract p s.size)).1 < 128 ∧ dig (Lib.decodeGo (s.extract p s.size)).1 = true then
    match Lib.parseIntB 64 (s.extract p (ends dig s p)).data.toList with
    | .ok v => some (⟨1, 0, v, noText, p⟩, ends dig s p)
    | _ => none
  else if (Lib.decodeGo (s.extract p s.size)).1 < 128 ∧ lett (Lib.decodeGo (s.extract p s.size)).1 = true then
    (if (s.extract p (ends inn s p)).size ≤ 12 then some (⟨3, 0, 0, s.extract p (ends inn s p), p⟩, ends inn s p) else none)
  else if (Lib.decodeGo (s.extract p s.size)).1 = 175 ∨ (Lib.decodeGo (s.extract p s.size)).1 = 39 ∨ ¬ p + (Lib.decodeGo (s.extract p s.size)).2 ≤ s.size then none
  else match fnAt (Lib.decodeGo (s.extract p s.size)).1 with
    | some q => some (⟨4, q + 1, 0, noText, p⟩, p + (Lib.decodeGo (s.extract p s.size)).2)
    | none => match signAt (Lib.decodeGo (s.extract p s.size)).1 with
      | some q => some (⟨q + 5, 0, 0, noText, p⟩, p + (Lib.decodeGo (s.extract p s.size)).2)
      | none => none
/-- The words from a place on. -/
def lexFrom (s : ByteArray) : Nat → Nat → Option (List Tok)
  | 0, _ => none
  | n + 1, p0 =>
    if (s.extract (ends spc s p0) s.size).toList = [] then some []
    else if Lib.hasPrefix (s.extract (ends spc s p0) s.size).data.toList [226, 141, 157] = true then none
    else match word s (ends spc s p0) with
      | none => none
      | some (t, q) => if q ≤ s.size then (match lexFrom s n q with | none => none | some l => some (t :: l)) else none
end M

theorem word_any (g : Nat) (s : ByteArray) (p : Nat) (wv : Value) (w : World) (h : Rd g s p wv w) (hp : p ≤ s.size) (hs : s.size ≤ 1000) (hT : Lib.Utf8Tabs 0 1 w) (hg : 2 ≤ g) (t : Tok) (q : Nat) (hw : M.word s p = some (t, q)) :
    Calls Tryz.prog 35 #[.pointer (some ⟨g, 0, none⟩)] w fun e w' => e = .returned t.val ∧ Rd g s q wv w' ∧ But g w w' ∧ Below g w w' := by
  obtain ⟨c, k⟩ : Nat × Nat := Lib.decodeGo (s.extract p s.size)
  unfold M.word at hw
  cases hd : Lib.decodeGo (s.extract p s.size) with
  | mk c k =>
  rw [hd] at hw
  dsimp only at hw
  split at hw
  · rename_i h1
    cases hv : Lib.parseIntB 64 (s.extract p (M.ends M.dig s p)).data.toList with
    | ok v =>
      rw [hv] at hw
      cases hw
      exact word_num g s p wv w h hp hs hT hg c k hd h1.1 h1.2 v hv
    | _ => rw [hv] at hw; cases hw
  · rename_i h1
    split at hw
    · rename_i h2
      split at hw
      · rename_i h12
        cases hw
        have hn : M.dig (c : Int) = false := by
          cases hx : M.dig (c : Int) with
          | true => exact absurd ⟨h2.1, hx⟩ h1
          | false => rfl
        exact word_name g s p wv w h hp hs hT hg c k hd h2.1 hn h2.2 h12
      · cases hw
    · rename_i h2
      split at hw
      · cases hw
      · rename_i h3
        have hnd : c < 128 → M.dig (c : Int) = false ∧ M.lett (c : Int) = false := fun hc => by
          refine ⟨?_, ?_⟩
          · cases hx : M.dig (c : Int) with
            | true => exact absurd ⟨hc, hx⟩ h1
            | false => rfl
          · cases hx : M.lett (c : Int) with
            | true => exact absurd ⟨hc, hx⟩ h2
            | false => rfl
        have h175 : c ≠ 175 := fun e => h3 (.inl e)
        have h39 : c ≠ 39 := fun e => h3 (.inr (.inl e))
        have hpk : p + k ≤ s.size := Decidable.of_not_not fun e => h3 (.inr (.inr e))
        cases hf : M.fnAt (c : Int) with
        | some q =>
          rw [hf] at hw
          cases hw
          exact word_fn g s p wv w h hp hs hT hg c k hd hnd h175 h39 hpk q hf
        | none =>
          rw [hf] at hw
          dsimp only at hw
          cases hsg : M.signAt (c : Int) with
          | none => rw [hsg] at hw; cases hw
          | some q =>
            rw [hsg] at hw
            cases hw
            exact word_sign g s p wv w h hp hs hT hg c k hd hnd h175 h39 hpk q hf hsg

theorem Tryz.infoTok : (Tryz.prog.info? 82).map (fun i => (i.zero, i.size, i.bytes)) = some (some (.agg #[.int .i64 0, .int .i64 0, .int .i64 0, .string ⟨#[]⟩, .int .i64 0]), 5, 48) := by kernel_rfl
theorem toks_len (ts : List Tok) : (ts.flatMap Tok.cells).length = ts.length * 5 := by
  induction ts with
  | nil => rfl
  | cons t r ih => rw [List.flatMap_cons, List.length_append, ih]; simp [Tok.cells]; omega
theorem tok_part (e : Tok) : e.cells.length = 5 := rfl

set_option maxRecDepth 20000 in
set_option maxHeartbeats 8000000 in
theorem all_any (g : Nat) (s : ByteArray) (w : World) (n : Nat) (ts : List Tok) (h : Rd g s 0 (.slice none 0 0) w) (hs : s.size ≤ 1000) (hT : Lib.Utf8Tabs 0 1 w) (hg : 2 ≤ g) (hl : M.lexFrom s n 0 = some ts) (h200 : ts.length < 200) :
    Calls Tryz.prog 23 #[.pointer (some ⟨g, 0, none⟩)] w fun e w' =>
      e = .returned (.tuple #[]) ∧ ∃ v p, Rd g s p v w' ∧ w'.ownsRow (g + 1) 82 5 v ts.length (ts.flatMap Tok.cells) ∧ Below g w w' := by
  have hgl := h.lt
  go_enter Tryz.func23, Tryz.ntmps23
  go_wp2
  go_loopg [] n (fun k wr => ∃ (p : Nat) (v : Value) (done rest : List Tok), p ≤ s.size ∧ M.lexFrom s k p = some rest ∧ done ++ rest = ts ∧ Rd g s p v wr ∧ wr.ownsRow (g + 1) 82 5 v done.length (done.flatMap Tok.cells) ∧ Below g w wr ∧ Lib.Utf8Tabs 0 1 wr)
  case atStart => exact ⟨0, _, [], ts, Nat.zero_le _, hl, rfl, h, World.ownsRow_nil _ _ _ _, Below.refl _ _, hT⟩
  case round =>
    obtain ⟨p, v, done, rest, hp, hlx, hts, hR, hO, hB, hTr⟩ := hrel
    have hgl2 := hR.lt
    cases gk with
    | zero => cases hlx
    | succ m =>
    have kw := while_space g s p v wr hR hp hs
    unfold M.lexFrom at hlx
    obtain ⟨P, hP⟩ : ∃ P, P = M.ends M.spc s p := ⟨_, rfl⟩
    rw [← hP] at hlx kw
    replace hP := Lib.hid hP
    replace kw := Lib.hid kw
    replace hlx := Lib.hid hlx
    replace hts := Lib.hid hts
    replace hO := Lib.hid hO
    replace hTr := Lib.hid hTr
    replace hB := Lib.hid hB
    clear hR h hl hT
    go_wp2_with fail
    refine kw.out.mono ?_
    rintro e w1 ⟨rfl, hR1, hBu1, hBe1, hPs⟩
    have hsz := hBe1.size
    have hO1 := Lib.hid (ownE_same hO.out fun b h1 h2 => hBu1 b h2 (by omega))
    have hB1 := Lib.hid (hB.out.trans hBe1)
    have hT1 := Lib.hid (utf8_same hTr.out fun b hb => hBe1.block b (by omega))
    clear hBu1 hBe1 kw hO hB hTr
    have hR1h := Lib.hid hR1
    clear hR1
    go_wp2_with fail
    refine (rest_any g s P v _ hR1h.out hPs).mono ?_
    rintro e w2 ⟨rfl, n2, hw2⟩
    subst hw2
    have hlx2 := hlx.out
    by_cases he : (s.extract P s.size).toList = []
    case pos =>
      rw [if_pos he] at hlx2
      have hie : (s.extract P s.size).toList.isEmpty = true := by rw [he]; rfl
      replace he := Lib.hid he
      cases hlx2
      have hts2 := hts.out
      rw [List.append_nil] at hts2
      subst hts2
      go_wp2
      refine bodyPost_ret (results_none rfl _ _ _) rfl ?_
      exact ⟨rfl, v, P, hR1h.out.drewN _, ownE_same hO1.out (fun _ _ _ => rfl), below_drewN hB1.out _⟩
    case neg =>
      rw [if_neg he] at hlx2
      have hie : (s.extract P s.size).toList.isEmpty = false := by
        cases hx : (s.extract P s.size).toList with
        | nil => exact absurd hx he
        | cons _ _ => rfl
      replace he := Lib.hid he
      have kh := Tryz.strings_HasPrefix (s.extract P s.size) ⟨#[226, 141, 157]⟩
      have hpre : (⟨#[226, 141, 157]⟩ : ByteArray).data.toList = [226, 141, 157] := rfl
      rw [hpre] at kh
      cases hh : Lib.hasPrefix (s.extract P s.size).data.toList [226, 141, 157] with
      | true => rw [if_pos hh] at hlx2; cases hlx2
      | false =>
      rw [if_neg (by rw [hh]; simp)] at hlx2
      rw [hh] at kh
      replace kh := Lib.hid kh
      replace hh := Lib.hid hh
      replace hlx := Lib.hid hlx
      cases hwd : M.word s P with
      | none => rw [hwd] at hlx2; cases hlx2
      | some tq =>
      obtain ⟨t, q⟩ := tq
      rw [hwd] at hlx2
      dsimp only at hlx2
      split at hlx2
      case isFalse => cases hlx2
      rename_i hq
      cases hnx : M.lexFrom s m q with
      | none => rw [hnx] at hlx2; cases hlx2
      | some l =>
      rw [hnx] at hlx2
      cases hlx2
      have kwd := fun W hW hTW => word_any g s P v W hW hPs hs hTW hg t q hwd
      have hdl : done.length < 200 := by have := hts.out; rw [← this] at h200; simp at h200; omega
      have e200 : (((done.length : Nat) : Int) == 200) = false := by rw [beq_eq_false_iff_ne]; omega
      replace kwd := Lib.hid kwd
      replace hwd := Lib.hid hwd
      replace hnx := Lib.hid hnx
      go_wp2_with fail
      refine (rest_any g s P v _ (hR1h.out.drewN _) hPs).mono ?_
      rintro e w2 ⟨rfl, n3, hw2⟩
      subst hw2
      go_wp2_with fail
      refine (kh.out _).mono ?_
      rintro e w2 ⟨rfl, hw2⟩
      subst hw2
      go_wp2_with fail
      refine (kwd.out _ (hR1h.out.drewN (n2 + n3)) (utf8_same hT1.out fun _ _ => rfl)).mono ?_
      rintro e w3 ⟨rfl, hR3, hBu3, hBe3⟩
      have hs3 := hBe3.size
      have hO3 := ownE_same hO1.out (w' := w3) fun b h1 h2 => hBu3 b h2 (by omega)
      have hB3 := (below_drewN hB1.out (n2 + n3)).trans hBe3
      have hT3 := utf8_same hT1.out (w' := w3) fun b hb => hBe3.block b (by omega)
      clear hR1h hO1 hB1 hT1 hBu3 hBe3 kwd kh
      have hg3 := hR3.lt
      obtain ⟨av, cv, hv, hle, -⟩ := ownE_view hO3
      subst hv
      unfold Tok.val
      have hR4 : Rd g s q (.slice av done.length cv) (w3.alloc (.cells #[.int .i64 t.kind, .int .i64 t.fn, .int .i64 t.num, .string t.text, .int .i64 t.place] 82)) := hR3.same (heap_alloc_old _ _ hg3)
      obtain ⟨⟨c0, c1, c2⟩, f1, f2⟩ := id hR4
      replace hR4 := Lib.hid hR4
      replace hR3 := Lib.hid hR3
      obtain ⟨i0, hi, hz0, hz1, hz2⟩ := info_parts Tryz.infoTok
      have hO5 : ((w3.alloc (.cells #[.int .i64 t.kind, .int .i64 t.fn, .int .i64 t.num, .string t.text, .int .i64 t.place] 82)).alloc (.cells #[.int .i64 t.kind, .int .i64 t.fn, .int .i64 t.num, .string t.text, .int .i64 t.place] 82)).ownsRow (g + 1) 82 5 (.slice av done.length cv) done.length (done.flatMap Tok.cells) :=
        ownE_same hO3 fun b h1 h2 => (heap_alloc_old _ _ (by rw [World.size_alloc]; omega)).trans (heap_alloc_old _ _ h2)
      have hN5 := boxC_alloc (w3.alloc (.cells #[.int .i64 t.kind, .int .i64 t.fn, .int .i64 t.num, .string t.text, .int .i64 t.place] 82)) #[.int .i64 t.kind, .int .i64 t.fn, .int .i64 t.num, .string t.text, .int .i64 t.place] 82
      rw [World.size_alloc] at hN5
      have hB5 := (hB3.alloc (by omega) (.cells #[.int .i64 t.kind, .int .i64 t.fn, .int .i64 t.num, .string t.text, .int .i64 t.place] 82)).alloc (by simp; omega) (.cells #[.int .i64 t.kind, .int .i64 t.fn, .int .i64 t.num, .string t.text, .int .i64 t.place] 82)
      replace hO5 := Lib.hid hO5
      replace hN5 := Lib.hid hN5
      replace hB5 := Lib.hid hB5
      replace hi := Lib.hid hi
      replace hz0 := Lib.hid hz0
      replace hz1 := Lib.hid hz1
      replace hz2 := Lib.hid hz2
      have hR5 := Lib.hid ((hR3.out.same ((heap_alloc_old _ _ (by rw [World.size_alloc]; omega)).trans (heap_alloc_old _ _ hg3))) : Rd g s q (.slice av done.length cv) ((w3.alloc (.cells #[.int .i64 t.kind, .int .i64 t.fn, .int .i64 t.num, .string t.text, .int .i64 t.place] 82)).alloc (.cells #[.int .i64 t.kind, .int .i64 t.fn, .int .i64 t.num, .string t.text, .int .i64 t.place] 82)))
      have hT5 := Lib.hid (utf8_same hT3 fun b hb => (heap_alloc_old _ _ (by rw [World.size_alloc]; omega)).trans (heap_alloc_old _ _ (by omega)) : Lib.Utf8Tabs 0 1 ((w3.alloc (.cells #[.int .i64 t.kind, .int .i64 t.fn, .int .i64 t.num, .string t.text, .int .i64 t.place] 82)).alloc (.cells #[.int .i64 t.kind, .int .i64 t.fn, .int .i64 t.num, .string t.text, .int .i64 t.place] 82)))
      clear hO3 hB3 hle hT3
      go_wp2_with fail
      go_region_law ((first
        | (refine step_app_E 47 82 i0 _ 5 48 Tryz.underlying47 hi.out hz0.out hz1.out hz2.out rfl (by decide) rfl (.tmp 29) (.tmp 31) rfl (g + 1) _ done.length (done.flatMap Tok.cells) t.cells (w3.heap.size + 1) rfl hO5.out rfl rfl (fun j u hj => (hN5.out j u hj).1) (by simp [Tok.cells, Value.oneCell']) (by unfold maxLen; omega) (by omega) (by simp; omega) ?_; intro a5 c5 w5 ho5 hb5; have hR6 := Lib.hid (hR5.out.same (hb5.block g (Nat.lt_succ_self g))); have hT6 := Lib.hid (utf8_same hT5.out fun b hb => hb5.block b (by omega)); have d2 := hR6.out.1.2.2; have d3 := hR6.out.2.2; have hB6 := Lib.hid ((hB5.out.drew).trans (hb5.mono (Nat.le_succ g))); replace ho5 := Lib.hid ho5; replace hb5 := Lib.hid hb5)))
      all_goals go_wp2
      all_goals go_roundg m
      all_goals
        first
          | exact ⟨q, _, done ++ [t], l, hq, hnx.out, by rw [List.append_assoc]; exact hts.out, hR6.out.setWords _, by
              have h := ownE_same (w' := w5.setCell ⟨g, 2, none⟩ (.slice a5 (done.length + 1) c5)) ho5.out fun b h1 h2 => Below.heap_setCell _ _ _ b (by show b ≠ g; omega)
              rw [List.length_append, List.flatMap_append]
              simpa using h, hB6.out.setCell (Nat.le_refl _) _, utf8_same hT6.out fun b hb => Below.heap_setCell _ _ _ b (by show b ≠ g; omega)⟩
          | omega
end Go.Proofs.YtaplaoelamnoiaaGreatDoor
