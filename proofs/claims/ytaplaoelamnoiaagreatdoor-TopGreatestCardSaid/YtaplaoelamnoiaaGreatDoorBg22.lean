/- Texts that lie in one file: what is plain, rows, boxes, squares, and what is known of a world. No condition. -/
import Derived.Test.YtaplaoelamnoiaaGreatDoorRows
import Derived.Test.YtaplaoelamnoiaaGreatDoorBg07
import Derived.ChangeSame
import Derived.ChangeVars
import Derived.JoinedOf
import Derived.RowKit
import Derived.RowKitTokens
import Derived.LaidLaws
import Derived.LaidHandle
import Derived.Stop.Joined
import Derived.Lib.LaidTab
import Derived.Lib.LaidIn
import Derived.Lib.LaidU8T
import Derived.Test.YtaplaoelamnoiaaGreatDoorBg00
import Derived.ProofKit
import Derived.OpenShut
import Derived.ChangeOld
import Derived.Lib.SmallJoins
/- What a row that lists the seven variables gives a walk, and a world that meets the condition. -/
namespace Go.Proofs.YtaplaoelamnoiaaGreatDoor
open Go.ChangeShapes Go.WideShapes Go.RowKit Go.Shelf

/-- What the walks want of the library's variables. -/
def Zl (w : World) : Prop := Tz w ∧ 8 ≤ w.heap.size
/-- The list of the rows' listed variables. -/
abbrev laidListZ : List (String × DataW Unit) := [("math/bits.deBruijn32tab", Rows.laid_math_bits_deBruijn32tab), ("math/bits.deBruijn64tab", Rows.laid_math_bits_deBruijn64tab), ("internal/strconv.uint64pow10", Rows.laid_internal_strconv_uint64pow10), ("unicode/utf8.acceptRanges", Rows.laid_unicode_utf8_acceptRanges), ("strconv.ErrRange", Rows.laid_strconv_ErrRange), ("strconv.ErrSyntax", Rows.laid_strconv_ErrSyntax), ("unicode/utf8.first", Rows.laid_unicode_utf8_first)]
def zRen : Ren := ⟨fun n => n, fun | 5 => 5 | 119 => 164 | 138 => 167 | 139 => 168 | n => n, fun | 3 => 0 | 4 => 1 | n => n⟩
theorem zTypes : U8Types Tryz.prog zRen := ⟨Tryz.underlying5, Tryz.underlying164, Tryz.underlying167, Tryz.underlying168⟩
theorem zAccept : (Rows.laid_unicode_utf8_acceptRanges : DataW Unit) = Lib.acceptData := by kernel_rfl
theorem zFirst : Rows.laid_unicode_utf8_first = Lib.firstData := by kernel_rfl
theorem zPow : (Rows.laid_internal_strconv_uint64pow10 : DataW Unit) = Lib.tabData .u64 Lib.pow10Tab := by kernel_rfl
theorem z_of_met {W : World} (h : laidMetH Tryz.prog laidListZ W) : Zl W := by
  have h' : laidMet Tryz.prog laidListZ W := h
  have r1 := Lib.laidMet.reads h' (n := "unicode/utf8.first") (.tail _ (.tail _ (.tail _ (.tail _ (.tail _ (.tail _ (.head _)))))))
  have r2 := Lib.laidMet.reads h' (n := "unicode/utf8.acceptRanges") (.tail _ (.tail _ (.tail _ (.head _))))
  have r3 := Lib.laidMet.reads h' (n := "internal/strconv.uint64pow10") (.tail _ (.tail _ (.head _)))
  have r4 := Lib.laidMet.reads h' (n := "math/bits.deBruijn64tab") (.tail _ (.head _))
  rw [zFirst] at r1
  rw [zAccept] at r2
  rw [zPow] at r3
  refine ⟨⟨utf8Tabs_of_readsT zTypes ⟨by kernel_rfl, by kernel_rfl, by kernel_rfl, by kernel_rfl, by kernel_rfl, by kernel_rfl, by kernel_rfl⟩ r1 r2, ?_⟩, ?_⟩
  · obtain ⟨g, t, cs, fuel, p, hg, ht, hvar, hd⟩ := r3
    have hn : Tryz.prog.globalNamed "internal/strconv.uint64pow10" = some 5 := by kernel_rfl
    have hty : (Tryz.prog.globals[5]?).map (·.type) = some 239 := by kernel_rfl
    obtain rfl := Option.some.inj (hn.symm.trans hg)
    obtain rfl := Option.some.inj (hty.symm.trans ht)
    unfold Lib.TabIs
    rw [hvar, ← Lib.cells_of_tab Tryz.underlying239 Tryz.underlying191 (by kernel_rfl) (by kernel_rfl) hd]
  · obtain ⟨g, t, cs, fuel, p, hg, ht, hvar, hd⟩ := r4
    have hn : Tryz.prog.globalNamed "math/bits.deBruijn64tab" = some 7 := by kernel_rfl
    unfold World.var? at hvar
    rw [hn] at hvar
    simp only [Option.bind_some] at hvar
    cases hb : W.heap[7]? with
    | none => rw [hb] at hvar; cases hvar
    | some o => have := (Array.getElem?_eq_some_iff.1 hb).1; omega

/-- A world that meets the condition: the settled one, the variables' cells laid. -/
noncomputable def laidWorldZ (os : Os) : World :=
  let w0 := World.holding Tryz.prog os ⟨#[], #[], []⟩
  let put (h : Array Obj) (g : Nat) (cs : Array Value) : Array Obj := h.modify g fun
    | .cells _ t frozen => .cells cs t frozen
    | o => o
  let h1 := put w0.heap 0 (Lib.firstTab.map fun z => Value.int .u8 z).toArray
  let h2 := put h1 1 ((List.range 16).flatMap fun i => [Value.int .u8 (Lib.accLo i), Value.int .u8 (Lib.accHi i)]).toArray
  let h3 := put h2 5 (Lib.pow10Tab.map fun z => Value.int .u64 z).toArray
  let h4 := put h3 6 #[.int .u8 0, .int .u8 1, .int .u8 28, .int .u8 2, .int .u8 29, .int .u8 14, .int .u8 24, .int .u8 3, .int .u8 30, .int .u8 22, .int .u8 20, .int .u8 15, .int .u8 25, .int .u8 17, .int .u8 4, .int .u8 8, .int .u8 31, .int .u8 27, .int .u8 13, .int .u8 23, .int .u8 21, .int .u8 19, .int .u8 16, .int .u8 7, .int .u8 26, .int .u8 12, .int .u8 18, .int .u8 6, .int .u8 11, .int .u8 5, .int .u8 10, .int .u8 9]
  let h5 := put h4 7 #[.int .u8 0, .int .u8 1, .int .u8 56, .int .u8 2, .int .u8 57, .int .u8 49, .int .u8 28, .int .u8 3, .int .u8 61, .int .u8 58, .int .u8 42, .int .u8 50, .int .u8 38, .int .u8 29, .int .u8 17, .int .u8 4, .int .u8 62, .int .u8 47, .int .u8 59, .int .u8 36, .int .u8 45, .int .u8 43, .int .u8 51, .int .u8 22, .int .u8 53, .int .u8 39, .int .u8 33, .int .u8 30, .int .u8 24, .int .u8 18, .int .u8 12, .int .u8 5, .int .u8 63, .int .u8 55, .int .u8 48, .int .u8 27, .int .u8 60, .int .u8 41, .int .u8 37, .int .u8 16, .int .u8 46, .int .u8 35, .int .u8 44, .int .u8 21, .int .u8 52, .int .u8 32, .int .u8 23, .int .u8 11, .int .u8 54, .int .u8 26, .int .u8 40, .int .u8 15, .int .u8 34, .int .u8 20, .int .u8 31, .int .u8 10, .int .u8 25, .int .u8 14, .int .u8 19, .int .u8 9, .int .u8 13, .int .u8 8, .int .u8 7, .int .u8 6]
  let h6 := put h5 4 #[.iface 277 (.pointer (some ⟨h5.size, 0, none⟩))]
  let h7 := put h6 3 #[.iface 277 (.pointer (some ⟨h5.size + 1, 0, none⟩))]
  { w0 with heap := (h7.push (.cells #[.string ⟨#[118, 97, 108, 117, 101, 32, 111, 117, 116, 32, 111, 102, 32, 114, 97, 110, 103, 101]⟩] 279 (0, 0))).push (.cells #[.string ⟨#[105, 110, 118, 97, 108, 105, 100, 32, 115, 121, 110, 116, 97, 120]⟩] 279 (0, 0)) }
set_option maxRecDepth 100000 in
theorem laidWorldZ_met (os : Os) (args : Array Value) : laidMetH Tryz.prog laidListZ ((laidWorldZ os).forCall (fun _ _ => 0) ⟨#[], args, []⟩).memory :=
  show laidMet Tryz.prog laidListZ _ from laidMet_of_run' 8 (by kernel_rfl) (by kernel_rfl)
end Go.Proofs.YtaplaoelamnoiaaGreatDoor

/- Opening what comes in: a slice of ints, and (where the program has the type) an array of the language. -/
namespace Go.Proofs.YtaplaoelamnoiaaGreatDoor
open Go.ChangeShapes Go.WideShapes Go.ChangeAt Go.RowKit Go.Joins

theorem own : ownKnob Tryz.prog.godebug = none := by kernel_rfl
theorem laidOut : laidOutB Tryz.prog = true := by kernel_rfl

theorem I64.of_wf {n : Int} (h : (Lit.int .i64 n).wf = true) : I64 n := by
  simp [Lit.wf, IntKind.min, IntKind.max, IntKind.signed, IntKind.bits] at h
  exact h

theorem trod_ints {H : Type} {enc : TypeId × Value → H} {W : World} {base : Nat} {held : Bool} {a : Option Addr} {len cap : Nat} {d : DataW H} {ps : List MemPlace}
    (hd : DataW.Trod enc Tryz.prog W base (fun _ => true) held 22 (.slice a len cap) d ps) :
    ∃ x, len = x.length ∧ Row W a x ∧ x.length ≤ maxLen ∧ All64 x := by
  obtain ⟨fuel, hf⟩ := hd
  rcases open_ints Tryz.underlying22 Tryz.underlying3 (by kernel_rfl) hf with ⟨hcs, _⟩ | ⟨x, l, c, zs, hcs, _, hl, hm, hz, _, hcell, hwz⟩
  · simp [Value.cells] at hcs
    obtain ⟨rfl, rfl, rfl⟩ := hcs
    exact ⟨[], rfl, Row.nil _ _, Nat.zero_le _, fun x hx => by simp at hx⟩
  · simp [Value.cells] at hcs
    obtain ⟨rfl, rfl, rfl⟩ := hcs
    have hz' : zs.length = cap := by simpa using hz
    have hlen : (zs.take len).length = len := by rw [List.length_take]; omega
    refine ⟨zs.take len, hlen.symm, ?_, by omega, fun y hy => I64.of_wf (hwz y (List.mem_of_mem_take hy))⟩
    intro i hi
    rw [hlen] at hi
    obtain ⟨b, off, spot⟩ := x
    have hc0 := hcell 0 (by omega)
    have hspot : spot = none := by simpa [Addr.add] using World.cell?_spot hc0
    subst hspot
    have hc := hcell i (by omega)
    refine ⟨b, off, rfl, ?_⟩
    rw [Addr.add_lit] at hc
    rw [hc]
    simp [hi]

set_option maxRecDepth 100000 in
theorem open_slice_ints {H : Type} {enc : TypeId × Value → H} {W : World} {r : Reach} {base b0 : Nat} {held : Bool} {v : Value} {d : DataW H} {ps : List MemPlace}
    (hval : Value.okWide Tryz.prog W r b0 22 v) (hd : DataW.Trod enc Tryz.prog W base (fun _ => true) held 22 v d ps) :
    ∃ p x c, v = .slice p (List.length x) c ∧ Row W p x ∧ x.length ≤ maxLen ∧ All64 x := by
  obtain ⟨a, len, cap, rfl⟩ := okWide_slice Tryz.underlying22 hval
  obtain ⟨x, rfl, h1, h2, h3⟩ := trod_ints hd
  exact ⟨a, x, cap, rfl, h1, h2, h3⟩

end Go.Proofs.YtaplaoelamnoiaaGreatDoor
