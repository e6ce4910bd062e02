/- The helper vec of the statements: an array of one axis. Condition: a row of fewer than 2^44 ints. -/
import Derived.Test.YtfnoalbnkbifmaaWkVec
import Derived.Test.YtfnoalbnkbifmaaBdB
namespace Go.Proofs.Ytfnoalbnkbifmaa
open Go.RowKit

set_option maxHeartbeats 1000000 in
theorem lawVec_any (b : Option Addr) (d : List Int) (n z : Nat) (w : World) (hd : Row w b d) (ld : d.length < 17592186044416) (en : n = d.length) :
    Calls Try.prog 6 #[.slice b n z] w fun e w' => VecOne false d w e w' := by
  subst en
  have E := ((Env.start w).addRow hd).box false none 0 0 none 0 0
  go_enter Try.func6, Try.ntmps6
  go_wp2_with fail
  refine (vector_one false b d _ z _ (E.getRow 1 rfl) ld rfl).mono ?_
  rintro e w1 ⟨a, b', k, rfl, ra, rb, hb⟩
  have E1 := Env.store (L := .row a [(d.length : Int)] :: .row b' d :: []) (N := w.heap.size) (w0 := w) (w := w1) (ch := false) (a := none) (m := 0) (c := 0) (b := none) (n := 0) (z := 0)
    (((Env.base (E.step hb).bel).addRow rb |>.addRow ra).add (f := .box w.heap.size false none 0 0 none 0 0) ((E.step hb).getBox 0 rfl)) (Nat.le_refl _) (by
      intro i N' ch' a' m' c' b' n' z' h
      match i with
      | 0 => cases h
      | 1 => cases h
      | i + 2 => cases h) false a 1 1 b' d.length k
  have B := (E.step hb).getBox 0 rfl
  obtain ⟨⟨u0, u1, u2⟩, g0, g1, g2⟩ := B
  have h1 := E1.getRow 1 rfl
  have h2 := E1.getRow 2 rfl
  have hbel := E1.bel
  clear E E1 hb ra rb
  go_wp2
  refine bodyPost_ret (v := arrV false a 1 1 b' d.length k) (by simp [results, Try.results6, go_sem, cell?_set_same, u0, u1, u2]) rfl ?_
  exact ⟨a, b', k, rfl, h1, h2, hbel⟩

end Go.Proofs.Ytfnoalbnkbifmaa
