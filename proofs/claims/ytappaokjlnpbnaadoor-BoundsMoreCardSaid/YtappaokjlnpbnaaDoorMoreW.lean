/- BoundsMore's walk at whatever comes in. -/
import Derived.Test.YtappaokjlnpbnaaDoorMore
import Derived.Test.YtappaokjlnpbnaaDoorGiven2
namespace Go.Proofs.YtappaokjlnpbnaaDoor
open Go.RowKit Go.ChangeShapes Go.WideShapes
set_option maxRecDepth 100000 in
theorem more_walk {H : Type} {enc : TypeId × Value → H} {base base2 : Nat} {r r2 : Reach} {b0 b02 : Nat} {sp2 : Nat → Bool} {held held2 : Bool} {P P2 : Prop} (v : Value) (d : DataW H) (p : List MemPlace) (v2 : Value) (d2 : DataW H) (p2 : List MemPlace) (W : World) (ho : Value.okWide Tryd.prog W r b0 53 v) (ht : DataW.Trod enc Tryd.prog W base (fun _ => true) held 53 v d p) (_ : P) (ho2 : Value.okWide Tryd.prog W r2 b02 72 v2) (ht2 : DataW.Trod enc Tryd.prog W base2 sp2 held2 72 v2 d2 p2) (_ : P2) (hT : Lib.TabIs Tryd.prog W "math/bits.deBruijn64tab" .u8 tab64) :
    Calls Tryd.prog 11 #[v, v2] W fun e w' => e = .returned (.bool true) ∧ Below W.heap.size W w' := by
  obtain ⟨A1, n1, c1, rows, s, ef, vr, A2, m, c2, L, A3, k, c3, vals, rfl, h1, hm1, hI1, h2, hm2, hcm, hL, h3, hm3, hc3, hI3, _, _⟩ := given_open2 v d p W ho ht
  obtain ⟨⟨av, an, bv, bn⟩, rfl, l1, l2⟩ := Rea.open_bound_value ho2 ht2
  exact more_in A1 n1 c1 rows s ef vr A2 m c2 L A3 k c3 vals av an bv bn l1 l2 h1 hm1 h2 hm2 hcm h3 hm3 hc3 W hI1 hL hI3 (tab_of hT)
end Go.Proofs.YtappaokjlnpbnaaDoor
