/- BoundsNone's walk at whatever comes in. -/
import Derived.Test.YtappaokjlnpbnaaDoorNon
namespace Go.Proofs.YtappaokjlnpbnaaDoor
open Go.RowKit Go.ChangeShapes Go.WideShapes
set_option maxRecDepth 100000 in
theorem non_walk {H : Type} {enc : TypeId × Value → H} {base : Nat} {r : Reach} {b0 : Nat} {held : Bool} {P : Prop} (v : Value) (d : DataW H) (p : List MemPlace) (W : World) (ho : Value.okWide Tryd.prog W r b0 53 v) (ht : DataW.Trod enc Tryd.prog W base (fun _ => true) held 53 v d p) (_ : P) (hT : Lib.TabIs Tryd.prog W "math/bits.deBruijn64tab" .u8 tab64) :
    Calls Tryd.prog 9 #[v] W fun e w' => e = .returned (.bool true) ∧ Below W.heap.size W w' := by
  obtain ⟨A1, n1, c1, rows, s, ef, vr, A2, m, c2, L, A3, k, c3, vals, rfl, h1, hm1, hI1, h2, hm2, hL, h3, hm3, hc3, hI3, _, _⟩ := given_open v d p W ho ht
  exact non_in A1 n1 c1 rows s ef vr A2 m c2 L A3 k c3 vals h1 hm1 h2 hm2 h3 hm3 hc3 W hI1 hL hI3 (tab_of hT)
end Go.Proofs.YtappaokjlnpbnaaDoor
