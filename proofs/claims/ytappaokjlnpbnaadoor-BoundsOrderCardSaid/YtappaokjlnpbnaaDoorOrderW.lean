/- BoundsOrder's walk at whatever comes in. -/
import Derived.Test.YtappaokjlnpbnaaDoorOrder
import Derived.Test.YtappaokjlnpbnaaDoorGiven2
namespace Go.Proofs.YtappaokjlnpbnaaDoor
open Go.RowKit Go.ChangeShapes Go.WideShapes
set_option maxRecDepth 100000 in
theorem order_walk {H : Type} {enc : TypeId × Value → H} {base : Nat} {r : Reach} {b0 : Nat} {held : Bool} {P : Prop} (v : Value) (d : DataW H) (p : List MemPlace) (q : Int) (W : World) (ho : Value.okWide Tryd.prog W r b0 53 v) (ht : DataW.Trod enc Tryd.prog W base (fun _ => true) held 53 v d p) (_ : P) (hq : (Lit.int .u8 q).wf = true) (hT : Lib.TabIs Tryd.prog W "math/bits.deBruijn64tab" .u8 tab64) :
    Calls Tryd.prog 12 #[v, .int .u8 q] W fun e w' => e = .returned (.bool true) ∧ Below W.heap.size W w' := by
  obtain ⟨A1, n1, c1, rows, s, ef, vr, A2, m, c2, L, A3, k, c3, vals, rfl, h1, hm1, hI1, h2, hm2, hcm, hL, h3, hm3, hc3, hI3, _, _⟩ := given_open2 v d p W ho ht
  obtain ⟨n, rfl, hn⟩ : ∃ n : Nat, q = n ∧ n < 256 := by
    simp [Lit.wf, IntKind.min, IntKind.max, IntKind.signed, IntKind.bits] at hq
    exact ⟨q.toNat, by omega, by omega⟩
  exact order_in A1 n1 c1 rows s ef vr A2 m c2 L A3 k c3 vals n hn h1 hm1 h2 hm2 hcm h3 hm3 hc3 W hI1 hL hI3 (tab_of hT)
end Go.Proofs.YtappaokjlnpbnaaDoor
