/- OrdersClose's walk at whatever comes in. -/
import Derived.Test.YtajilghlcfheiaaGreatDoorOLaw
namespace Go.Proofs.YtajilghlcfheiaaGreatDoor.Ord
open Go.RowKit Go.ChangeShapes Go.WideShapes Go.Deep Go.Proofs.YtajilghlcfheiaaGreatDoorW.PrintWords
set_option maxRecDepth 20000
theorem oclose_walk {H : Type} {enc : TypeId × Value → H} {base : Nat} {r : Reach} {b0 : Nat} {sp : Nat → Bool} {held : Bool} {P : Prop} (n : Int) (v : Value) (d : DataW H) (p : List MemPlace) (W : World) (_ : (Lit.int .i64 n).wf = true)
    (ho : Value.okWide Tryz.prog W r b0 75 v) (ht : DataW.Trod enc Tryz.prog W base sp held 75 v d p) (_ : P) :
    Calls Tryz.prog 5 #[.int .i64 n, v] W fun e w' => e = .returned (.bool true) ∧ Below W.heap.size W w' := by
  obtain ⟨a, len, cap, L, rfl, hl, _, hp, _⟩ := open_pairs ⟨_, _, ho⟩ ht
  exact oclose_in n a len cap L hl.symm W hp
end Go.Proofs.YtajilghlcfheiaaGreatDoor.Ord
