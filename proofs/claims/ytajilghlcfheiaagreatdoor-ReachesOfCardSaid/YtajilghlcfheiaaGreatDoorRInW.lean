/- ReachesOf's walk at whatever comes in. -/
import Derived.Test.YtajilghlcfheiaaGreatDoorRIn
namespace Go.Proofs.YtajilghlcfheiaaGreatDoor.Rea
open Go.RowKit Go.ChangeShapes Go.WideShapes Go.Deep Go.Proofs.YtajilghlcfheiaaGreatDoorW.PrintWords
set_option maxRecDepth 20000
theorem rof_walk {H : Type} {enc : TypeId × Value → H} {base : Nat} {r : Reach} {b0 : Nat} {sp : Nat → Bool} {held : Bool} {P : Prop} (n : Int) (v : Value) (d : DataW H) (p : List MemPlace) (W : World) (_ : (Lit.int .i64 n).wf = true)
    (ho : Value.okWide Tryz.prog W r b0 23 v) (ht : DataW.Trod enc Tryz.prog W base sp held 23 v d p) (_ : P) :
    Calls Tryz.prog 6 #[.int .i64 n, v] W fun e W' => e = .returned (.bool true) ∧ Below W.heap.size W W' := by
  obtain ⟨a, len, cap, L, rfl, hl, _, hb⟩ := open_bounds ⟨_, _, ho⟩ ht
  exact rof_in n a len cap L hl.symm W hb
end Go.Proofs.YtajilghlcfheiaaGreatDoor.Rea
