/- ReachesOn over whatever came in. -/
import Derived.Test.YtjkfmgjebemphaaOn
import Derived.Test.YtjkfmgjebemphaaOpen
namespace Go.Proofs.Ytjkfmgjebemphaa
open Go.RowKit Go.ChangeShapes Go.WideShapes
theorem on_walk {H : Type} {enc : TypeId × Value → H} {base : Nat} {r : Reach} {b0 : Nat} {sp : Nat → Bool} {held : Bool} {P : Prop} (n : Int) (v : Value) (d : DataW H) (p : List MemPlace) (W : World) (hn : (Lit.int .i64 n).wf = true) (ho : Value.okWide Try.prog W r b0 22 v) (ht : DataW.Trod enc Try.prog W base sp held 22 v d p) (_ : P) :
    Calls Try.prog 3 #[.int .i64 n, v] W fun e w' => e = .returned (.bool true) ∧ Below W.heap.size W w' := by
  obtain ⟨a, m, cap, L, rfl, hl, hm, hL⟩ := open_bounds ⟨r, b0, ho⟩ ht
  clear ho ht
  have hm1 : (m : Int) ≤ 9223372036854775807 := by unfold maxLen at hm; omega
  by_cases h : n < 0 ∨ 64 < n ∨ 256 < m
  · exact on_lim a cap m n h hm1 W
  · obtain ⟨k, rfl⟩ : ∃ k : Nat, n = (k : Int) := ⟨n.toNat, by omega⟩
    by_cases hk : L.all (·.ok k) = true
    · exact on_ok a cap L k m (by omega) hl.symm (by omega) hk W hL
    · exact on_bad a cap L k m (by omega) hl.symm (by omega) (by simpa using hk) W hL
end Go.Proofs.Ytjkfmgjebemphaa
