/- EffectsBounds: its walk at whatever array comes in. -/
import Derived.Test.YthdgblfjgocnlaaBounds
import Derived.Test.YthdgblfjgocnlaaRows
import Derived.WideKeyArr2
import Derived.Laws.IdiomArrays
import Derived.ProofKit
namespace Go.Proofs.Ythdgblfjgocnlaa
open Go.RowKit Go.ChangeShapes Go.WideShapes
theorem arrKey : WideMaps.ArrKey Try.prog 23 22 3 := ⟨Try.underlying23, by kernel_rfl, by kernel_rfl, by kernel_rfl⟩
theorem three {xs : Array Value} (h : xs.size = 3) : ∃ a b c, xs = #[a, b, c] := by
  rcases xs with ⟨l⟩
  simp at h
  match l, h with
  | [a, b, c], _ => exact ⟨a, b, c, rfl⟩
theorem bounds_walk {H : Type} {enc : TypeId × Value → H} {base : Nat} {r : Reach} {b0 : Nat} {sp : Nat → Bool} {held : Bool} {P : Prop} (n : Int) (v : Value) (d : DataW H) (p : List MemPlace) (W : World) (hn : (Lit.int .u8 n).wf = true) (ho : Value.okWide Try.prog W r b0 23 v) (ht : DataW.Trod enc Try.prog W base sp held 23 v d p) (_ : P) :
    Calls Try.prog 3 #[.int .u8 n, v] W fun e w' => e = .returned (.bool true) ∧ Below W.heap.size W w' := by
  obtain ⟨xs, rfl, hs⟩ := WideMaps.okWide_arr arrKey ho
  obtain ⟨v0, v1, v2, rfl⟩ := three hs
  obtain ⟨fuel, hf⟩ := ht
  obtain ⟨y0, y1, y2, m, _, h0, h1, h2⟩ := trod_array3 (e := 22) Try.underlying23 (by kernel_rfl) (c0 := v0) (c1 := v1) (c2 := v2) hf
  obtain ⟨a, e0, _, wa⟩ := DataW.trod_int Try.underlying22 h0
  obtain ⟨b, e1, _, wb⟩ := DataW.trod_int Try.underlying22 h1
  obtain ⟨c, e2, _, wc⟩ := DataW.trod_int Try.underlying22 h2
  cases e0
  cases e1
  cases e2
  obtain ⟨x, rfl, hx⟩ := nat_of_u64 wa
  obtain ⟨y, rfl, hy⟩ := nat_of_u64 wb
  obtain ⟨z, rfl, hz⟩ := nat_of_u64 wc
  exact bounds_in n x y z W hn hx hy hz
end Go.Proofs.Ythdgblfjgocnlaa
