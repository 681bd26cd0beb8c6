/- ReachesConstants over whatever came in. -/
import Derived.Test.YtjkfmgjebemphaaConsts
import Derived.Test.YtjkfmgjebemphaaOpen3
namespace Go.Proofs.Ytjkfmgjebemphaa
open Go.RowKit Go.ChangeShapes Go.WideShapes
theorem nat_of_u8 {a : Int} (h : (Lit.int .u8 a).wf = true) : ∃ x : Nat, a = (x : Int) ∧ x < 256 := by
  simp [Lit.wf, IntKind.min, IntKind.max, IntKind.signed, IntKind.bits] at h
  exact ⟨a.toNat, by omega, by omega⟩
theorem consts_walk {H : Type} {enc : TypeId × Value → H} {base : Nat} {r : Reach} {b0 : Nat} {sp : Nat → Bool} {held : Bool} {P : Prop} (n : Int) (v : Value) (d : DataW H) (p : List MemPlace) (f : Int) (W : World) (hn : (Lit.int .i64 n).wf = true) (ho : Value.okWide Try.prog W r b0 22 v) (ht : DataW.Trod enc Try.prog W base sp held 22 v d p) (_ : P) (hf : (Lit.int .u8 f).wf = true) :
    Calls Try.prog 4 #[.int .i64 n, v, .int .u8 f] W fun e w' => e = .returned (.bool true) ∧ Below W.heap.size W w' := by
  obtain ⟨a, m, cap, L, rfl, hl, hmc, hm, hL⟩ := open_bounds3 ⟨r, b0, ho⟩ ht
  obtain ⟨q, rfl, hq⟩ := nat_of_u8 hf
  clear ho ht hf
  have hm1 : (m : Int) ≤ 9223372036854775807 := by unfold maxLen at hm; omega
  by_cases h : n < 0 ∨ 64 < n ∨ 256 < m
  · exact consts_lim a cap m n _ h hm1 W
  · obtain ⟨k, rfl⟩ : ∃ k : Nat, n = (k : Int) := ⟨n.toNat, by omega⟩
    cases hk : L.all (·.ok k) with
    | false => exact consts_bad a cap L k m _ (by omega) hl.symm (by omega) hk W hL
    | true =>
      cases L with
      | nil =>
        obtain rfl : m = 0 := hl.symm
        exact consts_none a cap k _ (by omega) W
      | cons b L =>
        obtain ⟨bb, oo, rfl, _⟩ := hL 0 (by simp)
        exact consts_ok bb oo cap (b :: L) k m q (by omega) hl.symm (by rw [← hl]; simp) (by omega) hmc hq hk W hL
end Go.Proofs.Ytjkfmgjebemphaa
