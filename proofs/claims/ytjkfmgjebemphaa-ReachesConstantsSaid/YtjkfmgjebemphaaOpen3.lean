/- A list of bounds that came in: it has room for itself. -/
import Derived.Test.YtjkfmgjebemphaaOpen2
namespace Go.Proofs.Ytjkfmgjebemphaa
open Go.RowKit Go.ChangeShapes Go.WideShapes Go.Deep
section
variable {H : Type} {enc : TypeId × Value → H} {w : World} {base : Nat} {spare : Nat → Bool} {held : Bool}
theorem open_bounds3 {v : Value} {d : DataW H} {p : List MemPlace} (ho : ∃ r b0, Value.okWide Try.prog w r b0 22 v) (h : DataW.Trod enc Try.prog w base spare held 22 v d p) :
    ∃ (a : Option Addr) (len cap : Nat) (L : List Bd), v = .slice a len cap ∧ L.length = len ∧ len ≤ cap ∧ cap ≤ maxLen ∧ Bds w a L := by
  obtain ⟨a, len, cap, L, rfl, h1, h2, h3⟩ := open_bounds ho h
  obtain ⟨fuel, hf⟩ := h
  rcases open_slice Try.underlying22 hf with ⟨hcs, _⟩ | ⟨a', len', cap', m, n, D, Pl, hcs, _, hl, hm, _⟩
  · simp [Value.cells] at hcs
    obtain ⟨rfl, rfl, rfl⟩ := hcs
    exact ⟨_, _, _, L, rfl, h1, Nat.le_refl _, by unfold maxLen; omega, h3⟩
  · simp [Value.cells] at hcs
    obtain ⟨rfl, rfl, rfl⟩ := hcs
    exact ⟨_, _, _, L, rfl, h1, hl, hm, h3⟩
end
end Go.Proofs.Ytjkfmgjebemphaa
