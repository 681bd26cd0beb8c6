/- A list of bounds that came in: where there is none, it has no room. One bound by value. -/
import Derived.Test.YtjkfmgjebemphaaOpen
import Derived.Test.YtjkfmgjebemphaaSame
namespace Go.Proofs.Ytjkfmgjebemphaa
open Go.RowKit Go.ChangeShapes Go.WideShapes Go.Deep
section
variable {H : Type} {enc : TypeId × Value → H} {w : World} {base : Nat} {spare : Nat → Bool} {held : Bool}
theorem open_bounds2 {v : Value} {d : DataW H} {p : List MemPlace} (ho : ∃ r b0, Value.okWide Try.prog w r b0 22 v) (h : DataW.Trod enc Try.prog w base spare held 22 v d p) :
    ∃ (a : Option Addr) (len cap : Nat) (L : List Bd), v = .slice a len cap ∧ L.length = len ∧ len ≤ maxLen ∧ Bds w a L ∧ (a = none → cap = 0) := by
  obtain ⟨a, len, cap, L, rfl, h1, h2, h3⟩ := open_bounds ho h
  refine ⟨a, len, cap, L, rfl, h1, h2, h3, ?_⟩
  obtain ⟨fuel, hf⟩ := h
  rcases open_slice Try.underlying22 hf with ⟨hcs, _⟩ | ⟨a', len', cap', m, n, D, Pl, hcs, _⟩
  · simp [Value.cells] at hcs
    exact fun _ => hcs.2.2
  · simp [Value.cells] at hcs
    rintro rfl
    cases hcs.1
/-- one bound. -/
theorem open_bound_value {v : Value} {d : DataW H} {p : List MemPlace} {r : Reach} {b0 : Nat} (ho : Value.okWide Try.prog w r b0 33 v) (h : DataW.Trod enc Try.prog w base spare held 33 v d p) :
    ∃ b : Bd, v = .agg #[.bool b.av, .int .u64 (b.an : Int), .bool b.bv, .int .u64 (b.bn : Int)] ∧ b.an < 18446744073709551616 ∧ b.bn < 18446744073709551616 := by
  obtain ⟨cs, rfl, hs⟩ := okWide_struct Try.underlying33 ho
  have e4 : Try.prog.cellsOf 33 = 4 := by kernel_rfl
  rw [e4] at hs
  obtain ⟨fuel, hf⟩ := h
  obtain ⟨l⟩ := cs
  match l, hs with
  | [c0, c1, c2, c3], _ =>
    obtain ⟨b, rfl, rfl, rfl, rfl, l1, l2⟩ := open_bound hf
    exact ⟨b, rfl, l1, l2⟩
end
theorem same_known (n : Nat) (L : List Bd) (b : Bd) (hok : ∀ c ∈ L ++ [b], c.ok n = true) : sameM n (reach n L) (reach n (L ++ [b])) = (!b.av || !b.bv || reach n L b.an b.bn) := by
  have hmono : ∀ i j, reach n L i j = true → reach n (L ++ [b]) i j = true := reach_mono n hok (fun c hc => List.mem_append.2 (.inl hc))
  cases hk : (!b.av || !b.bv || reach n L b.an b.bn) with
  | true =>
    refine sameM_yes fun i hi => ?_
    simp only [same, List.all_eq_true, List.mem_range]
    intro j hj
    have h2 := reach_known n b hok (by intro h1 h2; simpa [h1, h2] using hk) i j
    have h1 := hmono i j
    cases e1 : reach n L i j <;> cases e2 : reach n (L ++ [b]) i j <;> simp_all
  | false =>
    simp at hk
    obtain ⟨⟨h1, h2⟩, h3⟩ := hk
    have hb := hok b (by simp)
    simp [Bd.ok, h1, h2] at hb
    have he := reach_edge n (L ++ [b]) b (by simp) h1 h2
    refine sameM_no (k := b.an) (by omega) ?_
    cases hs : same n (reach n L b.an) (reach n (L ++ [b]) b.an) with
    | false => rfl
    | true =>
      simp only [same, List.all_eq_true, List.mem_range] at hs
      have := hs b.bn (by omega)
      rw [h3, he] at this
      simp at this
end Go.Proofs.Ytjkfmgjebemphaa
