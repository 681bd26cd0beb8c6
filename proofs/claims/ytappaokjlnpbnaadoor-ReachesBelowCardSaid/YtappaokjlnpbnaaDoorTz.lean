/- orders.Below, the document's Below; bits.TrailingZeros64. -/
import Derived.Test.YtappaokjlnpbnaaDoorByt
namespace Go.Proofs.YtappaokjlnpbnaaDoor
open Go.RowKit Go.Proofs.YtappaokjlnpbnaaDoorW.PrintWords
def rowB (rows : List Nat) (a b : Nat) : Bool := decide (a < rows.length) && decide (a < 64) && decide (b < rows.length) && decide (b < 64) && (rows.getD a 0).testBit b
theorem rowB_no {rows : List Nat} {a b : Nat} (h : ¬ (a < rows.length ∧ a < 64 ∧ b < rows.length ∧ b < 64)) : rowB rows a b = false := by
  unfold rowB
  by_cases h1 : a < rows.length <;> by_cases h2 : a < 64 <;> by_cases h3 : b < rows.length <;> by_cases h4 : b < 64 <;> simp [h1, h2, h3, h4] at h ⊢
theorem rowB_yes {rows : List Nat} {a b : Nat} (h1 : a < rows.length) (h2 : a < 64) (h3 : b < rows.length) (h4 : b < 64) : rowB rows a b = rows[a].testBit b := by
  unfold rowB
  simp [h1, h2, h3, h4]
theorem ret_eq {a b : Bool} (h : a = b) : Ending.returned (.bool a) = .returned (.bool b) := by rw [h]
/-- a bit, as the program asks for it. -/
theorem bit_one (r j : Nat) (hr : r < 18446744073709551616) : (bits .and .u64 ((r : Int) / 2 ^ j) 1 == 1) = r.testBit j := by
  have e : (r : Int) / 2 ^ j = ((r / 2 ^ j : Nat) : Int) := by rw [Int.natCast_ediv, Int.natCast_pow]; rfl
  have hlt : r / 2 ^ j < 18446744073709551616 := Nat.lt_of_le_of_lt (Nat.div_le_self _ _) hr
  rw [e, bit_and _ hlt, bit_is]
  cases r.testBit j <;> rfl
theorem bit_zero (r j : Nat) (hr : r < 18446744073709551616) : (bits .and .u64 ((r : Int) / 2 ^ j) 1 == 0) = !r.testBit j := by
  have e : (r : Int) / 2 ^ j = ((r / 2 ^ j : Nat) : Int) := by rw [Int.natCast_ediv, Int.natCast_pow]; rfl
  have hlt : r / 2 ^ j < 18446744073709551616 := Nat.lt_of_le_of_lt (Nat.div_le_self _ _) hr
  rw [e, bit_and _ hlt, bit_is]
  cases r.testBit j <;> rfl
end Go.Proofs.YtappaokjlnpbnaaDoor
