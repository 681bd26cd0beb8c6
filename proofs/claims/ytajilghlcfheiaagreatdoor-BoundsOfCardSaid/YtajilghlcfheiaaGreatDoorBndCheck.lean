/- orders.Check. -/
import Derived.Test.YtajilghlcfheiaaGreatDoorBndBase
namespace Go.Proofs.YtajilghlcfheiaaGreatDoor.Bnd
set_option maxRecDepth 20000
open Go.RowKit Go.Proofs.YtajilghlcfheiaaGreatDoorW.PrintWords
def downs (rows : List Nat) : List Nat := (List.range rows.length).map fun j => upBits rows j rows.length
def pairs (rows : List Nat) (i j : Nat) : Bool := oneB rows (rows.getD i 0 &&& rows.getD j 0) && oneB (downs rows) ((downs rows).getD i 0 &&& (downs rows).getD j 0)
def checkR (rows : List Nat) : Nat :=
  if rows.length < 1 ∨ 64 < rows.length then 1
  else if (rows.all fun r => diff r (2 ^ rows.length - 1) == 0) = false then 1
  else if ordB rows = false then 9
  else if ((List.range rows.length).all fun i => (List.range i).all fun j => pairs rows i j) = false then 7
  else 0
theorem diff_zero {o n : Nat} (ho : o < 18446744073709551616) (hn : n ≤ 64) (h : diff o (2 ^ n - 1) = 0) : ∀ j, o.testBit j = true → j < n := by
  intro j hj
  by_cases hjn : j < n
  · exact hjn
  · exfalso
    have hj64 := high_bit ho hj
    have e : 18446744073709551615 - (2 ^ n - 1) = 2 ^ n * (2 ^ (64 - n) - 1) := by
      have h1 : 2 ^ n * 2 ^ (64 - n) = 2 ^ 64 := by rw [← Nat.pow_add]; congr 1; omega
      rw [Nat.mul_sub, h1, Nat.mul_one, show (2 : Nat) ^ 64 = 18446744073709551616 from rfl]
      have := Nat.pow_pos (a := 2) (n := n) (by omega)
      omega
    have h2 : (diff o (2 ^ n - 1)).testBit j = true := by
      unfold diff
      rw [e, Nat.testBit_and, hj, Nat.testBit_two_pow_mul, Nat.testBit_two_pow_sub_one]
      simp
      omega
    rw [h] at h2
    simp at h2
theorem downs_nums {w : World} {B n : Nat} {rows : List Nat} (hn : n = rows.length) (hmax : n ≤ 64) (h : w.rowIs B 66 n (fun j => .int .u64 ((upBits rows j n : Nat) : Int))) : Nums w (some ⟨B, 0, none⟩) (downs rows) := by
  subst hn
  refine ⟨fun x hx => ?_, fun _ => ⟨B, 0, rfl, h.lt, fun j hj => ?_⟩⟩
  · unfold downs at hx
    obtain ⟨j, _, rfl⟩ := List.mem_map.1 hx
    have h1 := upBits_lt rows j rows.length
    have h2 : 2 ^ rows.length ≤ 2 ^ 64 := Nat.pow_le_pow_right (by omega) hmax
    rw [show (2 : Nat) ^ 64 = 18446744073709551616 from rfl] at h2
    omega
  · have hj' : j < rows.length := by simpa [downs] using hj
    rw [Nat.zero_add, h.cell hj']
    simp [downs]
theorem downs_length (rows : List Nat) : (downs rows).length = rows.length := by simp [downs]
theorem downs_bits (rows : List Nat) (i : Nat) : ∀ j, ((downs rows).getD i 0).testBit j = true → j < rows.length := by
  intro j hj
  by_cases hi : i < rows.length
  · have e : (downs rows).getD i 0 = upBits rows i rows.length := by simp [downs, List.getD, hi]
    rw [e] at hj
    have h1 := upBits_lt rows i rows.length
    by_cases h : j < rows.length
    · exact h
    · exfalso
      rw [Nat.testBit_lt_two_pow (Nat.lt_of_lt_of_le h1 (Nat.pow_le_pow_right (by omega) (by omega)))] at hj
      cases hj
  · have e : (downs rows).getD i 0 = 0 := by simp [downs, List.getD, hi]
    rw [e] at hj
    simp at hj
end Go.Proofs.YtajilghlcfheiaaGreatDoor.Bnd
