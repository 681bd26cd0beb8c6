/- A number's bits, put one behind the other. -/
import Derived.Test.YtmfmampcgadjhaaByt
namespace Go.Proofs.Ytmfmampcgadjhaa
open Go.RowKit
theorem pow7 (k : Nat) : 128 ^ k = 2 ^ (7 * k) := by rw [Nat.pow_mul]
theorem pow_le9 {k : Nat} (hk : k ≤ 9) : 128 ^ k ≤ 9223372036854775808 := by
  have h : 128 ^ k ≤ 128 ^ 9 := Nat.pow_le_pow_right (by omega) hk
  have e : (128 : Nat) ^ 9 = 9223372036854775808 := by decide
  omega
theorem or_sum {a c k : Nat} (ha : a < 128 ^ k) : a ||| c * 128 ^ k = a + c * 128 ^ k := by
  rw [pow7] at ha ⊢
  rw [Nat.or_comm, Nat.mul_comm, ← Nat.two_pow_add_eq_or_of_lt ha, Nat.add_comm]
theorem mul_lt9 {c k : Nat} (hc : c < 128) (hk : k ≤ 8) : c * 128 ^ k < 9223372036854775808 := by
  have h1 : c * 128 ^ k < 128 * 128 ^ k := Nat.mul_lt_mul_of_pos_right hc (Nat.pow_pos (by omega))
  have h2 : 128 * 128 ^ k = 128 ^ (k + 1) := by rw [Nat.pow_succ, Nat.mul_comm]
  have := pow_le9 (k := k + 1) (by omega)
  omega
theorem or_nat {a c k : Nat} (ha : a < 128 ^ k) (hk : k ≤ 9) (hm : c * 128 ^ k < 18446744073709551616) : bits .or .u64 (a : Int) ((c * 128 ^ k : Nat) : Int) = ((a + c * 128 ^ k : Nat) : Int) := by
  have h9 := pow_le9 hk
  rw [u64_or_nat a (c * 128 ^ k) (by omega) hm, or_sum ha]
theorem cast_mul (c k : Nat) : (c : Int) * 2 ^ (7 * k) = ((c * 128 ^ k : Nat) : Int) := by rw [pow7]; push_cast; rfl
theorem wrap_nat {x : Nat} (h : x < 18446744073709551616) : IntKind.u64.wrap (x : Int) = (x : Int) := by rw [IntKind.wrap_u64]; omega
theorem or_end {a c k : Nat} (ha : a < 128 ^ k) (hc : c < 128) (hk : k ≤ 8) : bits .or .u64 (a : Int) (IntKind.u64.wrap ((c : Int) * 2 ^ (7 * k))) = ((a + c * 128 ^ k : Nat) : Int) := by
  have := mul_lt9 hc hk
  rw [cast_mul, wrap_nat (by omega), or_nat ha (by omega) (by omega)]
theorem or_nine {a : Nat} (ha : a < 128 ^ 9) : bits .or .u64 (a : Int) 9223372036854775808 = ((a + 1 * 128 ^ 9 : Nat) : Int) := or_nat (c := 1) (k := 9) ha (by omega) (by decide)
theorem and_not (c : Nat) (h : 128 ≤ c) (h2 : c < 256) : bits .andNot .u8 (c : Int) 128 = ((c - 128 : Nat) : Int) := by
  have H : ∀ x : Fin 256, 128 ≤ x.val → bits .andNot .u8 ((x.val : Nat) : Int) 128 = ((x.val - 128 : Nat) : Int) := by decide +kernel
  exact H ⟨c, h2⟩ h
theorem or_more {a c k : Nat} (ha : a < 128 ^ k) (h : 128 ≤ c) (h2 : c < 256) (hk : k ≤ 8) : bits .or .u64 (a : Int) (IntKind.u64.wrap (IntKind.u64.wrap (bits .andNot .u8 (c : Int) 128) * 2 ^ (7 * k))) = ((a + (c - 128) * 128 ^ k : Nat) : Int) := by
  rw [and_not c h h2, wrap_nat (by omega)]
  exact or_end ha (by omega) hk
theorem more_lt {a c k : Nat} (ha : a < 128 ^ k) (hc : c < 128) : a + c * 128 ^ k < 128 ^ (k + 1) := by
  have h1 : c * 128 ^ k ≤ 127 * 128 ^ k := Nat.mul_le_mul_right _ (by omega)
  rw [Nat.pow_succ]
  omega
end Go.Proofs.Ytmfmampcgadjhaa
