/- What is put is got; what is got is what was put (plain). -/
import Derived.Test.YtmfmampcgadjhaaAlive
namespace Go.Proofs.Ytmfmampcgadjhaa
theorem ofNat_toNat {x : Nat} (h : x < 256) : (UInt8.ofNat x).toNat = x := by
  rw [UInt8.toNat_ofNat']
  omega
theorem split128 (x p : Nat) : x % 128 * p + x / 128 * (p * 128) = x * p := by
  have h : x = x / 128 * 128 + x % 128 := by omega
  generalize x / 128 = q at *
  generalize x % 128 = r at *
  subst h
  rw [Nat.add_mul, Nat.add_comm, Nat.mul_assoc, Nat.mul_comm 128 p]
theorem nine : (128 : Nat) ^ 9 = 9223372036854775808 := by decide
theorem getA_numF (rest : List UInt8) : ∀ (f i a x : Nat), i + f = 9 → x * 128 ^ i < 18446744073709551616 → (0 < i → 0 < x) → getA i a (numF f x ++ rest) = (a + x * 128 ^ i, i + (numF f x).length, 0)
  | 0, i, a, x, hi, hx, h0 => by
    obtain rfl : i = 9 := by omega
    have hx1 : x ≤ 1 := by rw [nine] at hx; omega
    have hxp := h0 (by omega)
    rw [numF, List.singleton_append, getA_cons, ofNat_toNat (by omega), if_neg (by omega), if_pos (by omega)]
    simp
  | f + 1, i, a, x, hi, hx, h0 => by
    by_cases hlt : x < 128
    · rw [numF_end hlt, List.singleton_append, getA_cons, ofNat_toNat (by omega)]
      rw [if_neg (by
        rintro (⟨h, _⟩ | ⟨h, h1⟩)
        · omega
        · have := h0 h; omega), if_pos hlt]
      simp
    · have hd := Nat.div_mul_le_self x 128
      have hs := split128 x (128 ^ i)
      rw [numF_more (by omega), List.cons_append, getA_cons, ofNat_toNat (by omega), if_neg (by omega), if_neg (by omega), Nat.add_sub_cancel]
      rw [getA_numF rest f (i + 1) _ (x / 128) (by omega) (by
        rw [Nat.pow_succ]
        exact Nat.lt_of_le_of_lt (by omega) hx) (by intro _; omega)]
      rw [Nat.pow_succ, List.length_cons]
      congr 1
      · omega
      · congr 1
        omega
theorem get_num (x : Nat) (hx : x < 18446744073709551616) (rest : List UInt8) : get (num x ++ rest) = (x, (num x).length, 0) := by
  have := getA_numF rest 9 0 0 x (by omega) (by simpa using hx) (by omega)
  simpa [get, num] using this
theorem getA_back : ∀ (l : List UInt8) (i a : Nat), i ≤ 9 → (getA i a l).2.2 = 0 → ∃ x, (getA i a l).1 = a + x * 128 ^ i ∧ i < (getA i a l).2.1 ∧ l.take ((getA i a l).2.1 - i) = numF (9 - i) x ∧ (0 < i → 0 < x)
  | [], i, a, _, h => by simp [getA] at h
  | c :: l, i, a, hi, h => by
    have hc := c.toNat_lt
    rw [getA_cons] at h ⊢
    by_cases h1 : (i = 9 ∧ 1 < c.toNat) ∨ (0 < i ∧ c.toNat = 0)
    · rw [if_pos h1] at h
      simp at h
    · rw [if_neg h1] at h ⊢
      by_cases h2 : c.toNat < 128
      · rw [if_pos h2] at h ⊢
        refine ⟨c.toNat, rfl, by simp, ?_, by omega⟩
        rw [numF_end h2]
        simp
      · rw [if_neg h2] at h ⊢
        have hi9 : i ≠ 9 := by omega
        obtain ⟨x, e1, e2, e3, e4⟩ := getA_back l (i + 1) _ (by omega) h
        generalize getA (i + 1) (a + (c.toNat - 128) * 128 ^ i) l = r at e1 e2 e3
        have hx := e4 (by omega)
        refine ⟨(c.toNat - 128) + 128 * x, ?_, by omega, ?_, by omega⟩
        · rw [e1, Nat.pow_succ, Nat.add_mul, Nat.add_assoc]
          congr 2
          rw [Nat.mul_comm (128 ^ i) 128, ← Nat.mul_assoc, Nat.mul_comm x 128]
        · rw [show r.2.1 - i = (r.2.1 - (i + 1)) + 1 by omega, List.take_succ_cons, e3, show 9 - i = (9 - (i + 1)) + 1 by omega]
          rw [numF_more (by omega)]
          congr 1
          · rw [show ((c.toNat - 128) + 128 * x) % 128 + 128 = c.toNat by omega]
            simp
          · congr 1
            omega
theorem num_get {bs : List UInt8} (h : (get bs).2.2 = 0) : num (get bs).1 = bs.take (get bs).2.1 := by
  obtain ⟨x, e1, e2, e3, _⟩ := getA_back bs 0 0 (by omega) h
  unfold get num at *
  rw [e1]
  simpa using e3.symm
theorem get_num_len {bs : List UInt8} (h : (get bs).2.2 = 0) : (num (get bs).1).length = (get bs).2.1 := by
  rw [num_get h, List.length_take]
  have := (get_took h).1
  omega
/-- cut anywhere a number is too short. -/
theorem getA_cut : ∀ (f i a x k : Nat), i + f = 9 → x * 128 ^ i < 18446744073709551616 → (0 < i → 0 < x) → k < (numF f x).length → getA i a ((numF f x).take k) = (0, 0, 5)
  | 0, i, a, x, k, hi, hx, h0, hk => by
    rw [numF, List.length_singleton] at hk
    obtain rfl : k = 0 := by omega
    simp [getA]
  | f + 1, i, a, x, k, hi, hx, h0, hk => by
    by_cases hlt : x < 128
    · rw [numF_end hlt, List.length_singleton] at hk
      obtain rfl : k = 0 := by omega
      simp [getA]
    · rw [numF_more (by omega)] at hk ⊢
      cases k with
      | zero => simp [getA]
      | succ k =>
        have hd := Nat.div_mul_le_self x 128
        have hs := split128 x (128 ^ i)
        rw [List.take_succ_cons, getA_cons, ofNat_toNat (by omega), if_neg (by omega), if_neg (by omega), Nat.add_sub_cancel]
        rw [List.length_cons] at hk
        exact getA_cut f (i + 1) _ (x / 128) k (by omega) (by
          rw [Nat.pow_succ]
          exact Nat.lt_of_le_of_lt (by omega) hx) (by intro _; omega) (by omega)
theorem get_cut (x k : Nat) (hx : x < 18446744073709551616) (hk : k < (num x).length) : get ((num x).take k) = (0, 0, 5) :=
  getA_cut 9 0 0 x k (by omega) (by simpa using hx) (by omega) hk
end Go.Proofs.Ytmfmampcgadjhaa
