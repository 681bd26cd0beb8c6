/- orders.one, orders.all. -/
import Derived.Test.YtappaokjlnpbnaaDoorRefB
namespace Go.Proofs.YtappaokjlnpbnaaDoor
open Go.RowKit Go.Proofs.YtappaokjlnpbnaaDoorW.PrintWords
theorem clear_low (x : Nat) (h0 : x ≠ 0) (hx : x < 18446744073709551616) : Lib.ctz 64 x < 64 ∧ x.testBit (Lib.ctz 64 x) = true ∧ (∀ j, (x &&& (x - 1)).testBit j = (x.testBit j && decide (j ≠ Lib.ctz 64 x))) ∧ x &&& (x - 1) < x := by
  obtain ⟨m, hm, hk⟩ := Lib.ctzFrom_spec 64 x (by omega) (by rw [show (2 : Nat) ^ 64 = 18446744073709551616 from rfl]; exact hx)
  have e : Lib.ctz 64 x = Lib.ctzFrom 64 x := by simp [Lib.ctz, h0]
  rw [e]
  generalize Lib.ctzFrom 64 x = k at hm hk
  have hbit : ∀ j, x.testBit j = (decide (k ≤ j) && (2 * m + 1).testBit (j - k)) := fun j => by rw [hm, Nat.testBit_two_pow_mul]
  have hp : 0 < 2 ^ k := Nat.pow_pos (by omega)
  have hx1 : x - 1 = 2 ^ k * (2 * m) + (2 ^ k - 1) := by rw [hm, Nat.mul_add, Nat.mul_one]; omega
  have hbit1 : ∀ j, (x - 1).testBit j = if j < k then true else (2 * m).testBit (j - k) := fun j => by
    rw [hx1, Nat.testBit_two_pow_mul_add _ (by omega)]
    split
    · rw [Nat.testBit_two_pow_sub_one]; simpa
    · rfl
  refine ⟨hk, ?_, fun j => ?_, ?_⟩
  · rw [hbit]
    simp
  · rw [Nat.testBit_and, hbit, hbit1]
    by_cases hj : j < k
    · simp [hj, show ¬ k ≤ j by omega]
    · by_cases hjk : j = k
      · subst hjk
        simp
      · obtain ⟨i, rfl⟩ : ∃ i, j = k + (i + 1) := ⟨j - k - 1, by omega⟩
        have e1 : k + (i + 1) - k = i + 1 := by omega
        rw [e1, if_neg (by omega), Nat.testBit_succ, Nat.testBit_succ]
        have e2 : (2 * m + 1) / 2 = m := by omega
        have e3 : 2 * m / 2 = m := by omega
        rw [e2, e3]
        simp
  · have := Nat.and_le_right (n := x) (m := x - 1)
    omega
def oneB (rows : List Nat) (s : Nat) : Bool := (List.range 64).any fun j => s.testBit j && (rows.getD j 0 &&& s == s)
theorem high_bit {x j : Nat} (hx : x < 18446744073709551616) (h : x.testBit j = true) : j < 64 := by
  by_cases hj : j < 64
  · exact hj
  · exfalso
    have h2 : x < 2 ^ j := Nat.lt_of_lt_of_le hx (by rw [show 18446744073709551616 = 2 ^ 64 from rfl]; exact Nat.pow_le_pow_right (by omega) (by omega))
    rw [Nat.testBit_lt_two_pow h2] at h
    cases h
theorem and_nat (x y : Nat) (hx : x < 18446744073709551616) (hy : y < 18446744073709551616) : bits .and .u64 (x : Int) (y : Int) = ((x &&& y : Nat) : Int) := u64_and_nat x y hx hy
set_option maxRecDepth 20000 in
set_option maxHeartbeats 1000000 in
theorem one_any (A : Option Addr) (n c : Nat) (rows : List Nat) (hn : n = rows.length) (hmax : n ≤ 9223372036854775807) (s : Nat) (hs : s < 18446744073709551616) (hsn : ∀ j, s.testBit j = true → j < n) (w : World) (hI : Nums w A rows) (hT : Tab w) : Calls Tryd.prog 74 #[.int .u64 (s : Int), .slice A n c] w fun e w' => e = .returned (.bool (oneB rows s)) ∧ w = w' := by
  have HI := Lib.hid hI
  have HT := Lib.hid hT
  have HN := Lib.hid hn
  have HSN := Lib.hid hsn
  clear hI hT hn hsn
  go_enter Tryd.func74, Tryd.ntmps74
  go_wp2
  go_loop [5] (fun v => ∃ x : Nat, v = .int .u64 x ∧ x < 18446744073709551616 ∧ Hid (∀ j, x.testBit j = true → s.testBit j = true) ∧ Hid (∀ j, s.testBit j = true → x.testBit j = true ∨ (rows.getD j 0 &&& s) ≠ s)) (fun v => (intOf v).toNat)
  case atStart => exact ⟨s, rfl, hs, fun _ h => h, fun _ h => .inl h⟩
  case round =>
    obtain ⟨x, rfl, hx, H1, H2⟩ := hrel
    by_cases h0 : x = 0
    · subst h0
      have HR := Lib.hid (show oneB rows s = false by
        unfold oneB
        rw [List.any_eq_false]
        intro j _
        simp only [Bool.and_eq_true, beq_iff_eq, not_and]
        intro hj
        rcases H2.out j hj with h | h
        · simp at h
        · exact h)
      go_wp2
      go_ret
      exact ⟨ret_eq HR.out.symm, rfl⟩
    · have d1 : ((x : Int) != 0) = true := by simp; omega
      obtain ⟨k1, k2, k3, k4⟩ := clear_low x h0 hx
      have HZ := Lib.hid (tz_any x h0 hx w HT.out)
      generalize Lib.ctz 64 x = k at k1 k2 k3 HZ
      have hsk := H1.out k k2
      have hkn := HSN.out k hsk
      obtain ⟨b, off, rfl, _, hc⟩ := HI.out.2 (by have := HN.out; omega)
      have hkl : k < rows.length := by have := HN.out; omega
      have hck := hc k hkl
      have hr := HI.out.1 rows[k] (List.getElem_mem hkl)
      have hgd : rows.getD k 0 = rows[k] := by simp [List.getD, hkl]
      generalize rows[k] = r at hck hr hgd
      have ha := and_nat r s hr hs
      have ha2 := and_nat x (x - 1) hx (by omega)
      have hsub : (x : Int) - 1 = ((x - 1 : Nat) : Int) := by omega
      rw [← hsub] at ha2
      have i1 : (0 : Int) ≤ (k : Int) := by omega
      have i2 : (k : Int) < (n : Int) := by omega
      have hle : x &&& (x - 1) < 18446744073709551616 := by omega
      have hx1 : 1 ≤ x := by omega
      by_cases hrs : r &&& s = s
      · have d2 : (((r &&& s : Nat) : Int) == (s : Int)) = true := by rw [hrs]; simp
        have HR := Lib.hid (show oneB rows s = true by
          unfold oneB
          rw [List.any_eq_true]
          exact ⟨k, List.mem_range.2 k1, by rw [hsk, hgd, hrs]; simp⟩)
        rw [hrs] at ha
        clear hc d2 hrs k3 k4 hle hsub ha2
        go_wp2_with fail
        refine HZ.out.mono ?_
        rintro e w1 ⟨rfl, rfl⟩
        go_wp2
        go_ret
        exact ⟨ret_eq HR.out.symm, rfl⟩
      · have HX1 := Lib.hid (show ∀ j, (x &&& (x - 1)).testBit j = true → s.testBit j = true from fun j hj => by
          rw [k3, Bool.and_eq_true] at hj
          exact H1.out j hj.1)
        have HX2 := Lib.hid (show ∀ j, s.testBit j = true → (x &&& (x - 1)).testBit j = true ∨ (rows.getD j 0 &&& s) ≠ s from fun j hj => by
          by_cases hjk : j = k
          · subst hjk
            right
            rw [hgd]
            exact hrs
          · rcases H2.out j hj with h | h
            · left
              rw [k3, h]
              simpa using hjk
            · exact .inr h)
        have d2 : (((r &&& s : Nat) : Int) == (s : Int)) = false := by rw [beq_eq_false_iff_ne]; omega
        generalize r &&& s = rs at *
        have HK4 := Lib.hid k4
        clear hc hrs k3 hsub k4
        generalize x &&& (x - 1) = y at *
        go_wp2_with fail
        refine HZ.out.mono ?_
        rintro e w1 ⟨rfl, rfl⟩
        go_wp2
        go_round
        case rel => exact ⟨y, by rfl, hle, HX1, HX2⟩
        case measure => have := HK4.out; simp [intOf]; omega
end Go.Proofs.YtappaokjlnpbnaaDoor
