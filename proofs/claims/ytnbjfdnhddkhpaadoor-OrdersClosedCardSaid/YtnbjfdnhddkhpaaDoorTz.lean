/- orders.Below, the document's Below; bits.TrailingZeros64. -/
import Derived.Test.YtnbjfdnhddkhpaaDoorByt
namespace Go.Proofs.YtnbjfdnhddkhpaaDoor
open Go.RowKit Go.Proofs.YtnbjfdnhddkhpaaDoorW.PrintWords
def rowB (rows : List Nat) (a b : Nat) : Bool := decide (a < rows.length) && decide (a < 64) && decide (b < rows.length) && decide (b < 64) && (rows.getD a 0).testBit b
theorem rowB_no {rows : List Nat} {a b : Nat} (h : ¬ (a < rows.length ∧ a < 64 ∧ b < rows.length ∧ b < 64)) : rowB rows a b = false := by
  unfold rowB
  by_cases h1 : a < rows.length <;> by_cases h2 : a < 64 <;> by_cases h3 : b < rows.length <;> by_cases h4 : b < 64 <;> simp [h1, h2, h3, h4] at h ⊢
theorem rowB_yes {rows : List Nat} {a b : Nat} (h1 : a < rows.length) (h2 : a < 64) (h3 : b < rows.length) (h4 : b < 64) : rowB rows a b = rows[a].testBit b := by
  unfold rowB
  simp [h1, h2, h3, h4]
theorem ret_eq {a b : Bool} (h : a = b) : Ending.returned (.bool a) = .returned (.bool b) := by rw [h]
/-- a bit, as the program asks for it. -/
theorem bit_one (r j : Nat) (hr : r < 18446744073709551616) : (bits .and .u64 ((r : Int) / 2 ^ j) 1 == 1) = r.testBit j := by
  have e : (r : Int) / 2 ^ j = ((r / 2 ^ j : Nat) : Int) := by rw [Int.natCast_ediv, Int.natCast_pow]; rfl
  have hlt : r / 2 ^ j < 18446744073709551616 := Nat.lt_of_le_of_lt (Nat.div_le_self _ _) hr
  rw [e, bit_and _ hlt, bit_is]
  cases r.testBit j <;> rfl
theorem bit_zero (r j : Nat) (hr : r < 18446744073709551616) : (bits .and .u64 ((r : Int) / 2 ^ j) 1 == 0) = !r.testBit j := by
  have e : (r : Int) / 2 ^ j = ((r / 2 ^ j : Nat) : Int) := by rw [Int.natCast_ediv, Int.natCast_pow]; rfl
  have hlt : r / 2 ^ j < 18446744073709551616 := Nat.lt_of_le_of_lt (Nat.div_le_self _ _) hr
  rw [e, bit_and _ hlt, bit_is]
  cases r.testBit j <;> rfl
set_option maxRecDepth 20000 in
set_option maxHeartbeats 1000000 in
theorem below_any (A : Option Addr) (n c : Nat) (rows : List Nat) (hn : n = rows.length) (hmax : n ≤ 9223372036854775807) (a b : Nat) (ha : a < 18446744073709551616) (hb : b < 18446744073709551616) (w : World) (hI : Nums w A rows) : Calls Tryd.prog 10 #[.slice A n c, .int .u64 (a : Int), .int .u64 (b : Int)] w fun e w' => e = .returned (.bool (rowB rows a b)) ∧ w = w' := by
  by_cases h : a < n ∧ a < 64 ∧ b < n ∧ b < 64
  · obtain ⟨h1, h2, h3, h4⟩ := h
    obtain ⟨bb, off, rfl, _, hc⟩ := hI.2 (by omega)
    have hck := hc a (by omega)
    have hr := hI.1 rows[a] (List.getElem_mem (by omega))
    have HR := Lib.hid (rowB_yes (rows := rows) (a := a) (b := b) (by omega) h2 (by omega) h4)
    generalize rows[a] = r at hck hr HR
    have HB := Lib.hid (bit_one r b hr)
    have i1 : (0 : Int) ≤ (a : Int) := by omega
    have i2 : (a : Int) < (n : Int) := by omega
    have d1 : decide ((a : Int) < (n : Int)) = true := by simp; omega
    have d2 : decide ((b : Int) < (n : Int)) = true := by simp; omega
    have d3 : decide ((a : Int) < 64) = true := by simp; omega
    have d4 : decide ((b : Int) < 64) = true := by simp; omega
    have d5 : decide (a < n) = true := by simp; omega
    have d6 : decide (b < n) = true := by simp; omega
    clear hc hn hI
    go_enter Tryd.func10, Tryd.ntmps10
    go_wp2
    all_goals
      go_ret
      exact ⟨ret_eq (by rw [HR.out, ← HB.out]), rfl⟩
  · have HR := Lib.hid (rowB_no (rows := rows) (a := a) (b := b) (by rw [← hn]; exact h))
    have HN := Lib.hid hn
    clear hI hn HN
    obtain ⟨p1, hp1⟩ : ∃ p, decide (a < n) = p := ⟨_, rfl⟩
    obtain ⟨p2, hp2⟩ : ∃ p, decide (a < 64) = p := ⟨_, rfl⟩
    obtain ⟨p3, hp3⟩ : ∃ p, decide (b < n) = p := ⟨_, rfl⟩
    obtain ⟨p4, hp4⟩ : ∃ p, decide (b < 64) = p := ⟨_, rfl⟩
    have e1 : decide ((a : Int) < (n : Int)) = p1 := by rw [← hp1]; simp
    have e2 : decide ((a : Int) < 64) = p2 := by rw [← hp2, decide_eq_decide]; omega
    have e3 : decide ((b : Int) < (n : Int)) = p3 := by rw [← hp3]; simp
    have e4 : decide ((b : Int) < 64) = p4 := by rw [← hp4, decide_eq_decide]; omega
    have hno : (p1 && p2 && p3 && p4) = false := by
      rw [← hp1, ← hp2, ← hp3, ← hp4]
      simp only [← Bool.decide_and, decide_eq_false_iff_not]
      rintro ⟨⟨⟨q1, q2⟩, q3⟩, q4⟩
      exact h ⟨q1, q2, q3, q4⟩
    have HNO := Lib.hid hno
    have HLE := Lib.hid (show (n ≤ 64 → p1 = true → p2 = true) ∧ (n ≤ 64 → p3 = true → p4 = true) ∧ (64 ≤ n → p2 = true → p1 = true) ∧ (64 ≤ n → p4 = true → p3 = true) by
      rw [← hp1, ← hp2, ← hp3, ← hp4]
      simp only [decide_eq_true_eq]
      omega)
    clear h hno
    by_cases h64 : n ≤ 64
    · cases p1 <;> cases p3
      all_goals first
        | (exfalso
           have h1 := HLE.out.1 h64 rfl
           have h2 := HLE.out.2.1 h64 rfl
           subst h1
           subst h2
           have := HNO.out
           simp at this
           done)
        | (go_enter Tryd.func10, Tryd.ntmps10
           go_wp2
           all_goals
             go_ret
             exact ⟨ret_eq HR.out.symm, rfl⟩)
    · cases p2 <;> cases p4
      all_goals first
        | (exfalso
           have h1 := HLE.out.2.2.1 (by omega) rfl
           have h2 := HLE.out.2.2.2 (by omega) rfl
           subst h1
           subst h2
           have := HNO.out
           simp at this
           done)
        | (go_enter Tryd.func10, Tryd.ntmps10
           go_wp2
           all_goals
             go_ret
             exact ⟨ret_eq HR.out.symm, rfl⟩)
end Go.Proofs.YtnbjfdnhddkhpaaDoor
