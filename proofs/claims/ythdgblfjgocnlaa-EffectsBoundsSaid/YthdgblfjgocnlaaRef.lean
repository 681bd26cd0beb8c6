/- The document's answers on sets of effects: their contracts; and what is alive. -/
import Derived.Test.YthdgblfjgocnlaaJoin
namespace Go.Proofs.Ythdgblfjgocnlaa
open Go.RowKit
theorem anot_test (a b i : Nat) (_ha : a < 18446744073709551616) (hb : b < 18446744073709551616) (hi : i < 64) : (anot a b).testBit i = (a.testBit i && !b.testBit i) := by
  unfold anot
  have h : 18446744073709551615 - b = 2 ^ 64 - (b + 1) := by omega
  rw [Nat.testBit_and, h, Nat.testBit_two_pow_sub_succ (by omega)]
  simp [hi]
theorem test_high {a i : Nat} (ha : a < 18446744073709551616) (hi : 64 ≤ i) : a.testBit i = false :=
  Nat.testBit_lt_two_pow (Nat.lt_of_lt_of_le ha (Nat.pow_le_pow_right (by omega) hi : 2 ^ 64 ≤ 2 ^ i))
theorem anot_high {a b i : Nat} (ha : a < 18446744073709551616) (hi : 64 ≤ i) : (anot a b).testBit i = false := by
  unfold anot
  rw [Nat.testBit_and, test_high ha hi]
  rfl
theorem anot_zero (a b : Nat) (ha : a < 18446744073709551616) (hb : b < 18446744073709551616) : (anot a b == 0) = ((a ||| b) == b) := by
  rw [Bool.eq_iff_iff, beq_iff_eq, beq_iff_eq]
  constructor
  · intro h
    apply Nat.eq_of_testBit_eq
    intro i
    by_cases hi : i < 64
    · have := anot_test a b i ha hb hi
      rw [h, Nat.zero_testBit] at this
      rw [Nat.testBit_or]
      revert this
      cases a.testBit i <;> cases b.testBit i <;> simp
    · rw [Nat.testBit_or, test_high ha (by omega)]
      simp
  · intro h
    apply Nat.eq_of_testBit_eq
    intro i
    by_cases hi : i < 64
    · rw [anot_test a b i ha hb hi, Nat.zero_testBit]
      have := congrArg (fun x => x.testBit i) h
      simp only [Nat.testBit_or] at this
      revert this
      cases a.testBit i <;> cases b.testBit i <;> simp
    · rw [anot_high ha (by omega), Nat.zero_testBit]
theorem full_step (i : Nat) : full i ||| 2 ^ i = full (i + 1) := by
  apply Nat.eq_of_testBit_eq
  intro j
  unfold full
  rw [Nat.testBit_or, Nat.testBit_two_pow_sub_one, Nat.testBit_two_pow_sub_one, Nat.testBit_two_pow]
  rw [Bool.eq_iff_iff]
  simp
  omega
theorem pow_wrap (i : Nat) (hi : i < 64) : IntKind.u64.wrap (2 ^ i) = ((2 ^ i : Nat) : Int) := by
  have h1 : 2 ^ i < 2 ^ 64 := Nat.pow_lt_pow_right (by omega) hi
  have h3 : ((2 : Int) ^ i) = ((2 ^ i : Nat) : Int) := by norm_cast
  rw [h3, IntKind.wrap_u64]
  generalize 2 ^ i = y at *
  omega
theorem full_or (i : Nat) (hi : i < 64) : bits .or .u64 ((full i : Nat) : Int) (IntKind.u64.wrap (2 ^ i)) = ((full (i + 1) : Nat) : Int) := by
  have h1 : 2 ^ i < 2 ^ 64 := Nat.pow_lt_pow_right (by omega) hi
  rw [pow_wrap i hi, or_bits _ _ (full_lt i (by omega)) (by simpa using h1), full_step]
set_option maxHeartbeats 1000000 in
theorem rtop_any (n : Nat) (hn : n ≤ 64) (w : World) : Calls Try.prog 19 #[.int .i64 (n : Int)] w fun e w' => e = .returned (.int .u64 ((full n : Nat) : Int)) ∧ w = w' := by
  go_enter Try.func19, Try.ntmps19
  go_wp2
  go_loop [3, 4] (fun s i => ∃ k : Nat, k ≤ n ∧ s = .int .u64 ((full k : Nat) : Int) ∧ i = .int .i64 k) (fun _ i => n - (intOf i).toNat)
  case atStart => exact ⟨0, by omega, rfl, rfl⟩
  case round =>
    obtain ⟨k, hk, rfl, rfl⟩ := hrel
    by_cases hlt : k < n
    · have hor := full_or k (by omega)
      have hm := Nat.min_eq_left (show k ≤ 64 by omega)
      have hlt' : decide ((k : Int) < (n : Int)) = true := by simpa using hlt
      have hf := Lib.hid (rfl : full (k + 1) = full (k + 1))
      have hy : ∃ y, y = full (k + 1) := ⟨_, rfl⟩
      obtain ⟨y, hy⟩ := hy
      rw [← hy] at hor
      have HY := Lib.hid hy
      clear hy hf
      generalize full k = x at hor
      go_wp2
      go_round
      case rel => exact ⟨k + 1, by omega, by rw [← HY.out], by go_num⟩
      case measure => simp [intOf]; omega
    · obtain rfl : k = n := by omega
      go_wp2
      go_ret
      exact ⟨rfl, rfl⟩
theorem is_bits (t a : Nat) (ht : t < 18446744073709551616) (ha : a < 18446744073709551616) : (bits .or .u64 (a : Int) (t : Int) == (t : Int)) = has t a := by
  rw [or_bits a t ha ht]
  unfold has
  rw [anot_zero a t ha ht, Bool.eq_iff_iff, beq_iff_eq, beq_iff_eq]
  omega
set_option maxHeartbeats 1000000 in
theorem rhas_any (n a : Nat) (hn : n ≤ 64) (ha : a < 18446744073709551616) (w : World) : Calls Try.prog 14 #[.int .i64 (n : Int), .int .u64 (a : Int)] w fun e w' => e = .returned (.bool (hasM (some (full n)) a)) ∧ w = w' := by
  have HT := Lib.hid (rtop_any n hn w)
  have hb := is_bits (full n) a (full_lt n hn) ha
  unfold hasM
  show Calls _ _ _ _ fun e w' => e = .returned (.bool (has (full n) a)) ∧ w = w'
  rw [← hb]
  generalize full n = t at HT ⊢
  clear hn ha
  go_enter Try.func14, Try.ntmps14
  go_wp2_with fail
  refine HT.out.mono ?_
  rintro e w' ⟨rfl, rfl⟩
  go_wp2_with fail
  refine HT.out.mono ?_
  rintro e w' ⟨rfl, rfl⟩
  go_wp2
  go_ret
  exact ⟨rfl, rfl⟩
set_option maxHeartbeats 1000000 in
theorem rbelow_any (n a b : Nat) (hn : n ≤ 64) (ha : a < 18446744073709551616) (hb : b < 18446744073709551616) (w : World) : Calls Try.prog 15 #[.int .i64 (n : Int), .int .u64 (a : Int), .int .u64 (b : Int)] w fun e w' => e = .returned (.bool (belowM (some (full n)) a b)) ∧ w = w' := by
  have HA := Lib.hid (rhas_any n a hn ha w)
  have HB := Lib.hid (rhas_any n b hn hb w)
  have hq := is_bits b a hb ha
  unfold belowM
  unfold has at hq
  generalize (anot a b == 0) = q at hq ⊢
  generalize hasM (some (full n)) a = r at HA ⊢
  generalize hasM (some (full n)) b = s at HB ⊢
  clear hn ha hb
  cases r with
  | false =>
    go_enter Try.func15, Try.ntmps15
    go_wp2_with fail
    refine HA.out.mono ?_
    rintro e w' ⟨rfl, rfl⟩
    go_wp2
    go_ret
    exact ⟨ret_bool (by simp), rfl⟩
  | true =>
    cases s with
    | false =>
      go_enter Try.func15, Try.ntmps15
      go_wp2_with fail
      refine HA.out.mono ?_
      rintro e w' ⟨rfl, rfl⟩
      go_wp2_with fail
      refine HB.out.mono ?_
      rintro e w' ⟨rfl, rfl⟩
      go_wp2
      go_ret
      exact ⟨ret_bool (by simp), rfl⟩
    | true =>
      go_enter Try.func15, Try.ntmps15
      go_wp2_with fail
      refine HA.out.mono ?_
      rintro e w' ⟨rfl, rfl⟩
      go_wp2_with fail
      refine HB.out.mono ?_
      rintro e w' ⟨rfl, rfl⟩
      go_wp2
      go_ret
      exact ⟨ret_bool (by cases q <;> rfl), rfl⟩
set_option maxHeartbeats 1000000 in
theorem rjoin_any (n a b : Nat) (hn : n ≤ 64) (ha : a < 18446744073709551616) (hb : b < 18446744073709551616) (w : World) : Calls Try.prog 16 #[.int .i64 (n : Int), .int .u64 (a : Int), .int .u64 (b : Int)] w fun e w' => e = .returned (.int .u64 ((joinM (some (full n)) a b : Nat) : Int)) ∧ w = w' := by
  have HA := Lib.hid (rhas_any n a hn ha w)
  have HB := Lib.hid (rhas_any n b hn hb w)
  have hq := or_bits a b ha hb
  unfold joinM
  generalize (a ||| b) = q at hq ⊢
  generalize hasM (some (full n)) a = r at HA ⊢
  generalize hasM (some (full n)) b = s at HB ⊢
  clear hn ha hb
  cases r with
  | false =>
    go_enter Try.func16, Try.ntmps16
    go_wp2_with fail
    refine HA.out.mono ?_
    rintro e w' ⟨rfl, rfl⟩
    go_wp2
    go_ret
    exact ⟨ret_u64 (by simp), rfl⟩
  | true =>
    cases s with
    | false =>
      go_enter Try.func16, Try.ntmps16
      go_wp2_with fail
      refine HA.out.mono ?_
      rintro e w' ⟨rfl, rfl⟩
      go_wp2_with fail
      refine HB.out.mono ?_
      rintro e w' ⟨rfl, rfl⟩
      go_wp2
      go_ret
      exact ⟨ret_u64 (by simp), rfl⟩
    | true =>
      go_enter Try.func16, Try.ntmps16
      go_wp2_with fail
      refine HA.out.mono ?_
      rintro e w' ⟨rfl, rfl⟩
      go_wp2_with fail
      refine HB.out.mono ?_
      rintro e w' ⟨rfl, rfl⟩
      go_wp2
      go_ret
      exact ⟨ret_u64 (by simp), rfl⟩
set_option maxHeartbeats 1000000 in
theorem rmeet_any (n a b : Nat) (hn : n ≤ 64) (ha : a < 18446744073709551616) (hb : b < 18446744073709551616) (w : World) : Calls Try.prog 17 #[.int .i64 (n : Int), .int .u64 (a : Int), .int .u64 (b : Int)] w fun e w' => e = .returned (.int .u64 ((meetM (some (full n)) a b : Nat) : Int)) ∧ w = w' := by
  have HA := Lib.hid (rhas_any n a hn ha w)
  have HB := Lib.hid (rhas_any n b hn hb w)
  have hq := and_bits a b ha hb
  unfold meetM
  generalize (a &&& b) = q at hq ⊢
  generalize hasM (some (full n)) a = r at HA ⊢
  generalize hasM (some (full n)) b = s at HB ⊢
  clear hn ha hb
  cases r with
  | false =>
    go_enter Try.func17, Try.ntmps17
    go_wp2_with fail
    refine HA.out.mono ?_
    rintro e w' ⟨rfl, rfl⟩
    go_wp2
    go_ret
    exact ⟨ret_u64 (by simp), rfl⟩
  | true =>
    cases s with
    | false =>
      go_enter Try.func17, Try.ntmps17
      go_wp2_with fail
      refine HA.out.mono ?_
      rintro e w' ⟨rfl, rfl⟩
      go_wp2_with fail
      refine HB.out.mono ?_
      rintro e w' ⟨rfl, rfl⟩
      go_wp2
      go_ret
      exact ⟨ret_u64 (by simp), rfl⟩
    | true =>
      go_enter Try.func17, Try.ntmps17
      go_wp2_with fail
      refine HA.out.mono ?_
      rintro e w' ⟨rfl, rfl⟩
      go_wp2_with fail
      refine HB.out.mono ?_
      rintro e w' ⟨rfl, rfl⟩
      go_wp2
      go_ret
      exact ⟨ret_u64 (by simp), rfl⟩
/-- one call's world behind another one's. -/
theorem on {a b c : World} (h : Below a.heap.size a b) (k : Below b.heap.size b c) : Below a.heap.size a c := h.trans (k.mono h.size)
theorem nat_of_u64 {a : Int} (h : (Lit.int .u64 a).wf = true) : ∃ x : Nat, a = (x : Int) ∧ x < 18446744073709551616 := by
  simp [Lit.wf, IntKind.min, IntKind.max, IntKind.signed, IntKind.bits] at h
  exact ⟨a.toNat, by omega, by omega⟩
set_option maxHeartbeats 4000000 in
theorem alive_any (w : World) : Calls Try.prog 9 #[] w fun e w' => e = .returned (.bool true) ∧ Below w.heap.size w w' := by
  go_enter Try.func9, Try.ntmps9
  go_wp2_with fail
  refine (new_yes 2 (by omega) _).mono ?_
  rintro e w1 ⟨rfl, hw1⟩
  have HX1 := Lib.hid (show St w1 (some ⟨w.heap.size, 0, none⟩) (some (full 2)) by subst hw1; exact new_st 2 (by omega) w)
  have HB1 := Lib.hid (show Below w.heap.size w w1 by subst hw1; exact (Below.refl _ w).alloc (Nat.le_refl _) _)
  clear hw1
  go_wp2_with fail
  refine (new_yes 0 (by omega) _).mono ?_
  rintro e w2 ⟨rfl, hw2⟩
  have HO2 := Lib.hid (show St w2 (some ⟨w1.heap.size, 0, none⟩) (some (full 0)) by subst hw2; exact new_st 0 (by omega) w1)
  have hb2 : Below w1.heap.size w1 w2 := by subst hw2; exact (Below.refl _ w1).alloc (Nat.le_refl _) _
  have HX2 := Lib.hid (HX1.out.below hb2)
  have HB2 := Lib.hid (on HB1.out hb2)
  clear hw2 hb2 HX1 HB1
  go_wp2_with fail
  refine (new_no 65 (.inr (by omega)) _).mono ?_
  rintro e w3 ⟨rfl, hb3⟩
  have HX3 := Lib.hid (HX2.out.below hb3)
  have HO3 := Lib.hid (HO2.out.below hb3)
  have HB3 := Lib.hid (on HB2.out hb3)
  clear hb3 HB2 HX2 HO2
  go_wp2_with fail
  refine (new_no (-1) (.inl (by omega)) _).mono ?_
  rintro e w4 ⟨rfl, hb4⟩
  have HX4 := Lib.hid (HX3.out.below hb4)
  have HO4 := Lib.hid (HO3.out.below hb4)
  have HB4 := Lib.hid (on HB3.out hb4)
  clear hb4 HB3 HX3 HO3
  go_wp2_with fail
  refine (has_any _ _ 3 (by omega) _ HX4.out).mono ?_
  rintro e w5 ⟨rfl, hb5⟩
  have HX5 := Lib.hid (HX4.out.below hb5)
  have HO5 := Lib.hid (HO4.out.below hb5)
  have HB5 := Lib.hid (on HB4.out hb5)
  clear hb5 HB4 HX4 HO4
  go_wp2_with fail
  refine (has_any _ _ 4 (by omega) _ HX5.out).mono ?_
  rintro e w6 ⟨rfl, hb6⟩
  have HX6 := Lib.hid (HX5.out.below hb6)
  have HO6 := Lib.hid (HO5.out.below hb6)
  have HB6 := Lib.hid (on HB5.out hb6)
  clear hb6 HB5 HX5 HO5
  go_wp2_with fail
  refine (below_any _ _ 1 3 (by omega) (by omega) _ HX6.out).mono ?_
  rintro e w7 ⟨rfl, hb7⟩
  have HX7 := Lib.hid (HX6.out.below hb7)
  have HO7 := Lib.hid (HO6.out.below hb7)
  have HB7 := Lib.hid (on HB6.out hb7)
  clear hb7 HB6 HX6 HO6
  go_wp2_with fail
  refine (below_any _ _ 2 1 (by omega) (by omega) _ HX7.out).mono ?_
  rintro e w8 ⟨rfl, hb8⟩
  have HX8 := Lib.hid (HX7.out.below hb8)
  have HO8 := Lib.hid (HO7.out.below hb8)
  have HB8 := Lib.hid (on HB7.out hb8)
  clear hb8 HB7 HX7 HO7
  go_wp2_with fail
  refine (join_any _ _ 1 2 (by omega) (by omega) _ HX8.out).mono ?_
  rintro e w9 ⟨rfl, hb9⟩
  have HX9 := Lib.hid (HX8.out.below hb9)
  have HO9 := Lib.hid (HO8.out.below hb9)
  have HB9 := Lib.hid (on HB8.out hb9)
  clear hb9 HB8 HX8 HO8
  go_wp2_with fail
  refine (meet_any _ _ 3 2 (by omega) (by omega) _ HX9.out).mono ?_
  rintro e w10 ⟨rfl, hb10⟩
  have HX10 := Lib.hid (HX9.out.below hb10)
  have HO10 := Lib.hid (HO9.out.below hb10)
  have HB10 := Lib.hid (on HB9.out hb10)
  clear hb10 HB9 HX9 HO9
  go_wp2_with fail
  refine (top_any _ _ _ HX10.out).mono ?_
  rintro e w' ⟨rfl, rfl⟩
  go_wp2_with fail
  refine (join_any _ _ 1 4 (by omega) (by omega) _ HX10.out).mono ?_
  rintro e w11 ⟨rfl, hb11⟩
  have HX11 := Lib.hid (HX10.out.below hb11)
  have HO11 := Lib.hid (HO10.out.below hb11)
  have HB11 := Lib.hid (on HB10.out hb11)
  clear hb11 HB10 HX10 HO10
  go_wp2_with fail
  refine (top_any _ _ _ HO11.out).mono ?_
  rintro e w' ⟨rfl, rfl⟩
  go_wp2_with fail
  refine (has_any _ _ 0 (by omega) _ HO11.out).mono ?_
  rintro e w12 ⟨rfl, hb12⟩
  have HX12 := Lib.hid (HX11.out.below hb12)
  have HO12 := Lib.hid (HO11.out.below hb12)
  have HB12 := Lib.hid (on HB11.out hb12)
  clear hb12 HB11 HX11 HO11
  go_wp2
  go_ret
  exact ⟨rfl, HB12.out⟩
end Go.Proofs.Ythdgblfjgocnlaa
