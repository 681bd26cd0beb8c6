/- The document's answers on sets of effects: their contracts; and what is alive. -/
import Derived.Test.YtappaokjlnpbnaaDoorEffJoin
namespace Go.Proofs.YtappaokjlnpbnaaDoor.Eff
open Go.RowKit
theorem anot_test (a b i : Nat) (_ha : a < 18446744073709551616) (hb : b < 18446744073709551616) (hi : i < 64) : (anot a b).testBit i = (a.testBit i && !b.testBit i) := by
  unfold anot
  have h : 18446744073709551615 - b = 2 ^ 64 - (b + 1) := by omega
  rw [Nat.testBit_and, h, Nat.testBit_two_pow_sub_succ (by omega)]
  simp [hi]
theorem test_high {a i : Nat} (ha : a < 18446744073709551616) (hi : 64 ≤ i) : a.testBit i = false :=
  Nat.testBit_lt_two_pow (Nat.lt_of_lt_of_le ha (Nat.pow_le_pow_right (by omega) hi : 2 ^ 64 ≤ 2 ^ i))
theorem anot_high {a b i : Nat} (ha : a < 18446744073709551616) (hi : 64 ≤ i) : (anot a b).testBit i = false := by
  unfold anot
  rw [Nat.testBit_and, test_high ha hi]
  rfl
theorem anot_zero (a b : Nat) (ha : a < 18446744073709551616) (hb : b < 18446744073709551616) : (anot a b == 0) = ((a ||| b) == b) := by
  rw [Bool.eq_iff_iff, beq_iff_eq, beq_iff_eq]
  constructor
  · intro h
    apply Nat.eq_of_testBit_eq
    intro i
    by_cases hi : i < 64
    · have := anot_test a b i ha hb hi
      rw [h, Nat.zero_testBit] at this
      rw [Nat.testBit_or]
      revert this
      cases a.testBit i <;> cases b.testBit i <;> simp
    · rw [Nat.testBit_or, test_high ha (by omega)]
      simp
  · intro h
    apply Nat.eq_of_testBit_eq
    intro i
    by_cases hi : i < 64
    · rw [anot_test a b i ha hb hi, Nat.zero_testBit]
      have := congrArg (fun x => x.testBit i) h
      simp only [Nat.testBit_or] at this
      revert this
      cases a.testBit i <;> cases b.testBit i <;> simp
    · rw [anot_high ha (by omega), Nat.zero_testBit]
theorem full_step (i : Nat) : full i ||| 2 ^ i = full (i + 1) := by
  apply Nat.eq_of_testBit_eq
  intro j
  unfold full
  rw [Nat.testBit_or, Nat.testBit_two_pow_sub_one, Nat.testBit_two_pow_sub_one, Nat.testBit_two_pow]
  rw [Bool.eq_iff_iff]
  simp
  omega
theorem pow_wrap (i : Nat) (hi : i < 64) : IntKind.u64.wrap (2 ^ i) = ((2 ^ i : Nat) : Int) := by
  have h1 : 2 ^ i < 2 ^ 64 := Nat.pow_lt_pow_right (by omega) hi
  have h3 : ((2 : Int) ^ i) = ((2 ^ i : Nat) : Int) := by norm_cast
  rw [h3, IntKind.wrap_u64]
  generalize 2 ^ i = y at *
  omega
theorem full_or (i : Nat) (hi : i < 64) : bits .or .u64 ((full i : Nat) : Int) (IntKind.u64.wrap (2 ^ i)) = ((full (i + 1) : Nat) : Int) := by
  have h1 : 2 ^ i < 2 ^ 64 := Nat.pow_lt_pow_right (by omega) hi
  rw [pow_wrap i hi, or_bits _ _ (full_lt i (by omega)) (by simpa using h1), full_step]
set_option maxHeartbeats 1000000 in
theorem rtop_any (n : Nat) (hn : n ≤ 64) (w : World) : Calls Tryd.prog 83 #[.int .i64 (n : Int)] w fun e w' => e = .returned (.int .u64 ((full n : Nat) : Int)) ∧ w = w' := by
  go_enter Tryd.func83, Tryd.ntmps83
  go_wp2
  go_loop [3, 4] (fun s i => ∃ k : Nat, k ≤ n ∧ s = .int .u64 ((full k : Nat) : Int) ∧ i = .int .i64 k) (fun _ i => n - (intOf i).toNat)
  case atStart => exact ⟨0, by omega, rfl, rfl⟩
  case round =>
    obtain ⟨k, hk, rfl, rfl⟩ := hrel
    by_cases hlt : k < n
    · have hor := full_or k (by omega)
      have hm := Nat.min_eq_left (show k ≤ 64 by omega)
      have hlt' : decide ((k : Int) < (n : Int)) = true := by simpa using hlt
      have hf := Lib.hid (rfl : full (k + 1) = full (k + 1))
      have hy : ∃ y, y = full (k + 1) := ⟨_, rfl⟩
      obtain ⟨y, hy⟩ := hy
      rw [← hy] at hor
      have HY := Lib.hid hy
      clear hy hf
      generalize full k = x at hor
      go_wp2
      go_round
      case rel => exact ⟨k + 1, by omega, by rw [← HY.out], by go_num⟩
      case measure => simp [intOf]; omega
    · obtain rfl : k = n := by omega
      go_wp2
      go_ret
      exact ⟨rfl, rfl⟩
theorem is_bits (t a : Nat) (ht : t < 18446744073709551616) (ha : a < 18446744073709551616) : (bits .or .u64 (a : Int) (t : Int) == (t : Int)) = has t a := by
  rw [or_bits a t ha ht]
  unfold has
  rw [anot_zero a t ha ht, Bool.eq_iff_iff, beq_iff_eq, beq_iff_eq]
  omega
set_option maxHeartbeats 1000000 in
theorem rhas_any (n a : Nat) (hn : n ≤ 64) (ha : a < 18446744073709551616) (w : World) : Calls Tryd.prog 80 #[.int .i64 (n : Int), .int .u64 (a : Int)] w fun e w' => e = .returned (.bool (hasM (some (full n)) a)) ∧ w = w' := by
  have HT := Lib.hid (rtop_any n hn w)
  have hb := is_bits (full n) a (full_lt n hn) ha
  unfold hasM
  show Calls _ _ _ _ fun e w' => e = .returned (.bool (has (full n) a)) ∧ w = w'
  rw [← hb]
  generalize full n = t at HT ⊢
  clear hn ha
  go_enter Tryd.func80, Tryd.ntmps80
  go_wp2_with fail
  refine HT.out.mono ?_
  rintro e w' ⟨rfl, rfl⟩
  go_wp2_with fail
  refine HT.out.mono ?_
  rintro e w' ⟨rfl, rfl⟩
  go_wp2
  go_ret
  exact ⟨rfl, rfl⟩
set_option maxHeartbeats 1000000 in
theorem rbelow_any (n a b : Nat) (hn : n ≤ 64) (ha : a < 18446744073709551616) (hb : b < 18446744073709551616) (w : World) : Calls Tryd.prog 116 #[.int .i64 (n : Int), .int .u64 (a : Int), .int .u64 (b : Int)] w fun e w' => e = .returned (.bool (belowM (some (full n)) a b)) ∧ w = w' := by
  have HA := Lib.hid (rhas_any n a hn ha w)
  have HB := Lib.hid (rhas_any n b hn hb w)
  have hq := is_bits b a hb ha
  unfold belowM
  unfold has at hq
  generalize (anot a b == 0) = q at hq ⊢
  generalize hasM (some (full n)) a = r at HA ⊢
  generalize hasM (some (full n)) b = s at HB ⊢
  clear hn ha hb
  cases r with
  | false =>
    go_enter Tryd.func116, Tryd.ntmps116
    go_wp2_with fail
    refine HA.out.mono ?_
    rintro e w' ⟨rfl, rfl⟩
    go_wp2
    go_ret
    exact ⟨ret_bool (by simp), rfl⟩
  | true =>
    cases s with
    | false =>
      go_enter Tryd.func116, Tryd.ntmps116
      go_wp2_with fail
      refine HA.out.mono ?_
      rintro e w' ⟨rfl, rfl⟩
      go_wp2_with fail
      refine HB.out.mono ?_
      rintro e w' ⟨rfl, rfl⟩
      go_wp2
      go_ret
      exact ⟨ret_bool (by simp), rfl⟩
    | true =>
      go_enter Tryd.func116, Tryd.ntmps116
      go_wp2_with fail
      refine HA.out.mono ?_
      rintro e w' ⟨rfl, rfl⟩
      go_wp2_with fail
      refine HB.out.mono ?_
      rintro e w' ⟨rfl, rfl⟩
      go_wp2
      go_ret
      exact ⟨ret_bool (by cases q <;> rfl), rfl⟩
set_option maxHeartbeats 1000000 in
theorem rjoin_any (n a b : Nat) (hn : n ≤ 64) (ha : a < 18446744073709551616) (hb : b < 18446744073709551616) (w : World) : Calls Tryd.prog 117 #[.int .i64 (n : Int), .int .u64 (a : Int), .int .u64 (b : Int)] w fun e w' => e = .returned (.int .u64 ((joinM (some (full n)) a b : Nat) : Int)) ∧ w = w' := by
  have HA := Lib.hid (rhas_any n a hn ha w)
  have HB := Lib.hid (rhas_any n b hn hb w)
  have hq := or_bits a b ha hb
  unfold joinM
  generalize (a ||| b) = q at hq ⊢
  generalize hasM (some (full n)) a = r at HA ⊢
  generalize hasM (some (full n)) b = s at HB ⊢
  clear hn ha hb
  cases r with
  | false =>
    go_enter Tryd.func117, Tryd.ntmps117
    go_wp2_with fail
    refine HA.out.mono ?_
    rintro e w' ⟨rfl, rfl⟩
    go_wp2
    go_ret
    exact ⟨ret_u64 (by simp), rfl⟩
  | true =>
    cases s with
    | false =>
      go_enter Tryd.func117, Tryd.ntmps117
      go_wp2_with fail
      refine HA.out.mono ?_
      rintro e w' ⟨rfl, rfl⟩
      go_wp2_with fail
      refine HB.out.mono ?_
      rintro e w' ⟨rfl, rfl⟩
      go_wp2
      go_ret
      exact ⟨ret_u64 (by simp), rfl⟩
    | true =>
      go_enter Tryd.func117, Tryd.ntmps117
      go_wp2_with fail
      refine HA.out.mono ?_
      rintro e w' ⟨rfl, rfl⟩
      go_wp2_with fail
      refine HB.out.mono ?_
      rintro e w' ⟨rfl, rfl⟩
      go_wp2
      go_ret
      exact ⟨ret_u64 (by simp), rfl⟩
set_option maxHeartbeats 1000000 in
theorem rmeet_any (n a b : Nat) (hn : n ≤ 64) (ha : a < 18446744073709551616) (hb : b < 18446744073709551616) (w : World) : Calls Tryd.prog 118 #[.int .i64 (n : Int), .int .u64 (a : Int), .int .u64 (b : Int)] w fun e w' => e = .returned (.int .u64 ((meetM (some (full n)) a b : Nat) : Int)) ∧ w = w' := by
  have HA := Lib.hid (rhas_any n a hn ha w)
  have HB := Lib.hid (rhas_any n b hn hb w)
  have hq := and_bits a b ha hb
  unfold meetM
  generalize (a &&& b) = q at hq ⊢
  generalize hasM (some (full n)) a = r at HA ⊢
  generalize hasM (some (full n)) b = s at HB ⊢
  clear hn ha hb
  cases r with
  | false =>
    go_enter Tryd.func118, Tryd.ntmps118
    go_wp2_with fail
    refine HA.out.mono ?_
    rintro e w' ⟨rfl, rfl⟩
    go_wp2
    go_ret
    exact ⟨ret_u64 (by simp), rfl⟩
  | true =>
    cases s with
    | false =>
      go_enter Tryd.func118, Tryd.ntmps118
      go_wp2_with fail
      refine HA.out.mono ?_
      rintro e w' ⟨rfl, rfl⟩
      go_wp2_with fail
      refine HB.out.mono ?_
      rintro e w' ⟨rfl, rfl⟩
      go_wp2
      go_ret
      exact ⟨ret_u64 (by simp), rfl⟩
    | true =>
      go_enter Tryd.func118, Tryd.ntmps118
      go_wp2_with fail
      refine HA.out.mono ?_
      rintro e w' ⟨rfl, rfl⟩
      go_wp2_with fail
      refine HB.out.mono ?_
      rintro e w' ⟨rfl, rfl⟩
      go_wp2
      go_ret
      exact ⟨ret_u64 (by simp), rfl⟩
end Go.Proofs.YtappaokjlnpbnaaDoor.Eff
