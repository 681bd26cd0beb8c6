/- EffectsBelow and EffectsBounds. -/
import Derived.Test.YthdgblfjgocnlaaRef
import Derived.IntWalk
namespace Go.Proofs.Ythdgblfjgocnlaa
open Go.RowKit
theorem mod65 (n : Int) (h : (Lit.int .u8 n).wf = true) : ∃ m : Nat, (wrap64 n).tmod 65 = (m : Int) ∧ m ≤ 64 := by
  simp [Lit.wf, IntKind.min, IntKind.max, IntKind.signed, IntKind.bits] at h
  obtain ⟨x, rfl⟩ : ∃ x : Nat, n = (x : Int) := ⟨n.toNat, by omega⟩
  have hw : wrap64 (x : Int) = (x : Int) := by unfold wrap64; omega
  exact ⟨x % 65, by rw [hw, Int.tmod_eq_emod_of_nonneg (by omega)]; omega, by omega⟩
theorem and_lt (a b : Nat) (ha : a < 18446744073709551616) : a &&& b < 18446744073709551616 := Nat.lt_of_le_of_lt Nat.and_le_left ha
theorem has_and (t x : Nat) (ht : t < 18446744073709551616) (hx : x < 18446744073709551616) : has t (x &&& t) = true := by
  unfold has
  rw [anot_zero _ _ (and_lt _ _ hx) ht, beq_iff_eq]
  apply Nat.eq_of_testBit_eq
  intro i
  rw [Nat.testBit_or, Nat.testBit_and]
  cases x.testBit i <;> cases t.testBit i <;> rfl
theorem has_zero (t : Nat) : has t 0 = true := by simp [has, anot]
theorem has_self (t : Nat) (ht : t < 18446744073709551616) : has t t = true := by
  unfold has
  rw [anot_zero _ _ ht ht, beq_iff_eq, Nat.or_self]
theorem bit_at (p k : Nat) (hp : p < 18446744073709551616) (b : Bool) (h : p.testBit k = b) : bits .and .u64 ((p : Int) / 2 ^ k) 1 = if b then 1 else 0 := by
  have h1 : ((p : Int) / 2 ^ k) = ((p / 2 ^ k : Nat) : Int) := by norm_cast
  have h2 := and_bits (p / 2 ^ k) 1 (Nat.lt_of_le_of_lt (Nat.div_le_self _ _) hp) (by omega)
  rw [h1]
  refine h2.trans ?_
  rw [Nat.and_one_is_mod, ← h, Nat.testBit_eq_decide_div_mod_eq]
  have := Nat.mod_two_eq_zero_or_one (p / 2 ^ k)
  rcases this with h | h <;> rw [h] <;> rfl
theorem below_or (a b : Nat) (ha : a < 18446744073709551616) (hb : b < 18446744073709551616) : (anot a b == 0) = ((a ||| b) == b) := anot_zero a b ha hb
theorem below_and (a b : Nat) (ha : a < 18446744073709551616) (hb : b < 18446744073709551616) : (anot a b == 0) = ((a &&& b) == a) := by
  rw [anot_zero a b ha hb, Bool.eq_iff_iff, beq_iff_eq, beq_iff_eq]
  constructor
  · intro h
    apply Nat.eq_of_testBit_eq
    intro i
    have := congrArg (fun z => z.testBit i) h
    simp only [Nat.testBit_or, Nat.testBit_and] at this ⊢
    revert this
    cases a.testBit i <;> cases b.testBit i <;> simp
  · intro h
    apply Nat.eq_of_testBit_eq
    intro i
    have := congrArg (fun z => z.testBit i) h
    simp only [Nat.testBit_or, Nat.testBit_and] at this ⊢
    revert this
    cases a.testBit i <;> cases b.testBit i <;> simp
set_option maxHeartbeats 4000000 in
theorem below_walk (n a b : Int) (w : World) (hn : (Lit.int .u8 n).wf = true) (ha : (Lit.int .u64 a).wf = true) (hb : (Lit.int .u64 b).wf = true) : Calls Try.prog 6 #[.int .u8 n, .int .u64 a, .int .u64 b] w fun e w' => e = .returned (.bool true) ∧ Below w.heap.size w w' := by
  obtain ⟨x, rfl, hx⟩ := nat_of_u64 ha
  obtain ⟨y, rfl, hy⟩ := nat_of_u64 hb
  obtain ⟨m, hm, hm64⟩ := mod65 n hn
  have HM := Lib.hid hm64
  obtain ⟨t, ht⟩ : ∃ t, t = full m := ⟨_, rfl⟩
  have htl : t < 18446744073709551616 := by rw [ht]; exact full_lt m hm64
  have hba := and_bits x t hx htl
  have hbb := and_bits y t hy htl
  obtain ⟨p, hp⟩ : ∃ p, p = x &&& t := ⟨_, rfl⟩
  obtain ⟨q, hq⟩ : ∃ q, q = y &&& t := ⟨_, rfl⟩
  have hpl : p < 18446744073709551616 := by rw [hp]; exact and_lt _ _ hx
  have hql : q < 18446744073709551616 := by rw [hq]; exact and_lt _ _ hy
  have hhp : has t p = true := by rw [hp]; exact has_and t x htl hx
  have hhq : has t q = true := by rw [hq]; exact has_and t y htl hy
  have hbl : belowM (some t) p q = ((p ||| q) == q) := by simp [belowM, hasM, hhp, hhq, anot_zero p q hpl hql]
  have hbl2 : ((p ||| q) == q) = ((p &&& q) == p) := by rw [← anot_zero p q hpl hql, below_and p q hpl hql]
  have hj : joinM (some t) p q = p ||| q := by simp [joinM, hasM, hhp, hhq]
  have hme : meetM (some t) p q = p &&& q := by simp [meetM, hasM, hhp, hhq]
  have hb0 : belowM (some t) 0 p = true := by simp [belowM, hasM, hhp, has_zero, anot]
  have hbt : belowM (some t) p t = true := by simp [belowM, hasM, hhp, has_self t htl]; simpa [has] using hhp
  rw [← hp] at hba
  rw [← hq] at hbb
  have TN := Lib.hid (show ∀ w, Calls Try.prog 7 #[.int .i64 (m : Int)] w fun e w' => e = .returned (.tuple #[.pointer (some ⟨w.heap.size, 0, none⟩), .int .i64 0]) ∧ w' = w.alloc (.cells #[.bool true, .int .u64 (t : Int)] 39) by rw [ht]; exact fun w => new_yes m hm64 w)
  have TS := Lib.hid (show ∀ w : World, St (w.alloc (.cells #[.bool true, .int .u64 (t : Int)] 39)) (some ⟨w.heap.size, 0, none⟩) (some t) by rw [ht]; exact fun w => new_st m hm64 w)
  have KT := Lib.hid (fun w p h => top_any p (some t) w h)
  have KB := Lib.hid (fun w P h => (by rw [← hbl]; exact below_any P (some t) p q hpl hql w h : Calls Try.prog 10 #[.pointer P, .int .u64 (p : Int), .int .u64 (q : Int)] w fun e w' => e = .returned (.bool ((p ||| q) == q)) ∧ Below w.heap.size w w'))
  have KJ := Lib.hid (fun w P h => (by rw [← hj]; exact join_any P (some t) p q hpl hql w h : Calls Try.prog 11 #[.pointer P, .int .u64 (p : Int), .int .u64 (q : Int)] w fun e w' => e = .returned (.int .u64 ((p ||| q : Nat) : Int)) ∧ Below w.heap.size w w'))
  have KM := Lib.hid (fun w P h => (by rw [← hme]; exact meet_any P (some t) p q hpl hql w h : Calls Try.prog 12 #[.pointer P, .int .u64 (p : Int), .int .u64 (q : Int)] w fun e w' => e = .returned (.int .u64 ((p &&& q : Nat) : Int)) ∧ Below w.heap.size w w'))
  have KH := Lib.hid (fun w P h => (by have := has_any P (some t) p hpl w h; simp only [hasM, hhp] at this; exact this : Calls Try.prog 13 #[.pointer P, .int .u64 (p : Int)] w fun e w' => e = .returned (.bool true) ∧ Below w.heap.size w w'))
  have K0 := Lib.hid (fun w P h => (by rw [← hb0]; exact below_any P (some t) 0 p (by omega) hpl w h : Calls Try.prog 10 #[.pointer P, .int .u64 0, .int .u64 (p : Int)] w fun e w' => e = .returned (.bool true) ∧ Below w.heap.size w w'))
  have KZ := Lib.hid (fun w P h => (by rw [← hbt]; exact below_any P (some t) p t hpl htl w h : Calls Try.prog 10 #[.pointer P, .int .u64 (p : Int), .int .u64 (t : Int)] w fun e w' => e = .returned (.bool true) ∧ Below w.heap.size w w'))
  have HT := Lib.hid ht
  have HPL := Lib.hid hpl
  have HQL := Lib.hid hql
  have e1 : ((((p ||| q : Nat) : Int) == (q : Int)) = ((p ||| q) == q)) := by rw [Bool.eq_iff_iff, beq_iff_eq, beq_iff_eq]; omega
  have e2 : ((((p &&& q : Nat) : Int) == (p : Int)) = ((p ||| q) == q)) := by rw [hbl2, Bool.eq_iff_iff, beq_iff_eq, beq_iff_eq]; omega
  obtain ⟨j, hjj⟩ : ∃ j, j = p ||| q := ⟨_, rfl⟩
  obtain ⟨me, hmm⟩ : ∃ me, me = p &&& q := ⟨_, rfl⟩
  rw [← hjj] at KJ KB e1 e2
  rw [← hmm] at KM e2
  generalize (j == q) = isb at KB e1 e2
  have HJ := Lib.hid hjj
  have HME := Lib.hid hmm
  clear ha hb hx hy hm64 ht htl hpl hql hhp hhq hbl hbl2 hj hme hb0 hbt hjj hmm hp hq hn
  go_enter Try.func6, Try.ntmps6
  go_wp2_with fail
  refine (TN.out _).mono ?_
  rintro e w1 ⟨rfl, hw1⟩
  have HX1 := Lib.hid (show St w1 (some ⟨w.heap.size, 0, none⟩) (some t) by subst hw1; exact TS.out w)
  have HB1 := Lib.hid (show Below w.heap.size w w1 by subst hw1; exact (Below.refl _ w).alloc (Nat.le_refl _) _)
  clear hw1
  go_wp2_with fail
  refine (KT.out _ _ HX1.out).mono ?_
  rintro e w' ⟨rfl, rfl⟩
  have et : ((topM (some t) : Nat) : Int) = (t : Int) := rfl
  rw [et]
  clear et
  go_wp2_with fail
  refine (KB.out _ _ HX1.out).mono ?_
  rintro e w2 ⟨rfl, hb2⟩
  have HX2 := Lib.hid (HX1.out.below hb2)
  have HB2 := Lib.hid (on HB1.out hb2)
  clear hb2 HB1 HX1
  go_wp2_with fail
  refine (KJ.out _ _ HX2.out).mono ?_
  rintro e w3 ⟨rfl, hb3⟩
  have HX3 := Lib.hid (HX2.out.below hb3)
  have HB3 := Lib.hid (on HB2.out hb3)
  clear hb3 HB2 HX2
  go_wp2_with fail
  refine (KM.out _ _ HX3.out).mono ?_
  rintro e w4 ⟨rfl, hb4⟩
  have HX4 := Lib.hid (HX3.out.below hb4)
  have HB4 := Lib.hid (on HB3.out hb4)
  clear hb4 HB3 HX3
  go_wp2_with fail
  refine (KH.out _ _ HX4.out).mono ?_
  rintro e w5 ⟨rfl, hb5⟩
  have HX5 := Lib.hid (HX4.out.below hb5)
  have HB5 := Lib.hid (on HB4.out hb5)
  clear hb5 HB4 HX4
  go_wp2_with fail
  refine (bottom_any _ _).mono ?_
  rintro e w' ⟨rfl, rfl⟩
  go_wp2_with fail
  refine (K0.out _ _ HX5.out).mono ?_
  rintro e w6 ⟨rfl, hb6⟩
  have HX6 := Lib.hid (HX5.out.below hb6)
  have HB6 := Lib.hid (on HB5.out hb6)
  clear hb6 HB5 HX5
  go_wp2_with fail
  refine (KZ.out _ _ HX6.out).mono ?_
  rintro e w7 ⟨rfl, hb7⟩
  have HX7 := Lib.hid (HX6.out.below hb7)
  have HB7 := Lib.hid (on HB6.out hb7)
  clear hb7 HB6 HX6
  go_wp2
  go_loop [13] (fun i => ∃ k : Nat, k ≤ 64 ∧ i = .int .i64 k) (fun i => 64 - (intOf i).toNat)
  case atStart => exact ⟨0, by omega, rfl⟩
  case round =>
    obtain ⟨k, hk, rfl⟩ := hrel
    by_cases hlt : k < 64
    · have i0 : (0 : Int) ≤ (k : Int) := by omega
      have i1 : decide ((k : Int) < 64) = true := by simp; omega
      have TP := bit_at p k HPL.out _ rfl
      have TQ := bit_at q k HQL.out _ rfl
      have TJ := bit_at j k (by rw [HJ.out]; exact Nat.or_lt_two_pow (n := 64) HPL.out HQL.out) (p.testBit k || q.testBit k) (by rw [HJ.out, Nat.testBit_or])
      have TM := bit_at me k (by rw [HME.out]; exact and_lt _ _ HPL.out) (p.testBit k && q.testBit k) (by rw [HME.out, Nat.testBit_and])
      have TT := bit_at t k (by rw [HT.out]; exact full_lt m HM.out) (decide (k < m)) (by rw [HT.out]; exact Nat.testBit_two_pow_sub_one m k)
      have DM : decide ((k : Int) < (m : Int)) = decide (k < m) := by simp
      obtain ⟨d, hd⟩ : ∃ d, decide (k < m) = d := ⟨_, rfl⟩
      rw [hd] at TT DM
      generalize p.testBit k = bp at TP TJ TM
      generalize q.testBit k = bq at TQ TJ TM
      have HK := Lib.hid hlt
      clear hk
      cases bp <;> cases bq <;> cases d <;> simp at TP TQ TJ TM TT
      all_goals
        go_wp2
        go_round
        case rel => exact ⟨k + 1, by have := HK.out; omega, by go_num⟩
        case measure => have := HK.out; simp [intOf]; omega
    · obtain rfl : k = 64 := by omega
      go_wp2_with fail
      refine (alive_any _).mono ?_
      rintro e w' ⟨rfl, hb⟩
      go_wp2
      go_ret
      exact ⟨rfl, on HB7.out hb⟩
end Go.Proofs.Ythdgblfjgocnlaa
