/- nums.Get, and the document's. -/
import Derived.Test.YtmfmampcgadjhaaOr
import Derived.WalkMore
namespace Go.Proofs.Ytmfmampcgadjhaa
open Go.RowKit Go.Proofs.YtmfmampcgadjhaaW.PrintWords
set_option maxRecDepth 20000 in
set_option maxHeartbeats 1000000 in
theorem get_any (A : Option Addr) (n cap : Nat) (bs : List UInt8) (hn : n = bs.length) (w : World) (hI : Bytes w w.heap.size A bs) : Calls Try.prog 9 #[.slice A n cap] w fun e w' => e = .returned (tup (get bs)) ∧ w = w' := by
  have HN := Lib.hid hn
  have hmax := hI.1
  have HI := Lib.hid hI
  clear hn hI
  go_enter Try.func9, Try.ntmps9
  go_wp2
  go_step3
  go_wp2
  go_step3
  go_wp2
  go_loop [2, 3, 9] (fun v t i => ∃ k a : Nat, k ≤ n ∧ k ≤ 9 ∧ i = .int .i64 k ∧ v = .int .u64 a ∧ t = .int .i64 0 ∧ Hid (a < 128 ^ k) ∧ Hid (get bs = getA k a (bs.drop k))) (fun _ _ i => n - (intOf i).toNat)
  case atStart => exact ⟨0, 0, by omega, by omega, rfl, rfl, rfl, Lib.hid (by omega), rfl⟩
  case round =>
    obtain ⟨k, a, hk, hk9, rfl, rfl, rfl, ha, HG⟩ := hrel
    by_cases hlt : k < n
    · have hkl : k < bs.length := by rw [← HN.out]; exact hlt
      obtain ⟨b, off, rfl, _, hc⟩ := HI.out.2 (by omega)
      have hck := hc k hkl
      have hg := HG.out
      rw [drop_cons hkl, getA_cons] at hg
      have hc256 := bs[k].toNat_lt
      generalize bs[k].toNat = c at hck hg hc256
      clear hc
      have i1 : (0 : Int) ≤ (k : Int) := by omega
      have i2 : (k : Int) < (n : Int) := by omega
      clear HG
      have HC := Lib.hid hc256
      clear hc256
      by_cases h9 : k = 9
      · subst h9
        by_cases h1 : 1 < c
        · have j1 : decide (1 < (c : Int)) = true := by simp; omega
          have HR := Lib.hid (hg.trans (if_pos (.inl ⟨rfl, h1⟩)))
          clear hg h1
          go_wp2
          go_ret3
          exact ⟨by rw [HR.out]; rfl, rfl⟩
        · have j1 : decide (1 < (c : Int)) = false := by simp; omega
          by_cases h0 : c = 0
          · subst h0
            have HR := Lib.hid (hg.trans (if_pos (.inr ⟨by omega, rfl⟩)))
            clear hg h1
            go_wp2
            go_ret3
            exact ⟨by rw [HR.out]; rfl, rfl⟩
          · obtain rfl : c = 1 := by omega
            have HR := Lib.hid ((hg.trans (if_neg (by omega))).trans (if_pos (by omega)))
            have HV := Lib.hid (or_nine ha.out)
            clear hg h1
            go_wp2
            go_ret3
            exact ⟨by rw [HR.out, HV.out]; rfl, rfl⟩
      · have j1 : ((k : Int) == 9) = false := by rw [beq_eq_false_iff_ne]; omega
        have j2 : ¬ k = 9 := h9
        by_cases h0 : c = 0 ∧ 0 < k
        · obtain ⟨rfl, hk0⟩ := h0
          have HR := Lib.hid (hg.trans (if_pos (.inr ⟨hk0, rfl⟩)))
          have j3 : decide (0 < (k : Int)) = true := by simp; omega
          clear hg
          go_wp2
          go_ret3
          exact ⟨by rw [HR.out]; rfl, rfl⟩
        · have j3 : (decide (0 < (k : Int)) && ((c : Int) == 0)) = false := by
            rw [Bool.and_eq_false_iff]
            by_cases e : c = 0
            · left; simp; omega
            · right; rw [beq_eq_false_iff_ne]; omega
          have h2 := hg.trans (if_neg (by omega))
          clear hg
          by_cases h1 : c < 128
          · have j4 : decide ((c : Int) < 128) = true := by simp; omega
            have HR := Lib.hid (h2.trans (if_pos h1))
            have HV := Lib.hid (or_end ha.out h1 (k := k) (by omega))
            have HJ := Lib.hid j3
            have hw : IntKind.u64.wrap (c : Int) = (c : Int) := wrap_nat (by omega)
            clear h2 h1 j3
            by_cases hk0 : k = 0
            · subst hk0
              rw [Nat.add_zero] at hck
              have e0 : c * 128 ^ 0 = c := by rw [Nat.pow_zero, Nat.mul_one]
              have hv0 := or_nat (k := 0) (c := c) ha.out (by omega) (by rw [e0]; have := HC.out; omega)
              rw [e0] at hv0 HR
              have HV0 := Lib.hid hv0
              clear hv0 e0
              go_wp2
              go_ret3
              exact ⟨by rw [HR.out, HV0.out]; rfl, rfl⟩
            · have j5 : decide (0 < (k : Int)) = true := by simp; omega
              have j6 : ((c : Int) == 0) = false := by have := HJ.out; rw [j5] at this; simpa using this
              go_wp2
              all_goals
                go_ret3
                exact ⟨by rw [HR.out, HV.out]; rfl, rfl⟩
          · have j4 : decide ((c : Int) < 128) = false := by simp; omega
            have HR := Lib.hid (h2.trans (if_neg h1))
            have HV := Lib.hid (or_more ha.out (by omega : 128 ≤ c) HC.out (k := k) (by omega))
            have HM := Lib.hid (more_lt ha.out (by have := HC.out; omega : c - 128 < 128))
            have j6 : ((c : Int) == 0) = false := by rw [beq_eq_false_iff_ne]; omega
            clear h2 h1 j3
            go_wp2
            all_goals exact ⟨⟨k + 1, a + (c - 128) * 128 ^ k, by omega, by omega, by go_num, by rw [HV.out], rfl, HM, HR⟩, by simp [intOf]; omega⟩
    · obtain rfl : k = n := by omega
      have hg := HG.out
      rw [List.drop_eq_nil_of_le (by rw [HN.out]; omega)] at hg
      have HR := Lib.hid hg
      clear hg
      go_wp2
      go_ret3
      exact ⟨by rw [HR.out]; rfl, rfl⟩
end Go.Proofs.Ytmfmampcgadjhaa
