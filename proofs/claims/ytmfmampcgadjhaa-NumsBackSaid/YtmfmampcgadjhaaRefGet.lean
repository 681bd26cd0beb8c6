/- The document's Get. -/
import Derived.Test.YtmfmampcgadjhaaOr
namespace Go.Proofs.Ytmfmampcgadjhaa
open Go.RowKit Go.Proofs.YtmfmampcgadjhaaW.PrintWords
theorem mod_nat (c : Nat) (h : c < 128) : (c : Int) % 128 = (c : Int) := by omega
theorem mod_more (c : Nat) (h : 128 ≤ c) (h2 : c < 256) : Int.tmod (c : Int) 128 = ((c - 128 : Nat) : Int) := by
  rw [Int.tmod_eq_emod_of_nonneg (by omega)]
  omega
theorem ref_end {a c k p : Nat} (hp : p = 128 ^ k) (ha : a < 128 ^ k) (hc : c < 128) (hk : k ≤ 8) : IntKind.u64.wrap ((a : Int) + IntKind.u64.wrap ((p : Int) * (c : Int))) = ((a + c * p : Nat) : Int) := by
  have hlt := mul_lt9 (c := c) hc hk
  have h9 := pow_le9 (k := k) (by omega)
  rw [← hp] at hlt ha h9
  have e : (p : Int) * (c : Int) = ((c * p : Nat) : Int) := by rw [Nat.mul_comm]; push_cast; rfl
  rw [e, wrap_nat (by omega)]
  have e2 : (a : Int) + ((c * p : Nat) : Int) = ((a + c * p : Nat) : Int) := by push_cast; rfl
  rw [e2, wrap_nat (by omega)]
theorem ref_more {a c k p : Nat} (hp : p = 128 ^ k) (ha : a < 128 ^ k) (h : 128 ≤ c) (h2 : c < 256) (hk : k ≤ 8) : IntKind.u64.wrap ((a : Int) + IntKind.u64.wrap ((p : Int) * IntKind.u64.wrap ((c - 128 : Nat) : Int))) = ((a + (c - 128) * p : Nat) : Int) := by
  rw [wrap_nat (x := c - 128) (by omega)]
  exact ref_end hp ha (by omega) hk
theorem ref_weight {k p : Nat} (hp : p = 128 ^ k) (hk : k ≤ 8) : IntKind.u64.wrap ((p : Int) * 128) = ((128 ^ (k + 1) : Nat) : Int) := by
  have h9 := pow_le9 (k := k + 1) (by omega)
  have e : (p : Int) * 128 = ((128 ^ (k + 1) : Nat) : Int) := by rw [hp, Nat.pow_succ]; push_cast; rfl
  rw [e, wrap_nat (by omega)]
set_option maxRecDepth 20000 in
set_option maxHeartbeats 1000000 in
theorem refget_any (A : Option Addr) (n cap : Nat) (bs : List UInt8) (hn : n = bs.length) (w : World) (hI : Bytes w w.heap.size A bs) : Calls Try.prog 10 #[.slice A n cap] w fun e w' => e = .returned (tup (get bs)) ∧ w = w' := by
  have HN := Lib.hid hn
  have hmax := hI.1
  have HI := Lib.hid hI
  clear hn hI
  go_enter Try.func10, Try.ntmps10
  go_wp2
  go_loop [5, 6, 7] (fun v t i => ∃ k a : Nat, k ≤ n ∧ k ≤ 9 ∧ i = .int .i64 k ∧ v = .int .u64 a ∧ t = .int .u64 ((128 ^ k : Nat) : Int) ∧ Hid (a < 128 ^ k) ∧ Hid (get bs = getA k a (bs.drop k))) (fun _ _ i => n - (intOf i).toNat)
  case atStart => exact ⟨0, 0, by omega, by omega, rfl, rfl, rfl, Lib.hid (by omega), rfl⟩
  case round =>
    obtain ⟨k, a, hk, hk9, rfl, rfl, rfl, ha, HG⟩ := hrel
    by_cases hlt : k < n
    · have hkl : k < bs.length := by rw [← HN.out]; exact hlt
      obtain ⟨b, off, rfl, _, hc⟩ := HI.out.2 (by omega)
      have hck := hc k hkl
      have hg := HG.out
      rw [drop_cons hkl, getA_cons] at hg
      have hc256 := bs[k].toNat_lt
      generalize bs[k].toNat = c at hck hg hc256
      clear hc
      have i1 : (0 : Int) ≤ (k : Int) := by omega
      have i2 : (k : Int) < (n : Int) := by omega
      clear HG
      have HC := Lib.hid hc256
      clear hc256
      obtain ⟨p, hp⟩ : ∃ p, p = 128 ^ k := ⟨_, rfl⟩
      rw [← hp] at hg
      have HP := Lib.hid hp
      rw [← hp]
      clear hp
      by_cases h9 : k = 9
      · subst h9
        by_cases h1 : 1 < c
        · have j1 : decide (1 < (c : Int)) = true := by simp; omega
          have HR := Lib.hid (hg.trans (if_pos (.inl ⟨rfl, h1⟩)))
          clear hg h1
          go_wp2
          go_ret3
          exact ⟨by rw [HR.out]; rfl, rfl⟩
        · have j1 : decide (1 < (c : Int)) = false := by simp; omega
          by_cases h0 : c = 0
          · subst h0
            have HR := Lib.hid (hg.trans (if_pos (.inr ⟨by omega, rfl⟩)))
            clear hg h1
            go_wp2
            go_ret3
            exact ⟨by rw [HR.out]; rfl, rfl⟩
          · obtain rfl : c = 1 := by omega
            have HR := Lib.hid ((hg.trans (if_neg (by omega))).trans (if_pos (by omega)))
            clear hg h1
            have hp : p = 9223372036854775808 := by rw [HP.out]
            subst hp
            have hv : IntKind.u64.wrap ((a : Int) + 9223372036854775808) = ((a + 1 * 9223372036854775808 : Nat) : Int) := by
              have h := ha.out
              have e : (128 : Nat) ^ 9 = 9223372036854775808 := by decide
              rw [e] at h
              rw [IntKind.wrap_u64]
              omega
            have HV := Lib.hid hv
            clear hv
            go_wp2
            go_ret3
            exact ⟨by rw [HR.out, HV.out]; rfl, rfl⟩
      · have j1 : ((k : Int) == 9) = false := by rw [beq_eq_false_iff_ne]; omega
        have j2 : ¬ k = 9 := h9
        by_cases h0 : c = 0 ∧ 0 < k
        · obtain ⟨rfl, hk0⟩ := h0
          have HR := Lib.hid (hg.trans (if_pos (.inr ⟨hk0, rfl⟩)))
          have j3 : decide (0 < (k : Int)) = true := by simp; omega
          clear hg
          go_wp2
          go_ret3
          exact ⟨by rw [HR.out]; rfl, rfl⟩
        · have h2 := hg.trans (if_neg (by omega))
          clear hg
          by_cases h1 : c < 128
          · have j4 : decide ((c : Int) < 128) = true := by simp; omega
            have HR := Lib.hid (h2.trans (if_pos h1))
            have hw : IntKind.u64.wrap (c : Int) = (c : Int) := wrap_nat (by omega)
            have hm2 : Int.tmod (c : Int) 128 = (c : Int) := by rw [Int.tmod_eq_emod_of_nonneg (by omega)]; omega
            have HV := Lib.hid (ref_end HP.out ha.out h1 (by omega))
            clear h2 h1
            by_cases hc0 : c = 0
            · subst hc0
              obtain rfl : k = 0 := by omega
              have ha0 : a = 0 := by have := ha.out; omega
              subst ha0
              rw [Nat.add_zero] at hck
              rw [Nat.zero_mul] at HR
              go_wp2
              go_ret3
              exact ⟨by rw [HR.out]; rfl, rfl⟩
            · have j6 : ((c : Int) == 0) = false := by rw [beq_eq_false_iff_ne]; omega
              go_wp2
              go_ret3
              exact ⟨by rw [HR.out, HV.out]; rfl, rfl⟩
          · have j4 : decide ((c : Int) < 128) = false := by simp; omega
            have HR := Lib.hid (h2.trans (if_neg h1))
            have hcx := HC.out
            have hm2 : Int.tmod (c : Int) 128 = ((c - 128 : Nat) : Int) := mod_more c (by omega) hcx
            have j6 : ((c : Int) == 0) = false := by rw [beq_eq_false_iff_ne]; omega
            have HV := Lib.hid (ref_more HP.out ha.out (by omega) hcx (by omega))
            have HW := Lib.hid (ref_weight HP.out (by omega))
            have hml := more_lt ha.out (by omega : c - 128 < 128)
            rw [← HP.out] at hml
            have HM := Lib.hid hml
            clear h2 h1 hcx hml
            go_wp2
            exact ⟨⟨k + 1, a + (c - 128) * p, by omega, by omega, by go_num, by rw [HV.out], by rw [HW.out], HM, HR⟩, by simp [intOf]; omega⟩
    · obtain rfl : k = n := by omega
      have hg := HG.out
      rw [List.drop_eq_nil_of_le (by rw [HN.out]; omega)] at hg
      have HR := Lib.hid hg
      clear hg
      go_wp2
      go_ret3
      exact ⟨by rw [HR.out]; rfl, rfl⟩
end Go.Proofs.Ytmfmampcgadjhaa
