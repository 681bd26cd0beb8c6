/- A number has as many bytes as its bits need: the law's walk. -/
import Derived.Test.YtmfmampcgadjhaaAlive
namespace Go.Proofs.Ytmfmampcgadjhaa
open Go.RowKit Go.Proofs.YtmfmampcgadjhaaW.PrintWords
theorem nat_of_u64 {a : Int} (h : (Lit.int .u64 a).wf = true) : ∃ x : Nat, a = (x : Int) ∧ x < 18446744073709551616 := by
  simp [Lit.wf, IntKind.min, IntKind.max, IntKind.signed, IntKind.bits] at h
  exact ⟨a.toNat, by omega, by omega⟩
theorem numF_mono : ∀ (f x y : Nat), x ≤ y → (numF f x).length ≤ (numF f y).length
  | 0, x, y, _ => by simp [numF]
  | f + 1, x, y, h => by
    by_cases hx : x < 128
    · rw [numF_end hx]
      by_cases hy : y < 128
      · rw [numF_end hy]; simp
      · rw [numF_more (by omega)]; simp
    · rw [numF_more (by omega), numF_more (by omega)]
      have := numF_mono f (x / 128) (y / 128) (Nat.div_le_div_right h)
      simp only [List.length_cons]
      omega
theorem num_pos (x : Nat) : 1 ≤ (num x).length := by
  unfold num
  rw [numF]
  split <;> simp
set_option maxRecDepth 20000 in
set_option maxHeartbeats 1000000 in
theorem short_walk (m0 n0 : Int) (w : World) (hm0 : (Lit.int .u64 m0).wf = true) (hn0 : (Lit.int .u64 n0).wf = true) :
    Calls Try.prog 6 #[.int .u64 m0, .int .u64 n0] w fun e w' => e = .returned (.bool true) ∧ Below w.heap.size w w' := by
  obtain ⟨m, rfl, hm⟩ := nat_of_u64 hm0
  obtain ⟨n, rfl, hn⟩ := nat_of_u64 hn0
  clear hm0 hn0
  have HMO := Lib.hid (numF_mono 9 m n)
  have HM1 := Lib.hid (num_pos m)
  have HM2 := Lib.hid (num_le m hm)
  have HN2 := Lib.hid (num_le n hn)
  go_enter Try.func6, Try.ntmps6
  go_wp2_with fail
  refine (num_any none 0 0 [] rfl (by omega) m hm _ (bytes_none _ _)).mono ?_
  rintro e w1 ⟨⟨v, rfl, hr⟩, hb⟩
  have HB1 := Lib.hid hb
  obtain ⟨A1, c1, rfl, _⟩ := hr.bytes
  rw [List.nil_append]
  clear hr hb
  go_wp2_with fail
  refine (num_any none 0 0 [] rfl (by omega) n hn _ (bytes_none _ _)).mono ?_
  rintro e w2 ⟨⟨v, rfl, hr⟩, hb⟩
  have HB2 := Lib.hid (on HB1.out hb)
  obtain ⟨A2, c2, rfl, _⟩ := hr.bytes
  rw [List.nil_append]
  clear hr hb HB1
  obtain ⟨p, hp⟩ : ∃ p, p = (num m).length := ⟨_, rfl⟩
  obtain ⟨q, hq⟩ : ∃ q, q = (num n).length := ⟨_, rfl⟩
  rw [← hp, ← hq]
  have HP := Lib.hid hp
  have HQ := Lib.hid hq
  clear hp hq
  go_wp2
  go_loop [7, 8] (fun k i => ∃ (x f j : Nat), i = .int .u64 x ∧ k = .int .i64 j ∧ x < 18446744073709551616 ∧ j ≤ 10 ∧ f ≤ 9 ∧ Hid (x < 128 ^ (f + 1)) ∧ Hid (j + (numF f x).length = p + 1)) (fun _ i => (intOf i).toNat)
  case atStart => exact ⟨m, 9, 1, rfl, rfl, hm, by omega, by omega, Lib.hid (by omega), Lib.hid (by rw [HP.out]; unfold num; omega)⟩
  case round =>
    obtain ⟨x, f, j, rfl, rfl, hx, hj, hf, HF, HE⟩ := hrel
    by_cases hlt : x < 128
    · have d1 : decide (128 ≤ (x : Int)) = false := by simp; omega
      obtain rfl : j = p := by have h := HE.out; rw [numF_end hlt, List.length_singleton] at h; omega
      have HLE := Lib.hid (show m ≤ n → j ≤ q by intro h; rw [HP.out, HQ.out]; exact HMO.out h)
      by_cases hmn : n < m
      · have d2 : decide ((n : Int) < (m : Int)) = true := by simp; omega
        have d3 : decide (n < m) = true := by simp; omega
        clear HE HF
        go_wp2_with fail
        refine (alive_any _).mono ?_
        rintro e w3 ⟨rfl, hb3⟩
        have HB3 := Lib.hid (on HB2.out hb3)
        clear hb3
        go_wp2
        go_ret
        exact ⟨rfl, HB3.out⟩
      · have hjq := HLE.out (by omega)
        have d2 : decide ((n : Int) < (m : Int)) = false := by simp; omega
        have d3 : decide (n < m) = false := by simp; omega
        have d4 : decide ((j : Int) ≤ (q : Int)) = true := by simp; omega
        have d5 : decide (j ≤ q) = true := by simp; omega
        clear HE HF
        go_wp2_with fail
        refine (alive_any _).mono ?_
        rintro e w3 ⟨rfl, hb3⟩
        have HB3 := Lib.hid (on HB2.out hb3)
        clear hb3
        go_wp2
        go_ret
        exact ⟨rfl, HB3.out⟩
    · have d1 : decide (128 ≤ (x : Int)) = true := by simp; omega
      obtain ⟨f, rfl⟩ : ∃ g, f = g + 1 := by
        cases f with
        | zero => have := HF.out; omega
        | succ g => exact ⟨g, rfl⟩
      have HEX := Lib.hid (show j + 1 + (numF f (x / 128)).length = p + 1 by have := HE.out; rw [numF_more (by omega), List.length_cons] at this; omega)
      have HFX := Lib.hid (show x / 128 < 128 ^ (f + 1) by have := HF.out; rw [Nat.pow_succ] at this; omega)
      have hj9 : j + 1 ≤ 10 := by
        have h1 := HEX.out
        have h2 : 1 ≤ (numF f (x / 128)).length := by cases f <;> simp [numF]; split <;> simp
        have h3 := HM2.out
        rw [← HP.out] at h3
        omega
      clear HE HF
      go_wp2
      go_round
      case rel => exact ⟨x / 128, f, j + 1, by go_num, by go_num, by omega, hj9, by omega, HFX, HEX⟩
      case measure => simp [intOf]; omega
end Go.Proofs.Ytmfmampcgadjhaa
