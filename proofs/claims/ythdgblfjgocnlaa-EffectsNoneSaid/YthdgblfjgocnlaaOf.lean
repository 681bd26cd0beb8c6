/- EffectsOf and EffectsNone. -/
import Derived.Test.YthdgblfjgocnlaaRef
import Derived.Deep.RegionHeld3
namespace Go.Proofs.Ythdgblfjgocnlaa
open Go.RowKit
set_option maxHeartbeats 4000000 in
theorem of_in (n a b : Nat) (hn : n ≤ 64) (ha : a < 18446744073709551616) (hb : b < 18446744073709551616) (w : World) : Calls Try.prog 4 #[.int .i64 (n : Int), .int .u64 (a : Int), .int .u64 (b : Int)] w fun e w' => e = .returned (.bool true) ∧ Below w.heap.size w w' := by
  have h0 : decide ((0 : Int) ≤ (n : Int)) = true := by simp
  have h1 : decide ((n : Int) ≤ 64) = true := by simp; omega
  have HN := Lib.hid (fun w => new_yes n hn w)
  have HS := Lib.hid (fun w => new_st n hn w)
  have HH := Lib.hid (fun w => rhas_any n a hn ha w)
  have HL := Lib.hid (fun w => rbelow_any n a b hn ha hb w)
  have HJ := Lib.hid (fun w => rjoin_any n a b hn ha hb w)
  have HM := Lib.hid (fun w => rmeet_any n a b hn ha hb w)
  have HT := Lib.hid (fun w => rtop_any n hn w)
  have KH := Lib.hid (fun w p h => has_any p (some (full n)) a ha w h)
  have KL := Lib.hid (fun w p h => below_any p (some (full n)) a b ha hb w h)
  have KJ := Lib.hid (fun w p h => join_any p (some (full n)) a b ha hb w h)
  have KM := Lib.hid (fun w p h => meet_any p (some (full n)) a b ha hb w h)
  have KT := Lib.hid (fun w p h => top_any p (some (full n)) w h)
  clear hn ha hb
  unfold topM at KT
  generalize hasM (some (full n)) a = r1 at HH KH
  generalize belowM (some (full n)) a b = r2 at HL KL
  generalize joinM (some (full n)) a b = r3 at HJ KJ
  generalize meetM (some (full n)) a b = r4 at HM KM
  generalize full n = t at *
  go_enter Try.func4, Try.ntmps4
  go_wp2_with fail
  refine (HN.out _).mono ?_
  rintro e w1 ⟨rfl, hw1⟩
  have HX1 := Lib.hid (show St w1 (some ⟨w.heap.size, 0, none⟩) (some t) by subst hw1; exact HS.out w)
  have HB1 := Lib.hid (show Below w.heap.size w w1 by subst hw1; exact (Below.refl _ w).alloc (Nat.le_refl _) _)
  clear hw1
  go_wp2_with fail
  refine (KH.out _ _ HX1.out).mono ?_
  rintro e w2 ⟨rfl, hb2⟩
  have HX2 := Lib.hid (HX1.out.below hb2)
  have HB2 := Lib.hid (on HB1.out hb2)
  clear hb2 HX1 HB1
  go_wp2_with fail
  refine (HH.out _).mono ?_
  rintro e w' ⟨rfl, rfl⟩
  go_wp2_with fail
  refine (KL.out _ _ HX2.out).mono ?_
  rintro e w3 ⟨rfl, hb3⟩
  have HX3 := Lib.hid (HX2.out.below hb3)
  have HB3 := Lib.hid (on HB2.out hb3)
  clear hb3 HB2 HX2
  go_wp2_with fail
  refine (HL.out _).mono ?_
  rintro e w' ⟨rfl, rfl⟩
  go_wp2_with fail
  refine (KJ.out _ _ HX3.out).mono ?_
  rintro e w4 ⟨rfl, hb4⟩
  have HX4 := Lib.hid (HX3.out.below hb4)
  have HB4 := Lib.hid (on HB3.out hb4)
  clear hb4 HB3 HX3
  go_wp2_with fail
  refine (HJ.out _).mono ?_
  rintro e w' ⟨rfl, rfl⟩
  go_wp2_with fail
  refine (KM.out _ _ HX4.out).mono ?_
  rintro e w5 ⟨rfl, hb5⟩
  have HX5 := Lib.hid (HX4.out.below hb5)
  have HB5 := Lib.hid (on HB4.out hb5)
  clear hb5 HB4 HX4
  go_wp2_with fail
  refine (HM.out _).mono ?_
  rintro e w' ⟨rfl, rfl⟩
  go_wp2_with fail
  refine (bottom_any _ _).mono ?_
  rintro e w' ⟨rfl, rfl⟩
  go_wp2_with fail
  refine (KT.out _ _ HX5.out).mono ?_
  rintro e w' ⟨rfl, rfl⟩
  go_wp2_with fail
  refine (HT.out _).mono ?_
  rintro e w' ⟨rfl, rfl⟩
  go_wp2
  go_ret
  exact ⟨rfl, HB5.out⟩
theorem of_out (n : Int) (a b : Nat) (hn : n < 0 ∨ 64 < n) (w : World) : Calls Try.prog 4 #[.int .i64 n, .int .u64 (a : Int), .int .u64 (b : Int)] w fun e w' => e = .returned (.bool true) ∧ Below w.heap.size w w' := by
  have HN := Lib.hid (fun w => new_no n hn w)
  rcases hn with hn | hn
  · have h0 : decide ((0 : Int) ≤ n) = false := by simp; omega
    clear hn
    go_enter Try.func4, Try.ntmps4
    go_wp2_with fail
    refine (HN.out _).mono ?_
    rintro e w1 ⟨rfl, hb⟩
    go_wp2
    go_ret
    exact ⟨rfl, hb⟩
  · have h0 : decide ((0 : Int) ≤ n) = true := by simp; omega
    have h1 : decide (n ≤ 64) = false := by simp; omega
    clear hn
    go_enter Try.func4, Try.ntmps4
    go_wp2_with fail
    refine (HN.out _).mono ?_
    rintro e w1 ⟨rfl, hb⟩
    go_wp2
    go_ret
    exact ⟨rfl, hb⟩
theorem of_walk (n a b : Int) (w : World) (_hn : (Lit.int .i64 n).wf = true) (ha : (Lit.int .u64 a).wf = true) (hb : (Lit.int .u64 b).wf = true) : Calls Try.prog 4 #[.int .i64 n, .int .u64 a, .int .u64 b] w fun e w' => e = .returned (.bool true) ∧ Below w.heap.size w w' := by
  obtain ⟨x, rfl, hx⟩ := nat_of_u64 ha
  obtain ⟨y, rfl, hy⟩ := nat_of_u64 hb
  by_cases h : 0 ≤ n ∧ n ≤ 64
  · obtain ⟨m, rfl⟩ : ∃ m : Nat, n = (m : Int) := ⟨n.toNat, by omega⟩
    exact of_in m x y (by omega) hx hy w
  · exact of_out n x y (by omega) w
theorem list_below {w w' : World} {B : Nat} {o : Obj} (h : w.heap[B]? = some o) (hb : Below w.heap.size w w') : w'.heap[B]? = some o := (hb.block B (by rcases Nat.lt_or_ge B w.heap.size with h' | h'; exact h'; rw [Array.getElem?_eq_none h'] at h; cases h)).trans h
set_option maxHeartbeats 4000000 in
theorem none_walk (a b : Int) (w : World) (ha : (Lit.int .u64 a).wf = true) (hb : (Lit.int .u64 b).wf = true) : Calls Try.prog 5 #[.int .u64 a, .int .u64 b] w fun e w' => e = .returned (.bool true) ∧ Below w.heap.size w w' := by
  obtain ⟨x, rfl, hx⟩ := nat_of_u64 ha
  obtain ⟨y, rfl, hy⟩ := nat_of_u64 hb
  have HX := Lib.hid hx
  have HY := Lib.hid hy
  clear ha hb hx hy
  go_enter Try.func5, Try.ntmps5
  go_wp2
  go_loopw [6] (fun i w' => ∃ k : Nat, k ≤ 2 ∧ i = .int .i64 k ∧ Hid (Below w.heap.size w w') ∧ Hid (w'.heap[w.heap.size + 1]? = some (.cells #[.pointer none, .pointer (some ⟨w.heap.size, 0, none⟩)] 24 (0, 0))) ∧ Hid (w'.cell? ⟨w.heap.size, 0, none⟩ = some (.bool false))) (fun i _ => 2 - (intOf i).toNat)
  case atStart => exact ⟨0, by omega, rfl, ((Below.refl _ w).alloc (Nat.le_refl _) _).alloc (by rw [alloc_size]; omega) _, by rw [← alloc_size]; exact heap_alloc_new _ _, by rw [cell_of_row _ _ _ _ _ _ (by rw [Below.heap_alloc _ _ _ (by rw [alloc_size]; omega)]; exact heap_alloc_new w _)]; rfl⟩
  case round =>
    obtain ⟨k, hk, rfl, HB, HL, HC⟩ := hrel
    by_cases hlt : k < 2
    · obtain ⟨q, hq1, hq2⟩ : ∃ q, wr.cell? ⟨w.heap.size + 1, k, none⟩ = some (.pointer q) ∧ Not wr q := by
        have h : k = 0 ∨ k = 1 := by omega
        rcases h with rfl | rfl
        · exact ⟨none, by rw [cell_of_row _ _ _ _ _ _ HL.out]; rfl, .inl rfl⟩
        · exact ⟨_, by rw [cell_of_row _ _ _ _ _ _ HL.out]; rfl, .inr ⟨_, _, rfl, HC.out⟩⟩
      have KA := Lib.hid (show ∀ w', Not w' q → Calls Try.prog 13 #[.pointer q, .int .u64 (x : Int)] w' fun e w'' => e = .returned (.bool false) ∧ Below w'.heap.size w' w'' from fun w' h => has_any q none x HX.out w' (.not h))
      have KB := Lib.hid (show ∀ w', Not w' q → Calls Try.prog 10 #[.pointer q, .int .u64 (x : Int), .int .u64 (y : Int)] w' fun e w'' => e = .returned (.bool false) ∧ Below w'.heap.size w' w'' from fun w' h => below_any q none x y HX.out HY.out w' (.not h))
      have KJ := Lib.hid (show ∀ w', Not w' q → Calls Try.prog 11 #[.pointer q, .int .u64 (x : Int), .int .u64 (y : Int)] w' fun e w'' => e = .returned (.int .u64 0) ∧ Below w'.heap.size w' w'' from fun w' h => join_any q none x y HX.out HY.out w' (.not h))
      have KM := Lib.hid (show ∀ w', Not w' q → Calls Try.prog 12 #[.pointer q, .int .u64 (x : Int), .int .u64 (y : Int)] w' fun e w'' => e = .returned (.int .u64 0) ∧ Below w'.heap.size w' w'' from fun w' h => meet_any q none x y HX.out HY.out w' (.not h))
      have KT := Lib.hid (show ∀ w', Not w' q → Calls Try.prog 8 #[.pointer q] w' fun e w'' => e = .returned (.int .u64 0) ∧ w' = w'' from fun w' h => top_any q none w' (.not h))
      have i0 : (0 : Int) ≤ (k : Int) := by omega
      have i1 : (k : Int) < 2 := by omega
      have i6 : ((k : Int)).toNat = k := by omega
      have HQ0 := Lib.hid hq2
      have HB0 := HB
      have HL0 := HL
      have HC0 := HC
      have hq0 := hq1
      have HLT := Lib.hid hlt
      clear hlt hk hq2 hq1 HB HL HC
      go_wp2_with fail
      refine (KA.out _ HQ0.out).mono ?_
      rintro e w1 ⟨rfl, hb1⟩
      have hq1 := (hb1.cell (World.block_lt_of_cell? _ _ hq0)).trans hq0
      have HQ1 := Lib.hid (HQ0.out.below hb1)
      have HB1 := Lib.hid (on HB0.out hb1)
      have HC1 := Lib.hid ((hb1.cell (World.block_lt_of_cell? _ _ HC0.out)).trans HC0.out)
      have HL1 := Lib.hid (list_below HL0.out hb1)
      clear hb1 hq0 HQ0 HB0 HC0 HL0
      go_wp2_with fail
      refine (KB.out _ HQ1.out).mono ?_
      rintro e w2 ⟨rfl, hb2⟩
      have hq2 := (hb2.cell (World.block_lt_of_cell? _ _ hq1)).trans hq1
      have HQ2 := Lib.hid (HQ1.out.below hb2)
      have HB2 := Lib.hid (on HB1.out hb2)
      have HC2 := Lib.hid ((hb2.cell (World.block_lt_of_cell? _ _ HC1.out)).trans HC1.out)
      have HL2 := Lib.hid (list_below HL1.out hb2)
      clear hb2 hq1 HQ1 HB1 HC1 HL1
      go_wp2_with fail
      refine (KJ.out _ HQ2.out).mono ?_
      rintro e w3 ⟨rfl, hb3⟩
      have hq3 := (hb3.cell (World.block_lt_of_cell? _ _ hq2)).trans hq2
      have HQ3 := Lib.hid (HQ2.out.below hb3)
      have HB3 := Lib.hid (on HB2.out hb3)
      have HC3 := Lib.hid ((hb3.cell (World.block_lt_of_cell? _ _ HC2.out)).trans HC2.out)
      have HL3 := Lib.hid (list_below HL2.out hb3)
      clear hb3 hq2 HQ2 HB2 HC2 HL2
      go_wp2_with fail
      refine (KM.out _ HQ3.out).mono ?_
      rintro e w4 ⟨rfl, hb4⟩
      have hq4 := (hb4.cell (World.block_lt_of_cell? _ _ hq3)).trans hq3
      have HQ4 := Lib.hid (HQ3.out.below hb4)
      have HB4 := Lib.hid (on HB3.out hb4)
      have HC4 := Lib.hid ((hb4.cell (World.block_lt_of_cell? _ _ HC3.out)).trans HC3.out)
      have HL4 := Lib.hid (list_below HL3.out hb4)
      clear hb4 hq3 HQ3 HB3 HC3 HL3
      go_wp2_with fail
      refine (bottom_any _ _).mono ?_
      rintro e w' ⟨rfl, rfl⟩
      go_wp2_with fail
      refine (KT.out _ HQ4.out).mono ?_
      rintro e w' ⟨rfl, rfl⟩
      go_wp2
      go_roundw
      case rel => exact ⟨k + 1, by have := HLT.out; omega, by go_num, HB4, HL4, HC4⟩
      case measure => have := HLT.out; simp [intOf]; omega
    · obtain rfl : k = 2 := by omega
      go_wp2_with fail
      refine (alive_any _).mono ?_
      rintro e w' ⟨rfl, hb⟩
      go_wp2
      go_ret
      exact ⟨rfl, on HB.out hb⟩
end Go.Proofs.Ythdgblfjgocnlaa
