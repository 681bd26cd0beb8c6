/- What is alive of orders: some answers that the document fixes. -/
import Derived.Test.YtnbjfdnhddkhpaaDoorSame
namespace Go.Proofs.YtnbjfdnhddkhpaaDoor
open Go.RowKit Go.Proofs.YtnbjfdnhddkhpaaDoorW.PrintWords
theorem prs_lit1 (W : World) (x y : Nat) (hx : x < 100) (hy : y < 100) : Prs (W.alloc (.cells #[.int .i64 (x : Int), .int .i64 (y : Int)] 35)) (some ⟨W.heap.size, 0, none⟩) [((x : Int), (y : Int))] := by
  have hB := heap_alloc_new W (.cells #[.int .i64 (x : Int), .int .i64 (y : Int)] 35)
  intro k hk
  obtain rfl : k = 0 := by simp at hk; exact hk
  exact ⟨_, 0, rfl, by rw [cell_of_row _ _ _ _ _ _ hB]; rfl, by rw [cell_of_row _ _ _ _ _ _ hB]; rfl, by simp; omega, by simp; omega⟩
theorem prs_lit2 (W : World) (x y z u : Nat) (hx : x < 100) (hy : y < 100) (hz : z < 100) (hu : u < 100) : Prs (W.alloc (.cells #[.int .i64 (x : Int), .int .i64 (y : Int), .int .i64 (z : Int), .int .i64 (u : Int)] 35)) (some ⟨W.heap.size, 0, none⟩) [((x : Int), (y : Int)), ((z : Int), (u : Int))] := by
  have hB := heap_alloc_new W (.cells #[.int .i64 (x : Int), .int .i64 (y : Int), .int .i64 (z : Int), .int .i64 (u : Int)] 35)
  intro k hk
  have hk' : k = 0 ∨ k = 1 := by simp at hk; omega
  rcases hk' with rfl | rfl
  · exact ⟨_, 0, rfl, by rw [cell_of_row _ _ _ _ _ _ hB]; rfl, by rw [cell_of_row _ _ _ _ _ _ hB]; rfl, by simp; omega, by simp; omega⟩
  · exact ⟨_, 0, rfl, by rw [cell_of_row _ _ _ _ _ _ hB]; rfl, by rw [cell_of_row _ _ _ _ _ _ hB]; rfl, by simp; omega, by simp; omega⟩
def LA : List (Int × Int) := [(0, 1), (1, 2)]
def LB : List (Int × Int) := [(0, 1), (1, 0)]
def LC : List (Int × Int) := [(0, 2)]
theorem inr_LA : InR 3 LA := by
  intro p hp
  simp [LA] at hp
  rcases hp with rfl | rfl <;> simp
theorem mem_LA {a b : Nat} (h : ((a : Int), (b : Int)) ∈ LA) : (a = 0 ∧ b = 1) ∨ (a = 1 ∧ b = 2) := by
  simp [LA] at h
  omega
theorem le_LA {i j : Nat} (h : Rch LA i j) : i ≤ j := by
  refine Rch.least (R := fun i j => i ≤ j) (Nat.le_refl _) ?_ h
  intro a b h hm
  rcases mem_LA hm with ⟨rfl, rfl⟩ | ⟨rfl, rfl⟩ <;> omega
theorem anti_LA : Anti 3 LA := fun i j _ _ h1 h2 => by
  have := le_LA h1
  have := le_LA h2
  omega
theorem cl_LA : Cl 3 LA [7, 6, 4] := by
  refine ⟨rfl, by simp, fun i j hi => ⟨fun h => ?_, fun h => ?_⟩⟩
  · have h01 : Rch LA 0 1 := .one (by simp [LA])
    have h12 : Rch LA 1 2 := .one (by simp [LA])
    have hj : j < 3 := by
      have h2 : [7, 6, 4].getD i 0 < 2 ^ 3 := by
        have hi' : i = 0 ∨ i = 1 ∨ i = 2 := by omega
        rcases hi' with rfl | rfl | rfl <;> decide
      by_cases hj : j < 3
      · exact hj
      · rw [Nat.testBit_lt_two_pow (Nat.lt_of_lt_of_le h2 (Nat.pow_le_pow_right (by omega) (by omega)))] at h
        cases h
    have hi' : i = 0 ∨ i = 1 ∨ i = 2 := by omega
    have hj' : j = 0 ∨ j = 1 ∨ j = 2 := by omega
    rcases hi' with rfl | rfl | rfl <;> rcases hj' with rfl | rfl | rfl
    all_goals first
      | exact .refl _
      | exact h01
      | exact h12
      | exact h01.trans h12
      | (exfalso; revert h; decide)
  · refine Rch.least (R := fun i j => ([7, 6, 4].getD i 0).testBit j = true) ?_ ?_ h
    · have hi' : i = 0 ∨ i = 1 ∨ i = 2 := by omega
      rcases hi' with rfl | rfl | rfl <;> decide
    · intro a b ha hm
      have hi' : i = 0 ∨ i = 1 ∨ i = 2 := by omega
      rcases mem_LA hm with ⟨rfl, rfl⟩ | ⟨rfl, rfl⟩ <;> rcases hi' with rfl | rfl | rfl
      all_goals first
        | decide
        | (exfalso; revert ha; decide)
theorem inr_LB : InR 2 LB := by
  intro p hp
  simp [LB] at hp
  rcases hp with rfl | rfl <;> simp
theorem anti_LB : ¬ Anti 2 LB := fun h => by
  have := h 0 1 (by omega) (by omega) (.one (by simp [LB])) (.one (by simp [LB]))
  omega
theorem inr_LC : ¬ InR 2 LC := fun h => by
  have := h (0, 2) (by simp [LC])
  simp at this
theorem closeA (W : World) : Calls Tryd.prog 14 #[.int .i64 3, .slice (some ⟨W.heap.size, 0, none⟩) 2 2] (W.alloc (.cells #[.int .i64 0, .int .i64 1, .int .i64 1, .int .i64 2] 35)) fun e w' => (∃ B, e = .returned (.tuple #[.slice (some ⟨B, 0, none⟩) 3 3, .int .i64 0]) ∧ w'.heap[B]? = some (.cells (nums .u64 (intsN [7, 6, 4])).toArray 23 (0, 0))) ∧ Below W.heap.size W w' :=
  (close_all 3 _ 2 2 LA rfl (by omega) _ (prs_lit2 W 0 1 1 2 (by omega) (by omega) (by omega) (by omega))).mono (by
    rintro e w' ⟨hb, ⟨h, _⟩ | ⟨_, h, _⟩ | ⟨_, _, B, rows, rfl, _, hc, hB⟩⟩
    · rcases h with h | h | h
      · omega
      · omega
      · exact absurd inr_LA h
    · exact absurd anti_LA h
    · rw [hc.uniq cl_LA] at hB
      exact ⟨⟨B, rfl, hB⟩, lit_on hb⟩)
theorem closeB (W : World) : Calls Tryd.prog 14 #[.int .i64 2, .slice (some ⟨W.heap.size, 0, none⟩) 2 2] (W.alloc (.cells #[.int .i64 0, .int .i64 1, .int .i64 1, .int .i64 0] 35)) fun e w' => e = .returned (.tuple #[.slice none 0 0, .int .i64 9]) ∧ Below W.heap.size W w' :=
  (close_all 2 _ 2 2 LB rfl (by omega) _ (prs_lit2 W 0 1 1 0 (by omega) (by omega) (by omega) (by omega))).mono (by
    rintro e w' ⟨hb, ⟨h, _⟩ | ⟨_, _, rfl⟩ | ⟨_, h, _⟩⟩
    · rcases h with h | h | h
      · omega
      · omega
      · exact absurd inr_LB h
    · exact ⟨rfl, lit_on hb⟩
    · exact absurd h anti_LB)
theorem closeC (W : World) : Calls Tryd.prog 14 #[.int .i64 2, .slice (some ⟨W.heap.size, 0, none⟩) 1 1] (W.alloc (.cells #[.int .i64 0, .int .i64 2] 35)) fun e w' => e = .returned (.tuple #[.slice none 0 0, .int .i64 1]) ∧ Below W.heap.size W w' :=
  (close_all 2 _ 1 1 LC rfl (by omega) _ (prs_lit1 W 0 2 (by omega) (by omega))).mono (by
    rintro e w' ⟨hb, ⟨_, rfl⟩ | ⟨⟨_, _, h⟩, _, _⟩ | ⟨⟨_, _, h⟩, _⟩⟩
    · exact ⟨rfl, lit_on hb⟩
    · exact absurd h inr_LC
    · exact absurd h inr_LC)
theorem check1 (W : World) (x r : Nat) (hx : x < 18446744073709551616) (hr : checkR [x] = r) (hT : Tab W) : Calls Tryd.prog 8 #[.slice (some ⟨W.heap.size, 0, none⟩) 1 1] (W.alloc (.cells #[.int .u64 (x : Int)] 23)) fun e w' => e = .returned (.int .i64 (r : Int)) ∧ Below W.heap.size W w' :=
  (check_any _ 1 1 [x] rfl (by omega) _ (nums_lit W [x] (by simp; omega)) (hT.below (lit_below W _))).mono (by
    rintro e w' ⟨rfl, hb⟩
    exact ⟨by rw [hr], lit_on hb⟩)
theorem check2 (W : World) (x y r : Nat) (hx : x < 18446744073709551616) (hy : y < 18446744073709551616) (hr : checkR [x, y] = r) (hT : Tab W) : Calls Tryd.prog 8 #[.slice (some ⟨W.heap.size, 0, none⟩) 2 2] (W.alloc (.cells #[.int .u64 (x : Int), .int .u64 (y : Int)] 23)) fun e w' => e = .returned (.int .i64 (r : Int)) ∧ Below W.heap.size W w' :=
  (check_any _ 2 2 [x, y] rfl (by omega) _ (nums_lit W [x, y] (by simp; omega)) (hT.below (lit_below W _))).mono (by
    rintro e w' ⟨rfl, hb⟩
    exact ⟨by rw [hr], lit_on hb⟩)
theorem check0 (W : World) (hT : Tab W) : Calls Tryd.prog 8 #[.slice none 0 0] W fun e w' => e = .returned (.int .i64 1) ∧ Below W.heap.size W w' :=
  (check_any _ 0 0 [] rfl (by omega) _ ⟨by simp, by simp⟩ hT).mono (by
    rintro e w' ⟨rfl, hb⟩
    exact ⟨rfl, hb⟩)
theorem below32 (W : World) (a b : Nat) (r : Bool) (ha : a < 18446744073709551616) (hb : b < 18446744073709551616) (hr : rowB [3, 2] a b = r) : Calls Tryd.prog 10 #[.slice (some ⟨W.heap.size, 0, none⟩) 2 2, .int .u64 (a : Int), .int .u64 (b : Int)] (W.alloc (.cells #[.int .u64 3, .int .u64 2] 23)) fun e w' => e = .returned (.bool r) ∧ Below W.heap.size W w' :=
  (below_any _ 2 2 [3, 2] rfl (by omega) a b ha hb _ (nums_lit W [3, 2] (by simp))).mono (by
    rintro e w' ⟨rfl, rfl⟩
    exact ⟨by rw [hr], lit_below W _⟩)
theorem sameA (W : World) (B : Nat) (h : W.heap[B]? = some (.cells (nums .u64 (intsN [7, 6, 4])).toArray 23 (0, 0))) : Calls Tryd.prog 15 #[.slice (some ⟨B, 0, none⟩) 3 3, .slice (some ⟨W.heap.size, 0, none⟩) 3 3] (W.alloc (.cells #[.int .u64 7, .int .u64 6, .int .u64 4] 23)) fun e w' => e = .returned (.bool true) ∧ Below W.heap.size W w' :=
  (same_nums _ 3 3 _ 3 3 [7, 6, 4] [7, 6, 4] rfl rfl (by omega) (by omega) _ (nums_cells (blk_below2 h (lit_below W _)) (by simp)) (nums_lit W [7, 6, 4] (by simp))).mono (by
    rintro e w' ⟨rfl, hb⟩
    exact ⟨by simp, lit_on hb⟩)
theorem r1 : checkR [1] = 0 := by decide +kernel
theorem r32 : checkR [3, 2] = 0 := by decide +kernel
theorem r12 : checkR [1, 2] = 7 := by decide +kernel
theorem r33 : checkR [3, 3] = 9 := by decide +kernel
theorem b01 : rowB [3, 2] 0 1 = true := by decide +kernel
theorem b10 : rowB [3, 2] 1 0 = false := by decide +kernel
theorem b02 : rowB [3, 2] 0 2 = false := by decide +kernel
set_option maxRecDepth 100000 in
set_option maxHeartbeats 2000000 in
theorem alive_any (w : World) (hT : Tab w) : Calls Tryd.prog 13 #[] w fun e w' => e = .returned (.bool true) ∧ Below w.heap.size w w' := by
  have HB0 := Lib.hid (Below.refl w.heap.size w)
  have HT := Lib.hid hT
  clear hT
  go_enter Tryd.func13, Tryd.ntmps13
  go_wp2_with fail
  refine (closeA _).mono ?_
  rintro e w1 ⟨⟨BA, rfl, hA⟩, hb1⟩
  have HB1 := Lib.hid (on HB0.out hb1)
  have HA1 := Lib.hid hA
  clear hA
  clear hb1 HB0
  go_wp2_with fail
  refine (closeB _).mono ?_
  rintro e w2 ⟨rfl, hb2⟩
  have HB2 := Lib.hid (on HB1.out hb2)
  have HA2 := Lib.hid (blk_below2 HA1.out hb2)
  clear HA1
  clear hb2 HB1
  go_wp2_with fail
  refine (closeC _).mono ?_
  rintro e w3 ⟨rfl, hb3⟩
  have HB3 := Lib.hid (on HB2.out hb3)
  have HA3 := Lib.hid (blk_below2 HA2.out hb3)
  clear HA2
  clear hb3 HB2
  go_wp2_with fail
  refine (check1 _ 1 0 (by omega) r1 (HT.out.below HB3.out)).mono ?_
  rintro e w4 ⟨rfl, hb4⟩
  have HB4 := Lib.hid (on HB3.out hb4)
  have HA4 := Lib.hid (blk_below2 HA3.out hb4)
  clear HA3
  clear hb4 HB3
  go_wp2_with fail
  refine (check2 _ 3 2 0 (by omega) (by omega) r32 (HT.out.below HB4.out)).mono ?_
  rintro e w5 ⟨rfl, hb5⟩
  have HB5 := Lib.hid (on HB4.out hb5)
  have HA5 := Lib.hid (blk_below2 HA4.out hb5)
  clear HA4
  clear hb5 HB4
  go_wp2_with fail
  refine (check2 _ 1 2 7 (by omega) (by omega) r12 (HT.out.below HB5.out)).mono ?_
  rintro e w6 ⟨rfl, hb6⟩
  have HB6 := Lib.hid (on HB5.out hb6)
  have HA6 := Lib.hid (blk_below2 HA5.out hb6)
  clear HA5
  clear hb6 HB5
  go_wp2_with fail
  refine (check2 _ 3 3 9 (by omega) (by omega) r33 (HT.out.below HB6.out)).mono ?_
  rintro e w7 ⟨rfl, hb7⟩
  have HB7 := Lib.hid (on HB6.out hb7)
  have HA7 := Lib.hid (blk_below2 HA6.out hb7)
  clear HA6
  clear hb7 HB6
  go_wp2_with fail
  refine (check0 _ (HT.out.below HB7.out)).mono ?_
  rintro e w8 ⟨rfl, hb8⟩
  have HB8 := Lib.hid (on HB7.out hb8)
  have HA8 := Lib.hid (blk_below2 HA7.out hb8)
  clear HA7
  clear hb8 HB7
  go_wp2_with fail
  refine (sameA _ BA HA8.out).mono ?_
  rintro e w9 ⟨rfl, hb9⟩
  have HB9 := Lib.hid (on HB8.out hb9)
  clear hb9 HB8
  go_wp2_with fail
  refine (below32 _ 0 1 true (by omega) (by omega) b01).mono ?_
  rintro e w10 ⟨rfl, hb10⟩
  have HB10 := Lib.hid (on HB9.out hb10)
  clear hb10 HB9
  go_wp2_with fail
  refine (below32 _ 1 0 false (by omega) (by omega) b10).mono ?_
  rintro e w11 ⟨rfl, hb11⟩
  have HB11 := Lib.hid (on HB10.out hb11)
  clear hb11 HB10
  go_wp2_with fail
  refine (below32 _ 0 2 false (by omega) (by omega) b02).mono ?_
  rintro e w12 ⟨rfl, hb12⟩
  have HB12 := Lib.hid (on HB11.out hb12)
  clear hb12 HB11
  go_wp2
  go_ret
  exact ⟨rfl, HB12.out⟩
end Go.Proofs.YtnbjfdnhddkhpaaDoor
