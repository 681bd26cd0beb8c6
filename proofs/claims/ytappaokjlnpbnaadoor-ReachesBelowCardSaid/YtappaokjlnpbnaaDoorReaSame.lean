/- Whether two lists of lists of bools are the same, whether one is a square, and what a bound's sides are: the program's contracts. -/
import Derived.Test.YtappaokjlnpbnaaDoorReaOf
import Derived.Deep.RegionHeld3
namespace Go.Proofs.YtappaokjlnpbnaaDoor.Rea
open Go.RowKit
/-- the same bools. -/
def same (n : Nat) (f g : Nat → Bool) : Bool := (List.range n).all fun j => f j == g j
def sameM (n : Nat) (M N : Nat → Nat → Bool) : Bool := (List.range n).all fun i => same n (M i) (N i)
theorem same_no {n k : Nat} {f g : Nat → Bool} (hk : k < n) (h : f k ≠ g k) : same n f g = false := by
  rw [Bool.eq_false_iff]
  intro ha
  simp only [same, List.all_eq_true, List.mem_range, beq_iff_eq] at ha
  exact h (ha k hk)
theorem same_yes {n : Nat} {f g : Nat → Bool} (h : ∀ j, j < n → f j = g j) : same n f g = true := by
  simp only [same, List.all_eq_true, List.mem_range, beq_iff_eq]
  exact h
theorem sameM_no {n k : Nat} {M N : Nat → Nat → Bool} (hk : k < n) (h : same n (M k) (N k) = false) : sameM n M N = false := by
  rw [Bool.eq_false_iff]
  intro ha
  simp only [sameM, List.all_eq_true, List.mem_range] at ha
  rw [ha k hk] at h
  cases h
theorem sameM_yes {n : Nat} {M N : Nat → Nat → Bool} (h : ∀ i, i < n → same n (M i) (N i) = true) : sameM n M N = true := by
  simp only [sameM, List.all_eq_true, List.mem_range]
  exact h
theorem IsM.below {w w' : World} {a : Option Addr} {n : Nat} {M : Nat → Nat → Bool} (h : IsM w a n M) (hb : Below w.heap.size w w') : IsM w' a n M := by
  intro i hi
  obtain ⟨O, e, g, h1, h2⟩ := h i hi
  exact ⟨O, e, g, (hb.cell (World.block_lt_of_cell? w _ h1)).trans h1, fun j hj => (hb.cell (World.block_lt_of_cell? w _ (h2 j hj))).trans (h2 j hj)⟩
/-- bools in a block. -/
def Bs (w : World) (g n : Nat) (f : Nat → Bool) : Prop := ∀ j, j < n → w.cell? ⟨g, j, none⟩ = some (.bool (f j))
theorem Bs.below {w w' : World} {g n : Nat} {f : Nat → Bool} (h : Bs w g n f) (hb : Below w.heap.size w w') : Bs w' g n f := fun j hj => (hb.cell (World.block_lt_of_cell? w _ (h j hj))).trans (h j hj)
set_option maxHeartbeats 1000000 in
theorem bools_any (ga gb n : Nat) (hn : n ≤ 64) (f g : Nat → Bool) (w : World) (ha : Bs w ga n f) (hb : Bs w gb n g) : Calls Tryd.prog 77 #[.slice (some ⟨ga, 0, none⟩) n n, .slice (some ⟨gb, 0, none⟩) n n] w fun e w' => e = .returned (.bool (same n f g)) ∧ Below w.heap.size w w' := by
  have HA := Lib.hid ha
  have HB := Lib.hid hb
  clear ha hb
  go_enter Tryd.func77, Tryd.ntmps77
  go_wp2
  go_loopw [5] (fun i wr => ∃ k : Nat, k ≤ n ∧ i = .int .i64 k ∧ Hid (∀ j, j < k → f j = g j) ∧ Hid (Below w.heap.size w wr)) (fun i _ => n - (intOf i).toNat)
  case atStart => exact ⟨0, by omega, rfl, fun j hj => by omega, Below.refl _ w⟩
  case round =>
    obtain ⟨k, hk, rfl, HE, HW⟩ := hrel
    by_cases hlt : k < n
    · have c1 := HA.out.below HW.out k hlt
      have c2 := HB.out.below HW.out k hlt
      obtain ⟨p, hp⟩ : ∃ p, p = f k := ⟨_, rfl⟩
      obtain ⟨q, hq⟩ : ∃ q, q = g k := ⟨_, rfl⟩
      rw [← hp] at c1
      rw [← hq] at c2
      have HP := Lib.hid hp
      have HQ := Lib.hid hq
      clear hp hq
      by_cases e : p = q
      · subst e
        go_wp2
        go_region
        go_wp2
        go_roundw
        case rel => exact ⟨k + 1, by omega, by go_num, fun j hj => by
          by_cases ej : j = k
          · subst ej; rw [← HP.out, ← HQ.out]
          · exact HE.out j (by omega), HW.out.drew⟩
        case measure => simp [intOf]; omega
      · have HN := Lib.hid e
        have e1 : (p == q) = false := by simpa using e
        have e2 : (p != q) = true := by simpa using e
        go_wp2
        go_region
        go_wp2
        go_ret
        exact ⟨ret_bool (same_no hlt (by rw [← HP.out, ← HQ.out]; exact HN.out)).symm, HW.out.drew⟩
    · obtain rfl : k = n := by omega
      go_wp2
      go_ret
      exact ⟨ret_bool (same_yes HE.out).symm, HW.out⟩
set_option maxHeartbeats 2000000 in
theorem lists_any (a b : Option Addr) (n : Nat) (hn : n ≤ 64) (M N : Nat → Nat → Bool) (w : World) (ha : IsM w a n M) (hb : IsM w b n N) : Calls Tryd.prog 69 #[.slice a n n, .slice b n n] w fun e w' => e = .returned (.bool (sameM n M N)) ∧ Below w.heap.size w w' := by
  have HA := Lib.hid ha
  have HB := Lib.hid hb
  clear ha hb
  go_enter Tryd.func69, Tryd.ntmps69
  go_wp2
  go_loopw [5] (fun i wr => ∃ k : Nat, k ≤ n ∧ i = .int .i64 k ∧ Hid (∀ j, j < k → same n (M j) (N j) = true) ∧ Hid (Below w.heap.size w wr)) (fun i _ => n - (intOf i).toNat)
  case atStart => exact ⟨0, by omega, rfl, fun j hj => by omega, Below.refl _ w⟩
  case round =>
    obtain ⟨k, hk, rfl, HE, HW⟩ := hrel
    by_cases hlt : k < n
    · obtain ⟨O1, e1, g1, c1, d1⟩ := HA.out.below HW.out k hlt
      obtain ⟨O2, e2, g2, c2, d2⟩ := HB.out.below HW.out k hlt
      subst e1 e2
      obtain ⟨r, hr⟩ : ∃ r, r = same n (M k) (N k) := ⟨_, rfl⟩
      have D1 := Lib.hid (show Bs wr g1 n (M k) from d1)
      have D2 := Lib.hid (show Bs wr g2 n (N k) from d2)
      have KC := Lib.hid (fun W (h : W.cell? ⟨O1, k, none⟩ = some (.slice (some ⟨g1, 0, none⟩) n n) ∧ W.cell? ⟨O2, k, none⟩ = some (.slice (some ⟨g2, 0, none⟩) n n) ∧ Below wr.heap.size wr W) => (by
        rw [hr]
        refine (bools_any g1 g2 n hn (M k) (N k) W (D1.out.below h.2.2) (D2.out.below h.2.2)).mono ?_
        rintro e W' ⟨rfl, hb⟩
        exact ⟨rfl, (hb.cell (World.block_lt_of_cell? W _ h.1)).trans h.1, (hb.cell (World.block_lt_of_cell? W _ h.2.1)).trans h.2.1, on h.2.2 hb⟩ :
          Calls Tryd.prog 77 #[.slice (some ⟨g1, 0, none⟩) n n, .slice (some ⟨g2, 0, none⟩) n n] W fun e W' => e = .returned (.bool r) ∧ W'.cell? ⟨O1, k, none⟩ = some (.slice (some ⟨g1, 0, none⟩) n n) ∧ W'.cell? ⟨O2, k, none⟩ = some (.slice (some ⟨g2, 0, none⟩) n n) ∧ Below wr.heap.size wr W'))
      have RF := Below.refl wr.heap.size wr
      have i0 : (0 : Int) ≤ (k : Int) := by omega
      have i1 : (k : Int) < (n : Int) := by omega
      have i6 : ((k : Int)).toNat = k := by omega
      have HR := Lib.hid hr
      clear hr d1 d2
      go_wp2
      go_region_held3 (fun W => W.cell? ⟨O1, k, none⟩ = some (.slice (some ⟨g1, 0, none⟩) n n) ∧ W.cell? ⟨O2, k, none⟩ = some (.slice (some ⟨g2, 0, none⟩) n n) ∧ Below wr.heap.size wr W) (first | exact ⟨by assumption, by assumption, by first | assumption | exact Below.drew (by assumption)⟩)
        (first | (go_at_call 77; refine (KC.out _ ⟨by assumption, by assumption, by first | assumption | exact Below.drew (by assumption)⟩).mono ?_; rintro e w' ⟨rfl, h1, h2, h3⟩))
      have HW3 := Lib.hid (on HW.out (c := _) (by assumption))
      cases r with
      | true =>
        go_wp2
        go_roundw
        case rel => exact ⟨k + 1, by omega, by go_num, fun j hj => by
          by_cases ej : j = k
          · subst ej; exact HR.out.symm
          · exact HE.out j (by omega), HW3.out⟩
        case measure => simp [intOf]; omega
      | false =>
        go_wp2
        go_ret
        exact ⟨ret_bool (sameM_no hlt HR.out.symm).symm, HW3.out⟩
    · obtain rfl : k = n := by omega
      go_wp2
      go_ret
      exact ⟨ret_bool (sameM_yes HE.out).symm, HW.out⟩
set_option maxHeartbeats 1000000 in
theorem square_any (a : Option Addr) (n : Nat) (hn : n ≤ 64) (M : Nat → Nat → Bool) (w : World) (ha : IsM w a n M) : Calls Tryd.prog 44 #[.slice a n n, .int .i64 (n : Int)] w fun e w' => e = .returned (.bool true) ∧ Below w.heap.size w w' := by
  have HA := Lib.hid ha
  clear ha
  go_enter Tryd.func44, Tryd.ntmps44
  go_wp2
  go_loopw [5] (fun i wr => ∃ k : Nat, k ≤ n ∧ i = .int .i64 k ∧ Hid (Below w.heap.size w wr)) (fun i _ => n - (intOf i).toNat)
  case atStart => exact ⟨0, by omega, rfl, Below.refl _ w⟩
  case round =>
    obtain ⟨k, hk, rfl, HW⟩ := hrel
    by_cases hlt : k < n
    · obtain ⟨O1, e1, g1, c1, d1⟩ := HA.out.below HW.out k hlt
      subst e1
      clear d1
      go_wp2
      go_roundw
      case rel => exact ⟨k + 1, by omega, by go_num, HW.out⟩
      case measure => simp [intOf]; omega
    · obtain rfl : k = n := by omega
      go_wp2
      go_ret
      exact ⟨rfl, HW.out⟩
theorem size31 : (Tryd.prog.info? 70).map (·.size) = some 2 := by kernel_rfl
theorem v_any (x : Nat) (w : World) : Calls Tryd.prog 67 #[.int .u64 (x : Int)] w fun e w' => e = .returned (.agg #[.bool true, .int .u64 (x : Int)]) ∧ Below w.heap.size w w' := by
  have HH := Lib.hid (heap_alloc_new w (.cells #[.bool true, .int .u64 (x : Int)] 70))
  go_enter Tryd.func67, Tryd.ntmps67
  go_wp2
  refine bodyPost_ret_by (results_cell_row (p := 2) (ty := 70) rfl _ _ w.heap.size 70 _ (0, 0) _ rfl HH.out Tryd.underlying70 rfl size31) rfl ?_
  exact ⟨rfl, (Below.refl _ w).alloc (Nat.le_refl _) _⟩
theorem c_any (x : Nat) (w : World) : Calls Tryd.prog 68 #[.int .u64 (x : Int)] w fun e w' => e = .returned (.agg #[.bool false, .int .u64 (x : Int)]) ∧ Below w.heap.size w w' := by
  have HH := Lib.hid (heap_alloc_new w (.cells #[.bool false, .int .u64 (x : Int)] 70))
  go_enter Tryd.func68, Tryd.ntmps68
  go_wp2
  refine bodyPost_ret_by (results_cell_row (p := 2) (ty := 70) rfl _ _ w.heap.size 70 _ (0, 0) _ rfl HH.out Tryd.underlying70 rfl size31) rfl ?_
  exact ⟨rfl, (Below.refl _ w).alloc (Nat.le_refl _) _⟩
end Go.Proofs.YtappaokjlnpbnaaDoor.Rea
