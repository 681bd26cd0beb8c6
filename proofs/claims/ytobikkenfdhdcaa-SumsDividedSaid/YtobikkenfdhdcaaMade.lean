/- The table that the program makes at each call: the remainders of the sixteen halves of a byte. -/
import Derived.Test.YtobikkenfdhdcaaProg
import Derived.Test.YtobikkenfdhdcaaCrc
import Derived.WalkKit
import Derived.Outline
import Derived.KernelRfl
import Derived.Laws.Rows
import Derived.Laws.Tables
import Derived.Laws.CopyRow
import Derived.Laws.NewBlocks
import Derived.Laws.BitsAllLaws
namespace Go.Proofs.Ytobikkenfdhdcaa
open Go.RowKit
theorem and1 (x : BitVec 32) : bits .and .u32 (x.toNat : Int) 1 = ((x.toNat % 2 : Nat) : Int) := by
  have h := u32_and_nat x.toNat 1 x.isLt (by decide)
  rw [nat_mask1] at h; exact h
theorem rnd_yes (x : BitVec 32) (h : (bits .and .u32 (x.toNat : Int) 1 == 1) = true) : bits .xor .u32 ((x.toNat : Int) / 2) 3988292384 = ((Crc.st1 x).toNat : Int) := by
  rw [and1, beq_iff_eq] at h
  rw [Crc.st1_yes x (by omega)]
  have hx := x.isLt
  exact u32_xor_nat (x.toNat / 2) 3988292384 (by omega) (by decide)
theorem rnd_no (x : BitVec 32) (h : (bits .and .u32 (x.toNat : Int) 1 == 1) = false) : (x.toNat : Int) / 2 = ((Crc.st1 x).toNat : Int) := by
  rw [and1, beq_eq_false_iff_ne] at h
  rw [Crc.st1_no x (by omega)]
  omega
/-- the table, its first k rows made. -/
def tabAt (k : Nat) : List Int := (List.range 16).map fun i => if i < k then ((Crc.st 4 (BitVec.ofNat 32 i)).toNat : Int) else 0
def tabCells (k : Nat) : Array Value := ((tabAt k).map (Value.int .u32)).toArray
theorem tabAt_set (k : Nat) : (tabAt k).set k ((Crc.st 4 (BitVec.ofNat 32 k)).toNat : Int) = tabAt (k + 1) := by
  apply List.ext_getElem
  · simp [tabAt]
  · intro i h1 h2
    simp [tabAt] at h2
    rw [List.getElem_set]
    simp only [tabAt, List.getElem_map, List.getElem_range]
    by_cases e : k = i
    · subst e; simp
    · rw [if_neg e]
      by_cases hl : i < k
      · rw [if_pos hl, if_pos (by omega)]
      · rw [if_neg hl, if_neg (by omega)]
theorem tab_set (k : Nat) : (tabCells k).setIfInBounds k (.int .u32 ((Crc.st 4 (BitVec.ofNat 32 k)).toNat : Int)) = tabCells (k + 1) := by
  unfold tabCells
  rw [← tabAt_set, List.map_set, List.setIfInBounds_toArray]
theorem tab_size (k : Nat) : (tabCells k).size = 16 := by simp [tabCells, tabAt]
theorem tab_get (k i : Nat) (hi : i < 16) : (tabCells k)[i]? = some (.int .u32 (if i < k then ((Crc.st 4 (BitVec.ofNat 32 i)).toNat : Int) else 0)) := by
  simp [tabCells, tabAt, hi]
theorem tab_cell (w : World) (k i : Nat) (hi : i < 16) : (w.alloc (.cells (tabCells k) 39)).cell? ⟨w.heap.size, i, none⟩ = some (.int .u32 (if i < k then ((Crc.st 4 (BitVec.ofNat 32 i)).toNat : Int) else 0)) := by
  rw [cell_of_row _ _ _ _ _ _ (heap_alloc_new w _), tab_get k i hi]
set_option maxHeartbeats 1000000 in
theorem made_any (w : World) : Calls Try.prog 17 #[] w fun e w' => e = .returned (.agg (tabCells 16)) ∧ w' = w.alloc (.cells (tabCells 16) 39) := by
  go_enter Try.func17, Try.ntmps17
  go_wp2
  go_loopw [3] (fun i wr => ∃ k : Nat, k ≤ 16 ∧ i = .int .i64 k ∧ wr = w.alloc (.cells (tabCells k) 39)) (fun i _ => 16 - (intOf i).toNat)
  case atStart => exact ⟨0, by omega, rfl, rfl⟩
  case round =>
    obtain ⟨k, hk, rfl, rfl⟩ := hrel
    by_cases hlt : k < 16
    · have hx0 : (BitVec.ofNat 32 k).toNat = k := by rw [BitVec.toNat_ofNat]; omega
      have HX0 : Hid ((BitVec.ofNat 32 k).toNat = k) := hx0
      clear hx0
      go_wp2
      go_loop [2, 8] (fun x j => ∃ m : Nat, m ≤ 4 ∧ j = .int .i64 m ∧ x = .int .u32 ((Crc.st m (BitVec.ofNat 32 k)).toNat : Int)) (fun _ j => 4 - (intOf j).toNat)
      case atStart => exact ⟨0, by omega, rfl, by rw [Crc.st_zero, HX0.out]⟩
      case round =>
        obtain ⟨m, hm, rfl, rfl⟩ := hrel
        by_cases hm4 : m < 4
        · go_wp2
          all_goals
            go_round
            case rel => exact ⟨m + 1, by omega, by go_num, by rw [Crc.st_last]; first | (rw [rnd_yes _ (by assumption)]) | (rw [rnd_no _ (by assumption)])⟩
            case measure => simp [intOf]; omega
        · obtain rfl : m = 4 := by omega
          have hc := tab_cell w k k hlt
          have hs := tab_size k
          go_wp2
          go_roundw
          case rel => exact ⟨k + 1, by omega, by go_num, by rw [tab_set]⟩
          case measure => simp [intOf]; omega
    · obtain rfl : k = 16 := by omega
      go_wp2_with (first | (refine wpList_load_row rfl 39 _ rfl w.heap.size rfl 39 (tabCells 16) (0, 0) _ (heap_alloc_new w _) Try.underlying39 rfl (by kernel_rfl) ?_) | (refine wpList_store_row rfl 39 _ _ rfl w.heap.size (tabCells 16) rfl rfl 39 (tabCells 16) (heap_alloc_new w _) (by kernel_rfl) rfl (by kernel_rfl) ?_))
      rw [setRow_self _ _ _ _ _ (heap_alloc_new w _)]
      exact bodyPost_ret (v := .agg (tabCells 16)) (results_cell_row rfl _ _ w.heap.size 39 (tabCells 16) (0, 0) _ rfl (heap_alloc_new w _) Try.underlying39 rfl (by kernel_rfl)) rfl ⟨rfl, rfl⟩
end Go.Proofs.Ytobikkenfdhdcaa
