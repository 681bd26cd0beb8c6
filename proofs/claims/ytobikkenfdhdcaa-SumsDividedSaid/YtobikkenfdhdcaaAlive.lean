/- Some answers that the document fixes (alive), and how long lists are together (great). -/
import Derived.Test.YtobikkenfdhdcaaOn
import Derived.Lib.SlBytesConst
namespace Go.Proofs.Ytobikkenfdhdcaa
open Go.RowKit Go.Shelf Go.Proofs.YtobikkenfdhdcaaW.PrintWords
def byteCells (bs : List UInt8) : Array Value := (bs.map fun b => Value.int .u8 ((b.toNat : Nat) : Int)).toArray
theorem bytes_none (w : World) (n₀ : Nat) : Bytes w n₀ none [] := ⟨by simp, fun h => absurd h (by simp)⟩
theorem bytes_lit (W : World) (fr : Nat × Nat) (bs : List UInt8) (hl : bs.length ≤ 9223372036854775807) : Bytes (W.alloc (.cells (byteCells bs) 5 fr)) (W.alloc (.cells (byteCells bs) 5 fr)).heap.size (some ⟨W.heap.size, 0, none⟩) bs := by
  refine ⟨hl, fun _ => ⟨_, 0, rfl, by simp, fun j hj => ?_⟩⟩
  rw [Nat.zero_add, cell_of_row _ _ _ _ _ _ (heap_alloc_new W _)]
  simp [byteCells, hj]
theorem below_lit {W w' : World} {o : Obj} (h : Below (W.alloc o).heap.size (W.alloc o) w') : Below W.heap.size W w' :=
  ((Below.refl _ W).alloc (Nat.le_refl _) o).trans (h.mono (by simp))
theorem of_nil (w : World) : Calls Try.prog 9 #[.slice none 0 0] w fun e w' => e = .returned (.int .u32 0) ∧ Below w.heap.size w w' :=
  of_any none 0 0 [] rfl w (bytes_none w _)
theorem of_lit (bs : List UInt8) (hl : bs.length ≤ 9223372036854775807) (r : Int) (hr : (((Crc.on 0#32 (nats bs)).toNat : Nat) : Int) = r) (fr : Nat × Nat) (W : World) : Calls Try.prog 9 #[.slice (some ⟨W.heap.size, 0, none⟩) bs.length bs.length] (W.alloc (.cells (byteCells bs) 5 fr)) fun e w' => e = .returned (.int .u32 r) ∧ Below W.heap.size W w' := by
  subst hr
  exact (of_any _ _ _ bs rfl _ (bytes_lit W fr bs hl)).mono fun e w' h => ⟨h.1, below_lit h.2⟩
theorem on_lit (x : Int) (h0 : 0 ≤ x) (h1 : x ≤ 4294967295) (bs : List UInt8) (hl : bs.length ≤ 9223372036854775807) (r : Int) (hr : (((Crc.on (BitVec.ofNat 32 x.toNat) (nats bs)).toNat : Nat) : Int) = r) (fr : Nat × Nat) (W : World) : Calls Try.prog 11 #[.int .u32 x, .slice (some ⟨W.heap.size, 0, none⟩) bs.length bs.length] (W.alloc (.cells (byteCells bs) 5 fr)) fun e w' => e = .returned (.int .u32 r) ∧ Below W.heap.size W w' := by
  subst hr
  exact (on_int x h0 h1 _ _ _ bs rfl _ (bytes_lit W fr bs hl)).mono fun e w' h => ⟨h.1, below_lit h.2⟩
theorem on_nil (w : World) : Calls Try.prog 11 #[.int .u32 7, .slice none 0 0] w fun e w' => e = .returned (.int .u32 7) ∧ Below w.heap.size w w' :=
  on_int 7 (by omega) (by omega) none 0 0 [] rfl w (bytes_none w _)
theorem dig_sum : (((Crc.on 0#32 (nats [49, 50, 51, 52, 53, 54, 55, 56, 57])).toNat : Nat) : Int) = 3421780262 := by decide +kernel
theorem a_sum : (((Crc.on 0#32 (nats [97])).toNat : Nat) : Int) = 3904355907 := by decide +kernel
theorem ff_sum : (((Crc.on 0#32 (nats [255, 255, 255, 255])).toNat : Nat) : Int) = 4294967295 := by decide +kernel
set_option maxHeartbeats 1000000 in
theorem alive_any (w : World) : Calls Try.prog 15 #[] w fun e w' => e = .returned (.bool true) ∧ Below w.heap.size w w' := by
  have kc := fun (w : World) (C : Array Value) (n c : Nat) => Lib.run_convert_bytes_const (P := Try.prog) w 22 5 C n c Try.underlying22 Try.underlying5
  go_enter Try.func15, Try.ntmps15
  go_wp2_with fail
  refine (of_nil _).mono ?_
  rintro e w1 ⟨rfl, hb1⟩
  go_wp2_with fail
  refine (of_lit [49, 50, 51, 52, 53, 54, 55, 56, 57] (by decide) _ dig_sum _ _).mono ?_
  rintro e w2 ⟨rfl, hb2⟩
  go_wp2_with fail
  refine (on_lit 0 (by omega) (by omega) [97] (by decide) _ a_sum _ _).mono ?_
  rintro e w3 ⟨rfl, hb3⟩
  go_wp2_with fail
  refine (of_lit [97] (by decide) _ a_sum _ _).mono ?_
  rintro e w4 ⟨rfl, hb4⟩
  go_wp2_with fail
  refine (on_nil _).mono ?_
  rintro e w5 ⟨rfl, hb5⟩
  go_wp2_with fail
  refine (of_lit [255, 255, 255, 255] (by decide) _ ff_sum _ _).mono ?_
  rintro e w6 ⟨rfl, hb6⟩
  go_wp2_with fail
  go_ret
  have z1 := hb1.size; have z2 := hb2.size; have z3 := hb3.size; have z4 := hb4.size; have z5 := hb5.size
  exact ⟨rfl, hb1.trans ((hb2.mono z1).trans ((hb3.mono (by omega)).trans ((hb4.mono (by omega)).trans ((hb5.mono (by omega)).trans (hb6.mono (by omega))))))⟩
set_option maxHeartbeats 1000000 in
theorem great_one (A : Option Addr) (n c : Nat) (hn : n ≤ 140737488351232) (W : World) :
    Calls Try.prog 14 #[.slice (some ⟨W.heap.size, 0, none⟩) 1 1] (W.alloc (.cells #[.slice A n c] 22)) fun e w' => e = .returned (.bool (decide (50000 < (n : Int)))) ∧ W.alloc (.cells #[.slice A n c] 22) = w' := by
  go_enter Try.func14, Try.ntmps14
  go_wp2
  go_loop [3, 4] (fun s i => ∃ k : Nat, k ≤ 1 ∧ i = .int .i64 k ∧ s = .int .i64 ((k * n : Nat) : Int)) (fun _ i => 1 - (intOf i).toNat)
  case atStart => exact ⟨0, by omega, rfl, by simp⟩
  case round =>
    obtain ⟨k, hk, rfl, rfl⟩ := hrel
    by_cases h0 : k = 0
    · subst h0
      have hc : (W.alloc (.cells #[.slice A n c] 22)).cell? ⟨W.heap.size, 0, none⟩ = some (.slice A n c) := by rw [cell_of_row _ _ _ _ _ _ (heap_alloc_new W _)]; rfl
      have hz : ((0 * n : Nat) : Int) = 0 := by simp
      go_wp2
      go_round
      case rel => exact ⟨1, by omega, rfl, by simp⟩
      case measure => simp [intOf]
    · obtain rfl : k = 1 := by omega
      have hz : ((1 * n : Nat) : Int) = (n : Int) := by simp
      rw [hz]
      clear hz
      go_wp2
      go_ret
      exact ⟨rfl, rfl⟩
end Go.Proofs.Ytobikkenfdhdcaa
