/- The same bytes are the same (SameBytes). -/
import Derived.Test.YtajilghlcfheiaaGreatDoorNumByt
import Derived.Deep.QuietTactic
import Derived.BigQuiet
namespace Go.Proofs.YtajilghlcfheiaaGreatDoor.Num
open Go.RowKit Go.Proofs.YtajilghlcfheiaaGreatDoorW.PrintWords
set_option maxRecDepth 20000 in
set_option maxHeartbeats 1000000 in
theorem same_any (A : Option Addr) (n c : Nat) (A2 : Option Addr) (c2 : Nat) (bs : List UInt8) (hn : n = bs.length) (w : World) (h1 : Bytes w w.heap.size A bs) (h2 : Bytes w w.heap.size A2 bs) :
    Calls Tryz.prog 28 #[.slice A n c, .slice A2 n c2] w fun e w' => e = .returned (.bool true) ∧ Below w.heap.size w w' := by
  have HN := Lib.hid hn
  have H1 := Lib.hid h1
  have H2 := Lib.hid h2
  have hmax : n ≤ 9223372036854775807 := by rw [hn]; exact h1.1
  have d1 : ((n : Int) != (n : Int)) = false := by simp
  clear hn h1 h2
  go_enter Tryz.func28, Tryz.ntmps28
  go_wp2
  go_loopw [5] (fun i wr => ∃ k : Nat, k ≤ n ∧ i = .int .i64 k ∧ ∃ q, wr = w.drewN q) (fun i _ => n - (intOf i).toNat)
  case atStart => exact ⟨0, by omega, rfl, 0, rfl⟩
  case round =>
    obtain ⟨k, hk, rfl, q, rfl⟩ := hrel
    by_cases hlt : k < n
    · have hkl : k < bs.length := by rw [← HN.out]; exact hlt
      obtain ⟨b, off, rfl, _, hc⟩ := H1.out.2 (by omega)
      obtain ⟨b2, off2, rfl, _, hc2⟩ := H2.out.2 (by omega)
      have hx := hc k hkl
      have hx2 := hc2 k hkl
      generalize bs[k].toNat = X at hx hx2
      have dX : ((X : Int) != (X : Int)) = false := by simp
      have i1 : (0 : Int) ≤ (k : Int) := by omega
      have i2 : (k : Int) < (n : Int) := by omega
      clear hc hc2
      go_wp2
      go_quiet (fail)
      go_wp2
      go_roundw
      case rel => exact ⟨k + 1, by omega, by go_num, _, rfl⟩
      case measure => simp [intOf]; omega
    · obtain rfl : k = n := by omega
      go_wp2
      go_ret
      exact ⟨rfl, pw_below_drewN (Below.refl _ _) _⟩
theorem Bytes.take {w : World} {n₀ : Nat} {A : Option Addr} {bs : List UInt8} (h : Bytes w n₀ A bs) (t : Nat) : Bytes w n₀ A (bs.take t) :=
  ⟨by have := h.1; rw [List.length_take]; omega, fun hp => by
    rw [List.length_take] at hp
    obtain ⟨b, off, e, hlt, hc⟩ := h.2 (by omega)
    refine ⟨b, off, e, hlt, fun j hj => ?_⟩
    rw [List.length_take] at hj
    rw [hc j (by omega), List.getElem_take]⟩
end Go.Proofs.YtajilghlcfheiaaGreatDoor.Num
