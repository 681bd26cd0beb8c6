/- The document's Close, whatever n. -/
import Derived.Test.YtajilghlcfheiaaGreatDoorORef
namespace Go.Proofs.YtajilghlcfheiaaGreatDoor.Ord
open Go.RowKit Go.Proofs.YtajilghlcfheiaaGreatDoorW.PrintWords
set_option maxRecDepth 100000
theorem ref_out (n : Int) (h : n < 1 ∨ 64 < n) (A : Option Addr) (m c : Nat) (ps : List (Int × Int)) (w : World) : Calls Tryz.prog 36 #[.int .i64 n, .slice A m c] w (RefSays n ps w) := by
  by_cases h1 : n < 1
  · have d1 : decide (n < 1) = true := by simpa using h1
    go_enter Tryz.func36, Tryz.ntmps36
    go_wp2
    go_ret2
    exact ⟨Below.refl _ _, .inl ⟨.inl h1, rfl⟩⟩
  · have h2 : 64 < n := by omega
    have d1 : decide (n < 1) = false := by simpa using h1
    have d2 : decide (64 < n) = true := by simpa using h2
    go_enter Tryz.func36, Tryz.ntmps36
    go_wp2
    go_ret2
    exact ⟨Below.refl _ _, .inl ⟨.inr (.inl h2), rfl⟩⟩
theorem ref_all (n : Int) (A : Option Addr) (m c : Nat) (ps : List (Int × Int)) (hm : m = ps.length) (hmm : m ≤ 1000000) (w : World) (hP : Prs w A ps) : Calls Tryz.prog 36 #[.int .i64 n, .slice A m c] w (RefSays n ps w) := by
  by_cases h : n < 1 ∨ 64 < n
  · exact ref_out n h A m c ps w
  · obtain ⟨k, rfl⟩ := Int.eq_ofNat_of_zero_le (show 0 ≤ n by omega)
    exact ref_any k A m c ps hm hmm (by omega) (by omega) w hP
/-- both tell the same: one error, and the same rows. -/
theorem both_say {n : Int} {ps : List (Int × Int)} {W0 w1 W1 w2 : World} {e f : Ending} (h1 : CloseSays n ps W0 e w1) (h2 : RefSays n ps W1 f w2) :
    Below W0.heap.size W0 w1 ∧ Below W1.heap.size W1 w2 ∧ ((∃ E : Int, e = .returned (.tuple #[.slice none 0 0, .int .i64 E]) ∧ f = .returned (.tuple #[.slice none 0 0, .int .i64 E])) ∨
      ∃ B B2 cap rows, e = .returned (.tuple #[.slice (some ⟨B, 0, none⟩) rows.length rows.length, .int .i64 0]) ∧ f = .returned (.tuple #[.slice (some ⟨B2, 0, none⟩) rows.length cap, .int .i64 0]) ∧ W0.heap.size ≤ B ∧ 1 ≤ rows.length ∧ rows.length ≤ 64 ∧ (∀ x ∈ rows, x < 18446744073709551616) ∧ w1.heap[B]? = some (.cells (nums .u64 (intsN rows)).toArray 66 (0, 0)) ∧ Nums w2 (some ⟨B2, 0, none⟩) rows) := by
  obtain ⟨b1, h1⟩ := h1
  obtain ⟨b2, h2⟩ := h2
  refine ⟨b1, b2, ?_⟩
  rcases h1 with ⟨c1, rfl⟩ | ⟨c1, a1, rfl⟩ | ⟨c1, a1, B, rows, rfl, hB, k1, hh⟩
  · rcases h2 with ⟨_, rfl⟩ | ⟨⟨x1, x2, x3⟩, _⟩ | ⟨⟨x1, x2, x3⟩, _⟩
    · exact .inl ⟨1, rfl, rfl⟩
    · rcases c1 with c1 | c1 | c1
      · omega
      · omega
      · exact absurd x3 c1
    · rcases c1 with c1 | c1 | c1
      · omega
      · omega
      · exact absurd x3 c1
  · obtain ⟨x1, x2, x3⟩ := c1
    rcases h2 with ⟨c1, _⟩ | ⟨_, _, rfl⟩ | ⟨_, a2, _⟩
    · rcases c1 with c1 | c1 | c1
      · omega
      · omega
      · exact absurd x3 c1
    · exact .inl ⟨9, rfl, rfl⟩
    · exact absurd a2 a1
  · obtain ⟨x1, x2, x3⟩ := c1
    rcases h2 with ⟨c1, _⟩ | ⟨_, a2, _⟩ | ⟨_, _, B2, cap, rows2, rfl, k2, hn⟩
    · rcases c1 with c1 | c1 | c1
      · omega
      · omega
      · exact absurd x3 c1
    · exact absurd a1 a2
    · obtain rfl : rows = rows2 := k1.uniq k2
      have hl := k1.len
      refine .inr ⟨B, B2, cap, rows, by rw [hl], by rw [hl], hB, by omega, by omega, k1.lt, hh, hn⟩
end Go.Proofs.YtajilghlcfheiaaGreatDoor.Ord
