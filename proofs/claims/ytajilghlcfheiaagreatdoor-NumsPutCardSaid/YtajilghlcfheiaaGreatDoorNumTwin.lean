/- A copy of bytes with a mark in the room behind it (TwinBytes), and that it is still such a copy (LeftBytes). -/
import Derived.Test.YtajilghlcfheiaaGreatDoorNumByt
import Derived.OwnWalk
import Derived.Deep.QuietTactic
import Derived.BigQuiet
namespace Go.Proofs.YtajilghlcfheiaaGreatDoor.Num
open Go.RowKit Go.Proofs.YtajilghlcfheiaaGreatDoorW.PrintWords
theorem info5 : (Tryz.prog.info? 5).map (fun i => (i.zero, i.size, i.bytes)) = some (some (.int .u8 0), 1, 1) := by kernel_rfl
theorem cell_one (W : World) (v : Value) (e : TypeId) (j : Nat) (u : Value) (h : [v][j]? = some u) : (W.alloc (.cells #[v] e)).cell? ((⟨W.heap.size, 0, none⟩ : Addr).add j) = some u := by
  match j, h with
  | 0, h =>
    simp at h; subst h
    rw [add_of, cell_of_row _ _ _ _ _ _ (heap_alloc_new W _)]; rfl
/-- an owned row without room: its block, whole. -/
theorem own_whole {w : World} {base g n : Nat} {e : TypeId} {k : IntKind} {xs : List Int} (h : w.ownsRow base e 1 (.slice (some ⟨g, 0, none⟩) n n) n (nums k xs)) (hn : n ≠ 0) : w.heap[g]? = some (.cells (nums k xs).toArray e (0, 0)) := by
  rcases h.2 with ⟨_, h0⟩ | ⟨g', cap', cur, hv, _, hh, _, _, hs, ht⟩
  · exact absurd h0 hn
  · injection hv with hv1 hv2 hv3
    injection hv1 with hv1
    injection hv1 with hv1
    subst hv1 hv3
    rw [hh]
    have : cur = (nums k xs).toArray := by
      rw [Nat.mul_one] at hs ht
      apply Array.ext'
      rw [← ht, List.toList_toArray, List.take_of_length_le (by rw [Array.length_toList]; omega)]
    rw [this]
theorem rd_lt (xs : List Int) (j : Nat) : rd xs (j : Int) = xs.getD j 0 := rfl
theorem take_next {xs : List Int} {k : Nat} {X : Int} (hX : X = rd xs (k : Int)) (h : k < xs.length) : xs.take (k + 1) = xs.take k ++ [X] := by
  rw [List.take_succ_eq_append_getElem h, hX]
  simp [rd, h]
set_option maxHeartbeats 2000000 in
theorem twin_any (A : Option Addr) (n c : Nat) (bs : List UInt8) (hn : n = bs.length) (hb : n ≤ 100000) (w : World) (hI : Bytes w w.heap.size A bs) :
    Calls Tryz.prog 24 #[.slice A n c] w fun e w' => (∃ B, e = .returned (.slice (some ⟨B, 0, none⟩) n (n + 1)) ∧ w.heap.size ≤ B ∧ w'.heap[B]? = some (.cells (nums .u8 (ints bs ++ [77])).toArray 5 (0, 0))) ∧ Below w.heap.size w w' := by
  obtain ⟨i0, hi, hz0, hz1, hz2⟩ := info_parts info5
  have HI := Lib.hid hI.reads
  have HN := Lib.hid hn
  have LEN := Lib.hid (ints_length bs)
  obtain ⟨xs, hxs⟩ : ∃ xs, xs = ints bs := ⟨_, rfl⟩
  rw [← hxs] at HI LEN ⊢
  have hlx : xs.length = n := by rw [LEN.out, ← HN.out]
  have HLX := Lib.hid hlx
  clear hI hn hxs hlx
  have HSZ := Lib.hid hz2
  have HS1 := Lib.hid hz1
  have HS0 := Lib.hid hz0
  have HIN := Lib.hid hi
  clear hz0 hz1 hz2 hi
  go_enter Tryz.func24, Tryz.ntmps24
  go_wp2_with (first
    | (refine wpList_make_own _ rfl (.const (.int .i64 0)) (.tmp 7) 65 rfl w.heap.size 5 i0 (.int .u8 0) 1 Tryz.underlying65 HIN.out HS0.out HS1.out .i64 .i64 ((n : Int) + 1) (n + 1) rfl rfl (by omega) (by rw [HSZ.out]; omega) (by unfold maxLen; omega) (Nat.le_refl _) ?_; intro w1 ho1 hg1; have HO1 := Lib.hid ho1; have HG1 := Lib.hid hg1; clear ho1 hg1))
  go_loopw [3, 4] (fun t i wr => ∃ k : Nat, k ≤ n ∧ i = .int .i64 k ∧ t = .slice (some ⟨w.heap.size, 0, none⟩) k (n + 1) ∧ Hid (wr.ownsRow w.heap.size 5 1 (.slice (some ⟨w.heap.size, 0, none⟩) k (n + 1)) k (nums .u8 (xs.take k))) ∧ Hid (Below w.heap.size w wr)) (fun _ i _ => n - (intOf i).toNat)
  case atStart => exact ⟨0, by omega, rfl, rfl, HO1.out, (Below.refl _ w).grown HG1.out (Nat.le_refl _) (fun k hk => by cases hk)⟩
  case round =>
    obtain ⟨k, hk, rfl, rfl, HO, HB⟩ := hrel
    by_cases hlt : k < n
    · obtain ⟨ad, eA, hcell⟩ := (HI.out.below HB.out).at_ (k : Int) (by omega) (by rw [← HN.out]; omega)
      subst eA
      rw [Int.toNat_natCast] at hcell
      obtain ⟨X, hX⟩ : ∃ X, X = rd xs (k : Int) := ⟨_, rfl⟩
      rw [← hX] at hcell
      have HX := Lib.hid (take_next hX (by rw [HLX.out]; exact hlt))
      clear hX
      go_wp2_with (first
        | (at_builtin; refine wpList_append_fits _ rfl (.tmp 15) (.tmp 20) 65 rfl w.heap.size 5 i0 1 Tryz.underlying65 HIN.out HS1.out w.heap.size k (n + 1) (nums .u8 (xs.take k)) rfl (HO.out.alloc _) ⟨wr.heap.size, 0, none⟩ 1 1 [.int .u8 X] rfl rfl (cell_one wr _ 5) (fun u hu => by rw [List.mem_singleton.1 hu]; rfl) (by omega) ?_; intro w2 ho2 hg2; have HO2 := Lib.hid ho2; have HB2 := Lib.hid ((HB.out.alloc HB.out.size _).grown hg2 (by have := HB.out.size; simp; omega) (fun j hj => by cases hj; exact Nat.le_refl _)); clear ho2 hg2))
      go_roundw
      case rel => exact ⟨k + 1, by omega, by go_num, rfl, by rw [HX.out, nums_append]; exact HO2.out, HB2.out⟩
      case measure => simp [intOf]; omega
    · obtain rfl : k = n := by omega
      have HT := Lib.hid (show xs.take k = xs from List.take_of_length_le (by rw [HLX.out]; omega))
      go_wp2_with (first
        | (at_builtin; refine wpList_append_fits _ rfl (.tmp 22) (.tmp 23) 65 rfl w.heap.size 5 i0 1 Tryz.underlying65 HIN.out HS1.out w.heap.size k (k + 1) (nums .u8 (xs.take k)) rfl (HO.out.alloc _) ⟨wr.heap.size, 0, none⟩ 1 1 [.int .u8 77] rfl rfl (cell_one wr _ 5) (fun u hu => by rw [List.mem_singleton.1 hu]; rfl) (by omega) ?_; intro w2 ho2 hg2; have HO2 := Lib.hid ho2; have HB2 := Lib.hid ((HB.out.alloc HB.out.size _).grown hg2 (by have := HB.out.size; simp; omega) (fun j hj => by cases hj; exact Nat.le_refl _)); clear ho2 hg2))
      go_ret
      refine ⟨⟨w.heap.size, rfl, Nat.le_refl _, ?_⟩, HB2.out⟩
      have h := HO2.out
      rw [HT.out] at h
      exact own_whole (xs := xs ++ [77]) (by rw [nums_append]; exact h) (by omega)
theorem rd_append (xs ys : List Int) (k : Nat) (h : k < xs.length) : rd (xs ++ ys) (k : Int) = rd xs (k : Int) := by
  simp [rd, List.getElem?_append_left h]
theorem rd_last (xs : List Int) (y : Int) (k : Nat) (h : xs.length = k) : rd (xs ++ [y]) (k : Int) = y := by
  subst h; simp [rd]
theorem blk_nums {w : World} {g : Nat} {e : TypeId} {k : IntKind} {xs : List Int} (h : w.heap[g]? = some (.cells (nums k xs).toArray e (0, 0))) (j : Nat) (hj : j < xs.length) : w.cell? ⟨g, j, none⟩ = some (.int k (rd xs (j : Int))) := by
  rw [blk_cell h]
  simp [nums, rd, hj]
set_option maxHeartbeats 2000000 in
theorem left_any (A : Option Addr) (n c B : Nat) (bs : List UInt8) (hn : n = bs.length) (hb : n ≤ 100000) (w : World) (hI : Bytes w w.heap.size A bs) (hT : w.heap[B]? = some (.cells (nums .u8 (ints bs ++ [77])).toArray 5 (0, 0))) :
    Calls Tryz.prog 32 #[.slice (some ⟨B, 0, none⟩) n (n + 1), .slice A n c] w fun e w' => e = .returned (.bool true) ∧ Below w.heap.size w w' := by
  have HI := Lib.hid hI.reads
  have HN := Lib.hid hn
  have LEN := Lib.hid (ints_length bs)
  obtain ⟨xs, hxs⟩ : ∃ xs, xs = ints bs := ⟨_, rfl⟩
  rw [← hxs] at HI LEN hT
  have hlx : xs.length = n := by rw [LEN.out, ← HN.out]
  have HLX := Lib.hid hlx
  have HT := Lib.hid hT
  clear hI hn hxs hlx hT
  have d1 : ((n : Int) != (n : Int)) = false := by simp
  have d2 : decide ((n : Int) + 1 ≤ (n : Int)) = false := by simp; omega
  go_enter Tryz.func32, Tryz.ntmps32
  go_wp2
  go_loopw [5] (fun i wr => ∃ k : Nat, k ≤ n ∧ i = .int .i64 k ∧ ∃ q, wr = w.drewN q) (fun i _ => n - (intOf i).toNat)
  case atStart => exact ⟨0, by omega, rfl, 0, rfl⟩
  case round =>
    obtain ⟨k, hk, rfl, q, rfl⟩ := hrel
    by_cases hlt : k < n
    · obtain ⟨ad, eA, hcell⟩ := HI.out.at_ (k : Int) (by omega) (by rw [← HN.out]; omega)
      subst eA
      rw [Int.toNat_natCast] at hcell
      have hB := blk_nums HT.out k (by rw [List.length_append, HLX.out]; omega)
      obtain ⟨X, hX⟩ : ∃ X, X = rd xs (k : Int) := ⟨_, rfl⟩
      rw [rd_append xs [77] k (by rw [HLX.out]; exact hlt), ← hX] at hB
      rw [← hX] at hcell
      clear hX
      have dX : (X != X) = false := by simp
      have i1 : (0 : Int) ≤ (k : Int) := by omega
      have i2 : (k : Int) < (n : Int) := by omega
      go_wp2
      go_quiet (fail)
      go_wp2
      go_roundw
      case rel => exact ⟨k + 1, by omega, by go_num, _, rfl⟩
      case measure => simp [intOf]; omega
    · obtain rfl : k = n := by omega
      have hB := blk_nums HT.out k (by rw [List.length_append, HLX.out]; simp)
      rw [rd_last xs 77 k HLX.out] at hB
      go_wp2
      go_ret
      exact ⟨rfl, pw_below_drewN (Below.refl _ _) _⟩
end Go.Proofs.YtajilghlcfheiaaGreatDoor.Num
