/- A copy of bounds with a mark in the room behind it (TwinBounds), and that it is still such a copy (LeftBounds). -/
import Derived.Test.YtajilghlcfheiaaGreatDoorEqB
import Derived.OwnWalk
import Derived.Deep.QuietTactic
import Derived.BigQuiet
import Derived.WalkMore
namespace Go.Proofs.YtajilghlcfheiaaGreatDoor.Rea
open Go.RowKit Go.Proofs.YtajilghlcfheiaaGreatDoorW.PrintWords
set_option maxRecDepth 20000
theorem add_of (b off j : Nat) : (⟨b, off, none⟩ : Addr).add j = ⟨b, off + j, none⟩ := by
  unfold Addr.add
  by_cases hj0 : j = 0
  · rw [if_pos hj0, hj0]; rfl
  · rw [if_neg hj0]
theorem cell_four (W : World) (u0 u1 u2 u3 : Value) (e : TypeId) (j : Nat) (u : Value) (h : [u0, u1, u2, u3][j]? = some u) : (W.alloc (.cells #[u0, u1, u2, u3] e)).cell? ((⟨W.heap.size, 0, none⟩ : Addr).add j) = some u := by
  match j, h with
  | 0, h => simp at h; subst h; rw [add_of, cell_of_row _ _ _ _ _ _ (heap_alloc_new W _)]; rfl
  | 1, h => simp at h; subst h; rw [add_of, cell_of_row _ _ _ _ _ _ (heap_alloc_new W _)]; rfl
  | 2, h => simp at h; subst h; rw [add_of, cell_of_row _ _ _ _ _ _ (heap_alloc_new W _)]; rfl
  | 3, h => simp at h; subst h; rw [add_of, cell_of_row _ _ _ _ _ _ (heap_alloc_new W _)]; rfl
/-- an owned row without room: its block, whole. -/
theorem own_whole2 {w : World} {base g n : Nat} {e : TypeId} {size : Nat} {vs : List Value} (h : w.ownsRow base e size (.slice (some ⟨g, 0, none⟩) n n) n vs) (hn : n ≠ 0) : w.heap[g]? = some (.cells vs.toArray e (0, 0)) := by
  rcases h.2 with ⟨_, h0⟩ | ⟨g', cap', cur, hv, _, hh, _, _, hs, ht⟩
  · exact absurd h0 hn
  · injection hv with hv1 hv2 hv3
    injection hv1 with hv1
    injection hv1 with hv1
    subst hv1 hv3
    rw [hh]
    have : cur = vs.toArray := by
      apply Array.ext'
      rw [← ht, List.toList_toArray, List.take_of_length_le (by rw [Array.length_toList]; omega)]
    rw [this]
def mark : Bd := ⟨false, 77, false, 0⟩
theorem btake_next {L : List Bd} {k : Nat} {b : Bd} (h : k < L.length) (hb : b = L[k]) : flat (L.take (k + 1)) = flat (L.take k) ++ b.cells := by
  rw [List.take_succ_eq_append_getElem h, flat_append, ← hb]
  simp [flat]
set_option maxHeartbeats 2000000 in
theorem twinb_any (A : Option Addr) (n c : Nat) (L : List Bd) (hn : n = L.length) (hb : n ≤ 100000) (w : World) (hP : Bds w A L) :
    Calls Tryz.prog 10 #[.slice A n c] w fun e w' => (∃ B, e = .returned (.slice (some ⟨B, 0, none⟩) n (n + 1)) ∧ w.heap.size ≤ B ∧ w'.heap[B]? = some (.cells (flat (L ++ [mark])).toArray 99 (0, 0))) ∧ Below w.heap.size w w' := by
  obtain ⟨i0, hi, he⟩ := Option.map_eq_some_iff.1 info33
  simp only [Prod.mk.injEq] at he
  obtain ⟨hz0, hz1, hz2⟩ := he
  have HP := Lib.hid hP
  have HN := Lib.hid hn
  have HSZ := Lib.hid hz2
  have HS1 := Lib.hid hz1
  have HS0 := Lib.hid hz0
  have HIN := Lib.hid hi
  clear hz0 hz1 hz2 hi hn hP
  go_enter Tryz.func10, Tryz.ntmps10
  go_wp2_with (first
    | (refine wpList_make_own _ rfl (.const (.int .i64 0)) (.tmp 7) 23 rfl w.heap.size 99 i0 (.agg #[.bool false, .int .u64 0, .bool false, .int .u64 0]) 4 Tryz.underlying23 HIN.out HS0.out HS1.out .i64 .i64 ((n : Int) + 1) (n + 1) rfl rfl (by omega) (by rw [HSZ.out]; omega) (by unfold maxLen; omega) (Nat.le_refl _) ?_; intro w1 ho1 hg1; have HO1 := Lib.hid ho1; have HG1 := Lib.hid hg1; clear ho1 hg1))
  go_loopw [3, 4] (fun t i wr => ∃ k : Nat, k ≤ n ∧ i = .int .i64 k ∧ t = .slice (some ⟨w.heap.size, 0, none⟩) k (n + 1) ∧ Hid (wr.ownsRow w.heap.size 99 4 (.slice (some ⟨w.heap.size, 0, none⟩) k (n + 1)) k (flat (L.take k))) ∧ Hid (Below w.heap.size w wr)) (fun _ i _ => n - (intOf i).toNat)
  case atStart => exact ⟨0, by omega, rfl, rfl, HO1.out, (Below.refl _ w).grown HG1.out (Nat.le_refl _) (fun k hk => by cases hk)⟩
  case round =>
    obtain ⟨k, hk, rfl, rfl, HO, HB⟩ := hrel
    by_cases hlt : k < n
    · have hkl : k < L.length := by rw [← HN.out]; exact hlt
      obtain ⟨b, o, rfl, c0, c1, c2, c3, l0, l1⟩ := (HP.out.below HB.out) k hkl
      obtain ⟨⟨va, na, vb, nb⟩, hx⟩ : ∃ x, x = L[k] := ⟨_, rfl⟩
      have HXY := Lib.hid (btake_next hkl hx)
      rw [← hx] at c0 c1 c2 c3 l0 l1
      dsimp only at c0 c1 c2 c3 l0 l1
      clear hx hkl
      have i1 : (0 : Int) ≤ (k : Int) := by omega
      have i2 : (k : Int) < (n : Int) := by omega
      go_wp2_with (first
        | (at_builtin; refine wpList_append_fits _ rfl (.tmp 15) (.tmp 20) 23 rfl w.heap.size 99 i0 4 Tryz.underlying23 HIN.out HS1.out w.heap.size k (n + 1) (flat (L.take k)) rfl (HO.out.alloc _) ⟨wr.heap.size, 0, none⟩ 1 1 [.bool va, .int .u64 (na : Int), .bool vb, .int .u64 (nb : Int)] rfl rfl (cell_four wr _ _ _ _ 99) (fun u hu => by simp at hu; rcases hu with rfl | rfl | rfl | rfl <;> rfl) (by omega) ?_; intro w2 ho2 hg2; have HO2 := Lib.hid ho2; have HB2 := Lib.hid ((HB.out.alloc HB.out.size _).grown hg2 (by have := HB.out.size; simp; omega) (fun j hj => by cases hj; exact Nat.le_refl _)); clear ho2 hg2))
      go_roundw
      case rel => exact ⟨k + 1, by omega, by go_num, rfl, by rw [HXY.out]; exact HO2.out, HB2.out⟩
      case measure => simp [intOf]; omega
    · obtain rfl : k = n := by omega
      have HT := Lib.hid (show L.take k = L from List.take_of_length_le (by rw [← HN.out]; omega))
      go_wp2_with (first
        | (at_builtin; refine wpList_append_fits _ rfl (.tmp 22) (.tmp 25) 23 rfl w.heap.size 99 i0 4 Tryz.underlying23 HIN.out HS1.out w.heap.size k (k + 1) (flat (L.take k)) rfl (HO.out.alloc _) ⟨wr.heap.size, 0, none⟩ 1 1 [.bool false, .int .u64 77, .bool false, .int .u64 0] rfl rfl (cell_four wr _ _ _ _ 99) (fun u hu => by simp at hu; rcases hu with rfl | rfl | rfl | rfl <;> rfl) (by omega) ?_; intro w2 ho2 hg2; have HO2 := Lib.hid ho2; have HB2 := Lib.hid ((HB.out.alloc HB.out.size _).grown hg2 (by have := HB.out.size; simp; omega) (fun j hj => by cases hj; exact Nat.le_refl _)); clear ho2 hg2))
      go_ret
      refine ⟨⟨w.heap.size, rfl, Nat.le_refl _, ?_⟩, HB2.out⟩
      have h := HO2.out
      rw [HT.out] at h
      have e : flat (L ++ [mark]) = flat L ++ [.bool false, .int .u64 77, .bool false, .int .u64 0] := by rw [flat_append]; rfl
      exact own_whole2 (by rw [e]; exact h) (by omega)
theorem bds_lit {w : World} {B : Nat} {L : List Bd} (h : w.heap[B]? = some (.cells (flat L).toArray 99 (0, 0))) (hf : Fit L) : Bds w (some ⟨B, 0, none⟩) L := by
  intro k hk
  obtain ⟨g0, g1, g2, g3⟩ := flat_get L k hk
  refine ⟨B, 0, rfl, ?_, ?_, ?_, ?_, hf _ (List.getElem_mem hk)⟩
  · rw [blk_cell h]
    simpa using g0
  · rw [blk_cell h]
    simpa using g1
  · rw [blk_cell h]
    simpa using g2
  · rw [blk_cell h]
    simpa using g3
set_option maxHeartbeats 2000000 in
theorem leftb_any (A A2 : Option Addr) (n c : Nat) (L : List Bd) (hn : n = L.length) (hb : n ≤ 100000) (w : World) (hP : Bds w A L) (hT : Bds w A2 (L ++ [mark])) :
    Calls Tryz.prog 19 #[.slice A2 n (n + 1), .slice A n c] w fun e w' => e = .returned (.bool true) ∧ Below w.heap.size w w' := by
  have HP := Lib.hid hP
  have HT := Lib.hid hT
  have HN := Lib.hid hn
  clear hn hP hT
  have d1 : ((n : Int) != (n : Int)) = false := by simp
  have d2 : decide ((n : Int) + 1 ≤ (n : Int)) = false := by simp; omega
  go_enter Tryz.func19, Tryz.ntmps19
  go_wp2
  go_loopw [5] (fun i wr => ∃ k : Nat, k ≤ n ∧ i = .int .i64 k ∧ ∃ q, wr = w.drewN q) (fun i _ => n - (intOf i).toNat)
  case atStart => exact ⟨0, by omega, rfl, 0, rfl⟩
  case round =>
    obtain ⟨k, hk, rfl, q, rfl⟩ := hrel
    by_cases hlt : k < n
    · have hkl : k < L.length := by rw [← HN.out]; exact hlt
      obtain ⟨b, o, rfl, c0, c1, c2, c3, _, _⟩ := HP.out k hkl
      obtain ⟨b2, o2, rfl, k0, k1, k2, k3, _, _⟩ := HT.out k (by rw [List.length_append]; omega)
      rw [List.getElem_append_left hkl] at k0 k1 k2 k3
      obtain ⟨⟨va, na, vb, nb⟩, hx⟩ : ∃ x, x = L[k] := ⟨_, rfl⟩
      rw [← hx] at c0 c1 c2 c3 k0 k1 k2 k3
      dsimp only at c0 c1 c2 c3 k0 k1 k2 k3
      clear hx
      have EQ := fun w => eq_bound w va (na : Int) vb (nb : Int)
      have i1 : (0 : Int) ≤ (k : Int) := by omega
      have i2 : (k : Int) < (n : Int) := by omega
      go_wp2
      go_quiet (fail)
      go_wp2
      go_roundw
      case rel => exact ⟨k + 1, by omega, by go_num, _, rfl⟩
      case measure => simp [intOf]; omega
    · obtain rfl : k = n := by omega
      obtain ⟨b2, o2, rfl, c0, c1, c2, c3, _, _⟩ := HT.out k (by rw [List.length_append, ← HN.out]; simp)
      rw [List.getElem_append_right (by rw [← HN.out]; omega)] at c0 c1 c2 c3
      simp only [List.getElem_singleton, mark] at c0 c1 c2 c3
      have HB := Lib.hid (pw_below_drewN (Below.refl w.heap.size w) q)
      have c4 : (w.drewN q).cell? ⟨b2, o2 + k * 4, none⟩ = some (.bool false) := c0
      have c5 : (w.drewN q).cell? ⟨b2, o2 + k * 4 + 1, none⟩ = some (.int .u64 77) := c1
      have c6 : (w.drewN q).cell? ⟨b2, o2 + k * 4 + 2, none⟩ = some (.bool false) := c2
      have c7 : (w.drewN q).cell? ⟨b2, o2 + k * 4 + 3, none⟩ = some (.int .u64 0) := c3
      clear c0 c1 c2 c3
      generalize w.drewN q = W at c4 c5 c6 c7 HB ⊢
      go_wp2
      go_ret
      exact ⟨rfl, HB.out.alloc HB.out.size _⟩
end Go.Proofs.YtajilghlcfheiaaGreatDoor.Rea
