/- A copy of pairs with a mark in the room behind it (TwinPairs), and that it is still such a copy (LeftPairs). -/
import Derived.Test.YtajilghlcfheiaaGreatDoorOPrs
import Derived.Test.YtajilghlcfheiaaGreatDoorEqP
namespace Go.Proofs.YtajilghlcfheiaaGreatDoor.Ord
open Go.RowKit Go.Proofs.YtajilghlcfheiaaGreatDoorW.PrintWords
set_option maxRecDepth 20000
theorem cell_two (W : World) (u0 u1 : Value) (e : TypeId) (j : Nat) (u : Value) (h : [u0, u1][j]? = some u) : (W.alloc (.cells #[u0, u1] e)).cell? ((⟨W.heap.size, 0, none⟩ : Addr).add j) = some u := by
  match j, h with
  | 0, h =>
    simp at h; subst h
    rw [add_of, cell_of_row _ _ _ _ _ _ (heap_alloc_new W _)]; rfl
  | 1, h =>
    simp at h; subst h
    rw [add_of, cell_of_row _ _ _ _ _ _ (heap_alloc_new W _)]; rfl
/-- an owned row without room: its block, whole. -/
theorem own_whole2 {w : World} {base g n : Nat} {e : TypeId} {size : Nat} {vs : List Value} (h : w.ownsRow base e size (.slice (some ⟨g, 0, none⟩) n n) n vs) (hn : n ≠ 0) : w.heap[g]? = some (.cells vs.toArray e (0, 0)) := by
  rcases h.2 with ⟨_, h0⟩ | ⟨g', cap', cur, hv, _, hh, _, _, hs, ht⟩
  · exact absurd h0 hn
  · injection hv with hv1 hv2 hv3
    injection hv1 with hv1
    injection hv1 with hv1
    subst hv1 hv3
    rw [hh]
    have : cur = vs.toArray := by
      apply Array.ext'
      rw [← ht, List.toList_toArray, List.take_of_length_le (by rw [Array.length_toList]; omega)]
    rw [this]
theorem ptake_next {ps : List (Int × Int)} {k : Nat} {X Y : Int} (h : k < ps.length) (hX : ps[k] = (X, Y)) : pflat (ps.take (k + 1)) = pflat (ps.take k) ++ [.int .i64 X, .int .i64 Y] := by
  rw [List.take_succ_eq_append_getElem h, hX, pflat_append]
  simp [pflat, pcells]
set_option maxHeartbeats 2000000 in
theorem twinp_any (A : Option Addr) (n c : Nat) (ps : List (Int × Int)) (hn : n = ps.length) (hb : n ≤ 100000) (w : World) (hP : Prs w A ps) :
    Calls Tryz.prog 34 #[.slice A n c] w fun e w' => (∃ B, e = .returned (.slice (some ⟨B, 0, none⟩) n (n + 1)) ∧ w.heap.size ≤ B ∧ w'.heap[B]? = some (.cells (pflat (ps ++ [(77, 0)])).toArray 118 (0, 0))) ∧ Below w.heap.size w w' := by
  obtain ⟨i0, hi, he⟩ := Option.map_eq_some_iff.1 info35
  simp only [Prod.mk.injEq] at he
  obtain ⟨hz0, hz1, hz2⟩ := he
  have HP := Lib.hid hP
  have HN := Lib.hid hn
  have HSZ := Lib.hid hz2
  have HS1 := Lib.hid hz1
  have HS0 := Lib.hid hz0
  have HIN := Lib.hid hi
  clear hz0 hz1 hz2 hi hn hP
  go_enter Tryz.func34, Tryz.ntmps34
  go_wp2_with (first
    | (refine wpList_make_own _ rfl (.const (.int .i64 0)) (.tmp 7) 75 rfl w.heap.size 118 i0 (.agg #[.int .i64 0, .int .i64 0]) 2 Tryz.underlying75 HIN.out HS0.out HS1.out .i64 .i64 ((n : Int) + 1) (n + 1) rfl rfl (by omega) (by rw [HSZ.out]; omega) (by unfold maxLen; omega) (Nat.le_refl _) ?_; intro w1 ho1 hg1; have HO1 := Lib.hid ho1; have HG1 := Lib.hid hg1; clear ho1 hg1))
  go_loopw [3, 4] (fun t i wr => ∃ k : Nat, k ≤ n ∧ i = .int .i64 k ∧ t = .slice (some ⟨w.heap.size, 0, none⟩) k (n + 1) ∧ Hid (wr.ownsRow w.heap.size 118 2 (.slice (some ⟨w.heap.size, 0, none⟩) k (n + 1)) k (pflat (ps.take k))) ∧ Hid (Below w.heap.size w wr)) (fun _ i _ => n - (intOf i).toNat)
  case atStart => exact ⟨0, by omega, rfl, rfl, HO1.out, (Below.refl _ w).grown HG1.out (Nat.le_refl _) (fun k hk => by cases hk)⟩
  case round =>
    obtain ⟨k, hk, rfl, rfl, HO, HB⟩ := hrel
    by_cases hlt : k < n
    · have hkl : k < ps.length := by rw [← HN.out]; exact hlt
      obtain ⟨b, o, rfl, c0, c1, l0, l1⟩ := (HP.out.below HB.out) k hkl
      obtain ⟨x, hx⟩ : ∃ x, x = ps[k].1 := ⟨_, rfl⟩
      obtain ⟨y, hy⟩ : ∃ y, y = ps[k].2 := ⟨_, rfl⟩
      have HXY := Lib.hid (ptake_next hkl (show ps[k] = (x, y) by rw [hx, hy]))
      rw [← hx] at c0 l0
      rw [← hy] at c1 l1
      clear hx hy hkl
      have i1 : (0 : Int) ≤ (k : Int) := by omega
      have i2 : (k : Int) < (n : Int) := by omega
      go_wp2_with (first
        | (at_builtin; refine wpList_append_fits _ rfl (.tmp 15) (.tmp 20) 75 rfl w.heap.size 118 i0 2 Tryz.underlying75 HIN.out HS1.out w.heap.size k (n + 1) (pflat (ps.take k)) rfl (HO.out.alloc _) ⟨wr.heap.size, 0, none⟩ 1 1 [.int .i64 x, .int .i64 y] rfl rfl (cell_two wr _ _ 118) (fun u hu => by simp at hu; rcases hu with rfl | rfl <;> rfl) (by omega) ?_; intro w2 ho2 hg2; have HO2 := Lib.hid ho2; have HB2 := Lib.hid ((HB.out.alloc HB.out.size _).grown hg2 (by have := HB.out.size; simp; omega) (fun j hj => by cases hj; exact Nat.le_refl _)); clear ho2 hg2))
      go_roundw
      case rel => exact ⟨k + 1, by omega, by go_num, rfl, by rw [HXY.out]; exact HO2.out, HB2.out⟩
      case measure => simp [intOf]; omega
    · obtain rfl : k = n := by omega
      have HT := Lib.hid (show ps.take k = ps from List.take_of_length_le (by rw [← HN.out]; omega))
      go_wp2_with (first
        | (at_builtin; refine wpList_append_fits _ rfl (.tmp 22) (.tmp 24) 75 rfl w.heap.size 118 i0 2 Tryz.underlying75 HIN.out HS1.out w.heap.size k (k + 1) (pflat (ps.take k)) rfl (HO.out.alloc _) ⟨wr.heap.size, 0, none⟩ 1 1 [.int .i64 77, .int .i64 0] rfl rfl (cell_two wr _ _ 118) (fun u hu => by simp at hu; rcases hu with rfl | rfl <;> rfl) (by omega) ?_; intro w2 ho2 hg2; have HO2 := Lib.hid ho2; have HB2 := Lib.hid ((HB.out.alloc HB.out.size _).grown hg2 (by have := HB.out.size; simp; omega) (fun j hj => by cases hj; exact Nat.le_refl _)); clear ho2 hg2))
      go_ret
      refine ⟨⟨w.heap.size, rfl, Nat.le_refl _, ?_⟩, HB2.out⟩
      have h := HO2.out
      rw [HT.out] at h
      have e : pflat (ps ++ [(77, 0)]) = pflat ps ++ [.int .i64 77, .int .i64 0] := by rw [pflat_append]; rfl
      exact own_whole2 (by rw [e]; exact h) (by omega)
theorem eq_same (a b : Int) (w : World) : (Op.equalIn 10000 118 (.agg #[.int .i64 a, .int .i64 b]) (.agg #[.int .i64 a, .int .i64 b])).run Tryz.prog w = .ok true w := by
  rw [eq_pair]; simp
theorem prs_lit {w : World} {B : Nat} {L : List (Int × Int)} (h : w.heap[B]? = some (.cells (pflat L).toArray 118 (0, 0))) (hf : PFit L) : Prs w (some ⟨B, 0, none⟩) L := by
  intro k hk
  obtain ⟨g0, g1⟩ := pflat_get L k hk
  refine ⟨B, 0, rfl, ?_, ?_, hf _ (List.getElem_mem hk)⟩
  · rw [blk_cell h]
    simpa using g0
  · rw [blk_cell h]
    simpa using g1
set_option maxHeartbeats 2000000 in
theorem leftp_any (A A2 : Option Addr) (n c : Nat) (ps : List (Int × Int)) (hn : n = ps.length) (hb : n ≤ 100000) (w : World) (hP : Prs w A ps) (hT : Prs w A2 (ps ++ [(77, 0)])) :
    Calls Tryz.prog 37 #[.slice A2 n (n + 1), .slice A n c] w fun e w' => e = .returned (.bool true) ∧ Below w.heap.size w w' := by
  have HP := Lib.hid hP
  have HT := Lib.hid hT
  have HN := Lib.hid hn
  clear hn hP hT
  have d1 : ((n : Int) != (n : Int)) = false := by simp
  have d2 : decide ((n : Int) + 1 ≤ (n : Int)) = false := by simp; omega
  go_enter Tryz.func37, Tryz.ntmps37
  go_wp2
  go_loopw [5] (fun i wr => ∃ k : Nat, k ≤ n ∧ i = .int .i64 k ∧ ∃ q, wr = w.drewN q) (fun i _ => n - (intOf i).toNat)
  case atStart => exact ⟨0, by omega, rfl, 0, rfl⟩
  case round =>
    obtain ⟨k, hk, rfl, q, rfl⟩ := hrel
    by_cases hlt : k < n
    · have hkl : k < ps.length := by rw [← HN.out]; exact hlt
      obtain ⟨b, o, rfl, c0, c1, l0, l1⟩ := HP.out k hkl
      obtain ⟨b2, o2, rfl, c2, c3, l2, l3⟩ := HT.out k (by rw [List.length_append]; omega)
      rw [List.getElem_append_left hkl] at c2 c3
      obtain ⟨x, hx⟩ : ∃ x, x = ps[k].1 := ⟨_, rfl⟩
      obtain ⟨y, hy⟩ : ∃ y, y = ps[k].2 := ⟨_, rfl⟩
      rw [← hx] at c0 c2
      rw [← hy] at c1 c3
      clear hx hy hkl l0 l1 l2 l3
      have EQ := eq_same x y
      have i1 : (0 : Int) ≤ (k : Int) := by omega
      have i2 : (k : Int) < (n : Int) := by omega
      go_wp2
      go_quiet (fail)
      go_wp2
      go_roundw
      case rel => exact ⟨k + 1, by omega, by go_num, _, rfl⟩
      case measure => simp [intOf]; omega
    · obtain rfl : k = n := by omega
      obtain ⟨b2, o2, rfl, c2, c3, l2, l3⟩ := HT.out k (by rw [List.length_append, ← HN.out]; simp)
      rw [List.getElem_append_right (by rw [← HN.out]; omega)] at c2 c3
      simp only [List.getElem_singleton] at c2 c3
      clear l2 l3
      have EQ := eq_same 77 0
      have HB := Lib.hid (pw_below_drewN (Below.refl w.heap.size w) q)
      have c4 : (w.drewN q).cell? ⟨b2, o2 + k * 2, none⟩ = some (.int .i64 77) := c2
      have c5 : (w.drewN q).cell? ⟨b2, o2 + k * 2 + 1, none⟩ = some (.int .i64 0) := c3
      clear c2 c3
      generalize w.drewN q = W at c4 c5 HB ⊢
      go_wp2
      go_ret
      exact ⟨rfl, HB.out.alloc HB.out.size _⟩
end Go.Proofs.YtajilghlcfheiaaGreatDoor.Ord
