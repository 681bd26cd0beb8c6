/- What is alive of reaches: some answers that the document fixes; and where Of is refused for its size. -/
import Derived.Test.YtappaokjlnpbnaaDoorReaSame
namespace Go.Proofs.YtappaokjlnpbnaaDoor.Rea
open Go.RowKit
theorem of_lim (a : Option Addr) (cap m : Nat) (n : Int) (h : n < 0 ∨ 64 < n ∨ 256 < m) (hm : (m : Int) ≤ 9223372036854775807) (w : World) : Calls Tryd.prog 43 #[.int .i64 n, .slice a m cap] w fun e w' => e = .returned (.tuple #[.slice none 0 0, .int .i64 3]) ∧ Below w.heap.size w w' := by
  by_cases h1 : n < 0
  · have d1 : decide (n < 0) = true := by simpa using h1
    go_enter Tryd.func43, Tryd.ntmps43
    go_wp2
    go_ret2
    exact ⟨rfl, Below.refl _ w⟩
  · have d1 : decide (n < 0) = false := by simpa using h1
    by_cases h2 : 64 < n
    · have d2 : decide (64 < n) = true := by simpa using h2
      go_enter Tryd.func43, Tryd.ntmps43
      go_wp2
      go_ret2
      exact ⟨rfl, Below.refl _ w⟩
    · have d2 : decide (64 < n) = false := by simpa using h2
      have d3 : decide (256 < (m : Int)) = true := by simp; omega
      clear h
      go_enter Tryd.func43, Tryd.ntmps43
      go_wp2
      go_ret2
      exact ⟨rfl, Below.refl _ w⟩
theorem of_ok (a : Option Addr) (cap : Nat) (L : List Bd) (n m : Nat) (hn : n ≤ 64) (hm : m = L.length) (hm' : m ≤ 256) (ho : L.all (·.ok n) = true) (w : World) (hL : Bds w a L) : Calls Tryd.prog 43 #[.int .i64 (n : Int), .slice a m cap] w fun e w' => Below w.heap.size w w' ∧ ∃ a', e = .returned (.tuple #[.slice a' n n, .int .i64 0]) ∧ IsM w' a' n (reach n L) :=
  (of_any a cap L n m hn hm hm' w hL).mono (by
    rintro e w' ⟨hb, ⟨_, h⟩ | ⟨h, _⟩⟩
    · exact ⟨hb, h⟩
    · rw [ho] at h
      cases h)
theorem of_bad (a : Option Addr) (cap : Nat) (L : List Bd) (n m : Nat) (hn : n ≤ 64) (hm : m = L.length) (hm' : m ≤ 256) (ho : L.all (·.ok n) = false) (w : World) (hL : Bds w a L) : Calls Tryd.prog 43 #[.int .i64 (n : Int), .slice a m cap] w fun e w' => Below w.heap.size w w' ∧ e = .returned (.tuple #[.slice none 0 0, .int .i64 1]) :=
  (of_any a cap L n m hn hm hm' w hL).mono (by
    rintro e w' ⟨hb, ⟨h, _⟩ | ⟨_, h⟩⟩
    · rw [ho] at h
      cases h
    · exact ⟨hb, h⟩)
theorem bds_one (W : World) (b : Bd) (h1 : b.an < 18446744073709551616) (h2 : b.bn < 18446744073709551616) : Bds (W.alloc (.cells #[.bool b.av, .int .u64 (b.an : Int), .bool b.bv, .int .u64 (b.bn : Int)] 72)) (some ⟨W.heap.size, 0, none⟩) [b] := by
  have hB := heap_alloc_new W (.cells #[.bool b.av, .int .u64 (b.an : Int), .bool b.bv, .int .u64 (b.bn : Int)] 72)
  intro k hk
  obtain rfl : k = 0 := by simp at hk; exact hk
  exact ⟨_, 0, rfl, by rw [cell_of_row _ _ _ _ _ _ hB]; rfl, by rw [cell_of_row _ _ _ _ _ _ hB]; rfl, by rw [cell_of_row _ _ _ _ _ _ hB]; rfl, by rw [cell_of_row _ _ _ _ _ _ hB]; rfl, h1, h2⟩
theorem bds_two (W : World) (b c : Bd) (h1 : b.an < 18446744073709551616) (h2 : b.bn < 18446744073709551616) (h3 : c.an < 18446744073709551616) (h4 : c.bn < 18446744073709551616) : Bds (W.alloc (.cells #[.bool b.av, .int .u64 (b.an : Int), .bool b.bv, .int .u64 (b.bn : Int), .bool c.av, .int .u64 (c.an : Int), .bool c.bv, .int .u64 (c.bn : Int)] 72)) (some ⟨W.heap.size, 0, none⟩) [b, c] := by
  have hB := heap_alloc_new W (.cells #[.bool b.av, .int .u64 (b.an : Int), .bool b.bv, .int .u64 (b.bn : Int), .bool c.av, .int .u64 (c.an : Int), .bool c.bv, .int .u64 (c.bn : Int)] 72)
  intro k hk
  have hk' : k = 0 ∨ k = 1 := by simp at hk; omega
  rcases hk' with rfl | rfl
  · exact ⟨_, 0, rfl, by rw [cell_of_row _ _ _ _ _ _ hB]; rfl, by rw [cell_of_row _ _ _ _ _ _ hB]; rfl, by rw [cell_of_row _ _ _ _ _ _ hB]; rfl, by rw [cell_of_row _ _ _ _ _ _ hB]; rfl, h1, h2⟩
  · exact ⟨_, 0, rfl, by rw [cell_of_row _ _ _ _ _ _ hB]; rfl, by rw [cell_of_row _ _ _ _ _ _ hB]; rfl, by rw [cell_of_row _ _ _ _ _ _ hB]; rfl, by rw [cell_of_row _ _ _ _ _ _ hB]; rfl, h3, h4⟩
def tri (i j : Nat) : Bool := decide (i ≤ j)
def dia (i j : Nat) : Bool := i == j
def LA : List Bd := [⟨true, 0, true, 1⟩, ⟨true, 1, true, 2⟩]
def LC : List Bd := [⟨true, 0, false, 5⟩, ⟨false, 5, true, 1⟩]
theorem below_one (w : World) (a : Obj) : Below w.heap.size w (w.alloc a) := (Below.refl _ w).alloc (Nat.le_refl _) _
theorem same_LA : sameM 3 (reach 3 LA) tri = true := by decide
theorem same_LC : sameM 2 (reach 2 LC) dia = true := by decide
theorem below4 (w : World) (a b c d : Obj) : Below w.heap.size w ((((w.alloc a).alloc b).alloc c).alloc d) :=
  ((((Below.refl _ w).alloc (Nat.le_refl _) _).alloc (by rw [alloc_size]; omega) _).alloc (by rw [alloc_size, alloc_size]; omega) _).alloc (by rw [alloc_size, alloc_size, alloc_size]; omega) _
theorem lit3 (W : World) : IsM ((((W.alloc (.cells #[.bool true, .bool true, .bool true] 4)).alloc (.cells #[.bool false, .bool true, .bool true] 4)).alloc (.cells #[.bool false, .bool false, .bool true] 4)).alloc (.cells #[.slice (some ⟨W.heap.size, 0, none⟩) 3 3, .slice (some ⟨W.heap.size + 1, 0, none⟩) 3 3, .slice (some ⟨W.heap.size + 1 + 1, 0, none⟩) 3 3] 82)) (some ⟨W.heap.size + 1 + 1 + 1, 0, none⟩) 3 tri := by
  have b4 := below_one ((((W.alloc (.cells #[.bool true, .bool true, .bool true] 4)).alloc (.cells #[.bool false, .bool true, .bool true] 4)).alloc (.cells #[.bool false, .bool false, .bool true] 4))) (.cells #[.slice (some ⟨W.heap.size, 0, none⟩) 3 3, .slice (some ⟨W.heap.size + 1, 0, none⟩) 3 3, .slice (some ⟨W.heap.size + 1 + 1, 0, none⟩) 3 3] 82)
  have h0 := (b4.block W.heap.size (by rw [alloc_size, alloc_size, alloc_size]; omega)).trans (first_ W _ _ _)
  have h1 := (b4.block (W.heap.size + 1) (by rw [alloc_size, alloc_size, alloc_size]; omega)).trans (second W _ _ _)
  have h2 := (b4.block (W.heap.size + 1 + 1) (by rw [alloc_size, alloc_size, alloc_size]; omega)).trans (third W _ _ _)
  have h3 := heap_alloc_new ((((W.alloc (.cells #[.bool true, .bool true, .bool true] 4)).alloc (.cells #[.bool false, .bool true, .bool true] 4)).alloc (.cells #[.bool false, .bool false, .bool true] 4))) (.cells #[.slice (some ⟨W.heap.size, 0, none⟩) 3 3, .slice (some ⟨W.heap.size + 1, 0, none⟩) 3 3, .slice (some ⟨W.heap.size + 1 + 1, 0, none⟩) 3 3] 82)
  rw [alloc_size, alloc_size, alloc_size] at h3
  intro i hi
  have hi' : i = 0 ∨ i = 1 ∨ i = 2 := by omega
  rcases hi' with rfl | rfl | rfl
  · exact ⟨_, rfl, _, by rw [cell_of_row _ _ _ _ _ _ h3]; rfl, by
      intro j hj
      have hj' : j = 0 ∨ j = 1 ∨ j = 2 := by omega
      rcases hj' with rfl | rfl | rfl <;> (rw [cell_of_row _ _ _ _ _ _ h0]; rfl)⟩
  · exact ⟨_, rfl, _, by rw [cell_of_row _ _ _ _ _ _ h3]; rfl, by
      intro j hj
      have hj' : j = 0 ∨ j = 1 ∨ j = 2 := by omega
      rcases hj' with rfl | rfl | rfl <;> (rw [cell_of_row _ _ _ _ _ _ h1]; rfl)⟩
  · exact ⟨_, rfl, _, by rw [cell_of_row _ _ _ _ _ _ h3]; rfl, by
      intro j hj
      have hj' : j = 0 ∨ j = 1 ∨ j = 2 := by omega
      rcases hj' with rfl | rfl | rfl <;> (rw [cell_of_row _ _ _ _ _ _ h2]; rfl)⟩
theorem lit2 (W : World) : IsM (((W.alloc (.cells #[.bool true, .bool false] 4)).alloc (.cells #[.bool false, .bool true] 4)).alloc (.cells #[.slice (some ⟨W.heap.size, 0, none⟩) 2 2, .slice (some ⟨W.heap.size + 1, 0, none⟩) 2 2] 82)) (some ⟨W.heap.size + 1 + 1, 0, none⟩) 2 dia := by
  have h0 := first_ W (.cells #[.bool true, .bool false] 4) (.cells #[.bool false, .bool true] 4) (.cells #[.slice (some ⟨W.heap.size, 0, none⟩) 2 2, .slice (some ⟨W.heap.size + 1, 0, none⟩) 2 2] 82)
  have h1 := second W (.cells #[.bool true, .bool false] 4) (.cells #[.bool false, .bool true] 4) (.cells #[.slice (some ⟨W.heap.size, 0, none⟩) 2 2, .slice (some ⟨W.heap.size + 1, 0, none⟩) 2 2] 82)
  have h2 := third W (.cells #[.bool true, .bool false] 4) (.cells #[.bool false, .bool true] 4) (.cells #[.slice (some ⟨W.heap.size, 0, none⟩) 2 2, .slice (some ⟨W.heap.size + 1, 0, none⟩) 2 2] 82)
  intro i hi
  have hi' : i = 0 ∨ i = 1 := by omega
  rcases hi' with rfl | rfl
  · exact ⟨_, rfl, _, by rw [cell_of_row _ _ _ _ _ _ h2]; rfl, by
      intro j hj
      have hj' : j = 0 ∨ j = 1 := by omega
      rcases hj' with rfl | rfl <;> (rw [cell_of_row _ _ _ _ _ _ h0]; rfl)⟩
  · exact ⟨_, rfl, _, by rw [cell_of_row _ _ _ _ _ _ h2]; rfl, by
      intro j hj
      have hj' : j = 0 ∨ j = 1 := by omega
      rcases hj' with rfl | rfl <;> (rw [cell_of_row _ _ _ _ _ _ h1]; rfl)⟩
set_option maxHeartbeats 4000000 in
theorem alive_any (w : World) : Calls Tryd.prog 45 #[] w fun e w' => e = .returned (.bool true) ∧ Below w.heap.size w w' := by
  have HB0 := Lib.hid (Below.refl w.heap.size w)
  go_enter Tryd.func45, Tryd.ntmps45
  go_wp2_with fail
  refine (v_any 0 _).mono ?_
  rintro e w1 ⟨rfl, hb⟩
  have HB1 := Lib.hid (on HB0.out hb)
  clear hb HB0
  go_wp2_with fail
  refine (v_any 1 _).mono ?_
  rintro e w2 ⟨rfl, hb⟩
  have HB2 := Lib.hid (on HB1.out hb)
  clear hb HB1
  go_wp2_with fail
  refine (v_any 1 _).mono ?_
  rintro e w3 ⟨rfl, hb⟩
  have HB3 := Lib.hid (on HB2.out hb)
  clear hb HB2
  go_wp2_with fail
  refine (v_any 2 _).mono ?_
  rintro e w4 ⟨rfl, hb⟩
  have HB4 := Lib.hid (on HB3.out hb)
  clear hb HB3
  go_wp2_with fail
  refine (of_ok (some ⟨w4.heap.size, 0, none⟩) 2 LA 3 2 (by omega) rfl (by omega) (by decide) _ (bds_two w4 ⟨true, 0, true, 1⟩ ⟨true, 1, true, 2⟩ (by decide) (by decide) (by decide) (by decide))).mono ?_
  rintro e w5 ⟨hb, aA, rfl, hA⟩
  have HA5 := Lib.hid hA
  have HB5 := Lib.hid (on (on HB4.out ((Below.refl _ w4).alloc (Nat.le_refl _) _)) hb)
  clear hb HB4 hA
  go_wp2_with fail
  refine (v_any 0 _).mono ?_
  rintro e w6 ⟨rfl, hb⟩
  have HA6 := Lib.hid (HA5.out.below hb)
  have HB6 := Lib.hid (on HB5.out hb)
  clear hb HB5 HA5
  go_wp2_with fail
  refine (c_any 5 _).mono ?_
  rintro e w7 ⟨rfl, hb⟩
  have HA7 := Lib.hid (HA6.out.below hb)
  have HB7 := Lib.hid (on HB6.out hb)
  clear hb HB6 HA6
  go_wp2_with fail
  refine (c_any 5 _).mono ?_
  rintro e w8 ⟨rfl, hb⟩
  have HA8 := Lib.hid (HA7.out.below hb)
  have HB8 := Lib.hid (on HB7.out hb)
  clear hb HB7 HA7
  go_wp2_with fail
  refine (v_any 1 _).mono ?_
  rintro e w9 ⟨rfl, hb⟩
  have HA9 := Lib.hid (HA8.out.below hb)
  have HB9 := Lib.hid (on HB8.out hb)
  clear hb HB8 HA8
  go_wp2_with fail
  refine (of_ok (some ⟨w9.heap.size, 0, none⟩) 2 LC 2 2 (by omega) rfl (by omega) (by decide) _ (bds_two w9 ⟨true, 0, false, 5⟩ ⟨false, 5, true, 1⟩ (by decide) (by decide) (by decide) (by decide))).mono ?_
  rintro e w10 ⟨hb, aC, rfl, hC⟩
  have hb2 := on ((Below.refl _ w9).alloc (Nat.le_refl _) _) hb
  have HA10 := Lib.hid (HA9.out.below hb2)
  have HC10 := Lib.hid hC
  have HB10 := Lib.hid (on HB9.out hb2)
  clear hb hb2 HB9 HA9 hC
  go_wp2_with fail
  refine (v_any 0 _).mono ?_
  rintro e w11 ⟨rfl, hb⟩
  have HA11 := Lib.hid (HA10.out.below hb)
  have HC11 := Lib.hid (HC10.out.below hb)
  have HB11 := Lib.hid (on HB10.out hb)
  clear hb HB10 HA10 HC10
  go_wp2_with fail
  refine (v_any 1 _).mono ?_
  rintro e w12 ⟨rfl, hb⟩
  have HA12 := Lib.hid (HA11.out.below hb)
  have HC12 := Lib.hid (HC11.out.below hb)
  have HB12 := Lib.hid (on HB11.out hb)
  clear hb HB11 HA11 HC11
  go_wp2_with fail
  refine (of_bad (some ⟨w12.heap.size, 0, none⟩) 1 [⟨true, 0, true, 1⟩] 1 1 (by omega) rfl (by omega) (by decide) _ (bds_one w12 ⟨true, 0, true, 1⟩ (by decide) (by decide))).mono ?_
  rintro e w13 ⟨hb, rfl⟩
  have hb2 := on ((Below.refl _ w12).alloc (Nat.le_refl _) _) hb
  have HA13 := Lib.hid (HA12.out.below hb2)
  have HC13 := Lib.hid (HC12.out.below hb2)
  have HB13 := Lib.hid (on HB12.out hb2)
  clear hb hb2 HB12 HA12 HC12
  go_wp2_with fail
  refine (of_lim none 0 0 (-1) (.inl (by omega)) (by omega) _).mono ?_
  rintro e w14 ⟨rfl, hb⟩
  have HA14 := Lib.hid (HA13.out.below hb)
  have HC14 := Lib.hid (HC13.out.below hb)
  have HB14 := Lib.hid (on HB13.out hb)
  clear hb HB13 HA13 HC13
  go_wp2_with fail
  refine (lists_any aA (some ⟨w14.heap.size + 1 + 1 + 1, 0, none⟩) 3 (by omega) (reach 3 LA) tri _ (HA14.out.below (below4 _ _ _ _ _)) (lit3 w14)).mono ?_
  rw [same_LA]
  rintro e w15 ⟨rfl, hb⟩
  have hb2 := on (below4 w14 _ _ _ _) hb
  have HC15 := Lib.hid (HC14.out.below hb2)
  have HB15 := Lib.hid (on HB14.out hb2)
  clear hb hb2 HB14 HA14 HC14
  go_wp2_with fail
  refine (lists_any aC (some ⟨w15.heap.size + 1 + 1, 0, none⟩) 2 (by omega) (reach 2 LC) dia _ (HC15.out.below (below3 _ _ _ _)) (lit2 w15)).mono ?_
  rw [same_LC]
  rintro e w16 ⟨rfl, hb⟩
  have HB16 := Lib.hid (on HB15.out (on (below3 w15 _ _ _) hb))
  clear hb HB15 HC15
  go_wp2
  go_ret
  exact ⟨rfl, HB16.out⟩
end Go.Proofs.YtappaokjlnpbnaaDoor.Rea
