/- Some answers that the document fixes. -/
import Derived.Test.YtmfmampcgadjhaaNum4
namespace Go.Proofs.Ytmfmampcgadjhaa
open Go.RowKit Go.Proofs.YtmfmampcgadjhaaW.PrintWords
theorem below_lit {W w' : World} {o : Obj} (h : Below (W.alloc o).heap.size (W.alloc o) w') : Below W.heap.size W w' :=
  ((Below.refl _ W).alloc (Nat.le_refl _) o).trans (h.mono (by simp))
theorem get_lit (bs : List UInt8) (hl : bs.length ≤ 9223372036854775807) (r : Nat × Nat × Nat) (hr : get bs = r) (W : World) : Calls Try.prog 9 #[.slice (some ⟨W.heap.size, 0, none⟩) bs.length bs.length] (W.alloc (.cells (byteCells bs) 5)) fun e w' => e = .returned (tup r) ∧ Below W.heap.size W w' := by
  subst hr
  exact (get_any _ _ _ bs rfl _ (bytes_lit W (0, 0) bs hl)).mono fun e w' h => ⟨h.1, by rw [← h.2]; exact (Below.refl _ W).alloc (Nat.le_refl _) _⟩
theorem four_lit (bs : List UInt8) (hl : bs.length ≤ 9223372036854775807) (r : Nat × Nat) (hr : four bs = r) (W : World) : Calls Try.prog 11 #[.slice (some ⟨W.heap.size, 0, none⟩) bs.length bs.length] (W.alloc (.cells (byteCells bs) 5)) fun e w' => e = .returned (tup2 r) ∧ Below W.heap.size W w' := by
  subst hr
  exact (four_any _ _ _ bs rfl (Nat.le_refl _) _ (bytes_lit W (0, 0) bs hl)).mono fun e w' h => ⟨h.1, below_lit h.2⟩
theorem text_lit (bs : List UInt8) (hl : bs.length ≤ 9223372036854775807) (r : List UInt8 × Nat × Nat) (hr : text bs = r) (W : World) : Calls Try.prog 13 #[.slice (some ⟨W.heap.size, 0, none⟩) bs.length bs.length] (W.alloc (.cells (byteCells bs) 5)) fun e w' => e = .returned (tupT r) ∧ Below W.heap.size W w' := by
  subst hr
  exact (text_any _ _ _ bs rfl (Nat.le_refl _) _ (bytes_lit W (0, 0) bs hl)).mono fun e w' h => ⟨h.1, by rw [← h.2]; exact (Below.refl _ W).alloc (Nat.le_refl _) _⟩
/-- 'string(b)'. -/
theorem string_all {w : World} {n₀ n c : Nat} {A : Option Addr} {bs : List UInt8} (h : Bytes w n₀ A bs) (hn : n = bs.length) : (convert 22 9 (.slice A n c)).run Try.prog w = .ok (.string ⟨bs.toArray⟩) w := by
  subst hn
  cases bs with
  | nil => exact string_none
  | cons b l =>
    obtain ⟨bb, off, rfl, _, hc⟩ := h.2 (by simp)
    have := string_part (cap := c) hc 0 (b :: l).length (by simp)
    rwa [Nat.add_zero, List.drop_zero, List.take_length] at this
theorem Row.three {w : World} {base : Nat} {v : Value} {bs : List UInt8} (h : Row w base v bs) : ∃ A c, v = .slice A bs.length c ∧ (convert 22 9 (.slice A bs.length c)).run Try.prog w = .ok (.string ⟨bs.toArray⟩) w := by
  obtain ⟨A, c, e, _, hb⟩ := h.bytes
  exact ⟨A, c, e, string_all hb rfl⟩
set_option maxRecDepth 20000 in
set_option maxHeartbeats 4000000 in
theorem alive_any (w : World) : Calls Try.prog 16 #[] w fun e w' => e = .returned (.bool true) ∧ Below w.heap.size w w' := by
  have e1 : [9] ++ num 300 = [9, 172, 2] := by decide
  have e2 : [] ++ num 0 = [0] := by decide
  have e3 : [] ++ num 18446744073709551615 = [255, 255, 255, 255, 255, 255, 255, 255, 255, 1] := by decide
  have e4 : [] ++ four4 258 = [2, 1, 0, 0] := by decide
  have e5 : [] ++ num ([97, 98] : List UInt8).length ++ [97, 98] = [2, 97, 98] := by decide
  have E1 := Lib.hid e1
  have E2 := Lib.hid e2
  have E3 := Lib.hid e3
  have E4 := Lib.hid e4
  have E5 := Lib.hid e5
  clear e1 e2 e3 e4 e5
  have HB0 := Lib.hid (Below.refl w.heap.size w)
  go_enter Try.func16, Try.ntmps16
  go_wp2_with fail
  refine (get_lit [172, 2, 7] (by decide) (300, 2, 0) (by decide) _).mono ?_
  rintro e w1 ⟨rfl, hb⟩
  have HB1 := Lib.hid (on HB0.out hb)
  clear hb HB0
  unfold tup
  go_wp2_with fail
  refine (get_lit [128] (by decide) (0, 0, 5) (by decide) _).mono ?_
  rintro e w2 ⟨rfl, hb⟩
  have HB2 := Lib.hid (on HB1.out hb)
  clear hb HB1
  unfold tup
  go_wp2_with fail
  refine (get_lit [128, 0] (by decide) (0, 0, 4) (by decide) _).mono ?_
  rintro e w3 ⟨rfl, hb⟩
  have HB3 := Lib.hid (on HB2.out hb)
  clear hb HB2
  unfold tup
  go_wp2_with fail
  refine (get_lit [255, 255, 255, 255, 255, 255, 255, 255, 255, 2] (by decide) (0, 0, 4) (by decide) _).mono ?_
  rintro e w4 ⟨rfl, hb⟩
  have HB4 := Lib.hid (on HB3.out hb)
  clear hb HB3
  unfold tup
  go_wp2_with fail
  refine (four_lit [2, 1, 0, 0, 5] (by decide) (258, 0) (by decide) _).mono ?_
  rintro e w5 ⟨rfl, hb⟩
  have HB5 := Lib.hid (on HB4.out hb)
  clear hb HB4
  unfold tup2
  go_wp2_with fail
  refine (four_lit [2, 1, 0] (by decide) (0, 5) (by decide) _).mono ?_
  rintro e w6 ⟨rfl, hb⟩
  have HB6 := Lib.hid (on HB5.out hb)
  clear hb HB5
  unfold tup2
  go_wp2_with fail
  refine (text_lit [2, 97, 98, 99] (by decide) ([97, 98], 3, 0) (by decide) _).mono ?_
  rintro e w7 ⟨rfl, hb⟩
  have HB7 := Lib.hid (on HB6.out hb)
  clear hb HB6
  unfold tupT
  go_wp2_with fail
  refine (text_lit [2, 97] (by decide) ([], 0, 5) (by decide) _).mono ?_
  rintro e w8 ⟨rfl, hb⟩
  have HB8 := Lib.hid (on HB7.out hb)
  clear hb HB7
  unfold tupT
  go_wp2_with fail
  refine (num_any _ 1 _ [9] rfl (by omega) 300 (by omega) _ (bytes_lit _ (0, 0) [9] (by decide))).mono ?_
  rintro e w9 ⟨⟨v, rfl, hr⟩, hb⟩
  have HB9 := Lib.hid (on HB8.out (below_lit hb))
  rw [E1.out] at hr
  obtain ⟨A8, c8, rfl, kb8⟩ := hr.three
  simp only [List.length_cons, List.length_nil, Nat.reduceAdd, Nat.zero_add] at kb8
  clear hr hb HB8
  go_wp2_with fail
  refine (num_any none 0 0 [] rfl (by omega) 0 (by omega) _ (bytes_none _ _)).mono ?_
  rintro e w10 ⟨⟨v, rfl, hr⟩, hb⟩
  have HB10 := Lib.hid (on HB9.out hb)
  rw [E2.out] at hr
  obtain ⟨A9, c9, rfl, kb9⟩ := hr.three
  simp only [List.length_cons, List.length_nil, Nat.zero_add] at kb9
  clear hr hb HB9
  go_wp2_with fail
  refine (num_any none 0 0 [] rfl (by omega) 18446744073709551615 (by omega) _ (bytes_none _ _)).mono ?_
  rintro e w11 ⟨⟨v, rfl, hr⟩, hb⟩
  have HB11 := Lib.hid (on HB10.out hb)
  rw [E3.out] at hr
  obtain ⟨A10, c10, rfl, kb10⟩ := hr.three
  simp only [List.length_cons, List.length_nil, Nat.reduceAdd, Nat.zero_add] at kb10
  clear hr hb HB10
  go_wp2_with fail
  refine (four4_any none 0 0 [] rfl (by omega) 258 (by omega) _ (bytes_none _ _)).mono ?_
  rintro e w12 ⟨⟨v, rfl, hr⟩, hb⟩
  have HB12 := Lib.hid (on HB11.out hb)
  rw [E4.out] at hr
  obtain ⟨A11, c11, rfl, kb11⟩ := hr.three
  simp only [List.length_cons, List.length_nil, Nat.reduceAdd, Nat.zero_add] at kb11
  clear hr hb HB11
  go_wp2_with fail
  refine (ptext_any none 0 0 [] rfl (by omega) [97, 98] (by decide) _ (bytes_none _ _)).mono ?_
  rintro e w13 ⟨⟨v, rfl, hr⟩, hb⟩
  have HB13 := Lib.hid (on HB12.out hb)
  rw [E5.out] at hr
  obtain ⟨A12, c12, rfl, kb12⟩ := hr.three
  simp only [List.length_cons, List.length_nil, Nat.reduceAdd, Nat.zero_add] at kb12
  clear hr hb HB12
  go_wp2
  go_ret
  exact ⟨rfl, HB13.out⟩
end Go.Proofs.Ytmfmampcgadjhaa
