/- What is alive of lattices; a lattice that the laws make. -/
import Derived.Test.YtappaokjlnpbnaaDoorLatA
namespace Go.Proofs.YtappaokjlnpbnaaDoor
open Go.RowKit Go.Proofs.YtappaokjlnpbnaaDoorW.PrintWords
theorem nums_block {w : World} {B : Nat} {bs : List Nat} {y : Int} (h : w.heap[B]? = some (.cells (nums .u64 (intsN bs ++ [y])).toArray 25 (0, 0))) (hx : ∀ x ∈ bs, x < 18446744073709551616) : Nums w (some ⟨B, 0, none⟩) bs := by
  refine ⟨hx, fun _ => ⟨B, 0, rfl, ?_, fun j hj => ?_⟩⟩
  · exact (Array.getElem?_eq_some_iff.1 h).1
  · rw [Nat.zero_add, blk_nums h j (by rw [List.length_append, intsN_length]; simp; omega), rd_append _ _ _ (by rw [intsN_length]; exact hj)]
    simp [rd, intsN, hj]
theorem nums_cells {w : World} {B : Nat} {bs : List Nat} (h : w.heap[B]? = some (.cells (nums .u64 (intsN bs)).toArray 25 (0, 0))) (hx : ∀ x ∈ bs, x < 18446744073709551616) : Nums w (some ⟨B, 0, none⟩) bs := by
  refine ⟨hx, fun _ => ⟨B, 0, rfl, ?_, fun j hj => ?_⟩⟩
  · exact (Array.getElem?_eq_some_iff.1 h).1
  · rw [Nat.zero_add, blk_nums h j (by rw [intsN_length]; exact hj)]
    simp [rd, intsN, hj]
theorem nums_lit (W : World) (bs : List Nat) (hx : ∀ x ∈ bs, x < 18446744073709551616) : Nums (W.alloc (.cells (nums .u64 (intsN bs)).toArray 25)) (some ⟨W.heap.size, 0, none⟩) bs := nums_cells (heap_alloc_new W _) hx
theorem blk_below {w w' : World} {B : Nat} {o : Obj} (h : w.heap[B]? = some o) (hb : Below w.heap.size w w') : w'.heap[B]? = some o := by
  rw [← h]
  exact hb.block B (Array.getElem?_eq_some_iff.1 h).1
theorem nat_u64 {a : Int} (h : (Lit.int .u64 a).wf = true) : ∃ x : Nat, a = (x : Int) ∧ x < 18446744073709551616 := nat_of_u64r h
theorem lit_below (w : World) (o : Obj) : Below w.heap.size w (w.alloc o) := (Below.refl _ w).alloc (Nat.le_refl _) _
theorem lit_on {w w' : World} {o : Obj} (h : Below (w.alloc o).heap.size (w.alloc o) w') : Below w.heap.size w w' := on (lit_below w o) h
theorem r32 : checkR [3, 2] = 0 := by decide +kernel
theorem r12 : checkR [1, 2] = 7 := by decide +kernel
theorem newA (W : World) (hT : Tab W) : Calls Tryd.prog 20 #[.slice (some ⟨W.heap.size, 0, none⟩) 2 2] (W.alloc (.cells #[.int .u64 3, .int .u64 2] 25)) fun e w' => (∃ B, e = .returned (.tuple #[.pointer (some ⟨B, 0, none⟩), .int .i64 0]) ∧ LatAt w' B [3, 2]) ∧ Below W.heap.size W w' :=
  (new_any _ 2 2 [3, 2] rfl (by omega) _ (nums_lit W [3, 2] (by simp)) (hT.below (lit_below W _))).mono (by
    rintro e w' ⟨hb, ⟨h, _⟩ | ⟨_, B, rfl, _, h⟩⟩
    · exact absurd r32 h
    · exact ⟨⟨B, rfl, h⟩, lit_on hb⟩)
theorem newB (W : World) (hT : Tab W) : Calls Tryd.prog 20 #[.slice (some ⟨W.heap.size, 0, none⟩) 2 2] (W.alloc (.cells #[.int .u64 1, .int .u64 2] 25)) fun e w' => e = .returned (.tuple #[.pointer none, .int .i64 7]) ∧ Below W.heap.size W w' :=
  (new_any _ 2 2 [1, 2] rfl (by omega) _ (nums_lit W [1, 2] (by simp)) (hT.below (lit_below W _))).mono (by
    rintro e w' ⟨hb, ⟨_, rfl⟩ | ⟨h, _⟩⟩
    · exact ⟨by rw [r12]; rfl, lit_on hb⟩
    · have h2 := (check_zero (by simp)).2 h
      rw [r12] at h2
      cases h2)
theorem j01 : joinF [3, 2] 0 1 = 1 := by decide +kernel
theorem m01 : meetF [3, 2] 0 1 = 0 := by decide +kernel
theorem b32 : botF [3, 2] = 0 := by decide +kernel
theorem t32 : topF [3, 2] = 1 := by decide +kernel
theorem j02 : joinF [3, 2] 0 2 = 0 := by decide +kernel
theorem LatAt.v {w : World} {B : Nat} {rows : List Nat} (h : LatAt w B rows) : LatV w (.pointer (some ⟨B, 0, none⟩)) rows := .inr ⟨B, rfl, h⟩
theorem hasA (B a : Nat) (W : World) (q : Bool) (h : LatAt W B [3, 2]) (hq : decide (a < 2) = q) : Calls Tryd.prog 23 #[.pointer (some ⟨B, 0, none⟩), .int .u64 (a : Int)] W fun e w' => e = .returned (.bool q) ∧ Below W.heap.size W w' :=
  (has_any _ [3, 2] a W h.v).mono (by rintro e w' ⟨rfl, rfl⟩; exact ⟨by rw [← hq]; rfl, Below.refl _ _⟩)
theorem joinA (B a b r : Nat) (W : World) (hT : Tab W) (h : LatAt W B [3, 2]) (hr : joinF [3, 2] a b = r) : Calls Tryd.prog 17 #[.pointer (some ⟨B, 0, none⟩), .int .u64 (a : Int), .int .u64 (b : Int)] W fun e w' => e = .returned (.int .u64 (r : Int)) ∧ Below W.heap.size W w' :=
  (join_any _ [3, 2] a b W h.v hT).mono (by rintro e w' ⟨rfl, hb⟩; exact ⟨by rw [← hr], hb⟩)
theorem meetA (B a b r : Nat) (W : World) (hT : Tab W) (h : LatAt W B [3, 2]) (hr : meetF [3, 2] a b = r) : Calls Tryd.prog 18 #[.pointer (some ⟨B, 0, none⟩), .int .u64 (a : Int), .int .u64 (b : Int)] W fun e w' => e = .returned (.int .u64 (r : Int)) ∧ Below W.heap.size W w' :=
  (meet_any _ [3, 2] a b W h.v hT).mono (by rintro e w' ⟨rfl, hb⟩; exact ⟨by rw [← hr], hb⟩)
theorem botA (B : Nat) (W : World) (hT : Tab W) (h : LatAt W B [3, 2]) : Calls Tryd.prog 27 #[.pointer (some ⟨B, 0, none⟩)] W fun e w' => e = .returned (.int .u64 0) ∧ Below W.heap.size W w' :=
  (bottom_any _ [3, 2] W h.v hT).mono (by rintro e w' ⟨rfl, hb⟩; exact ⟨by rw [b32]; rfl, hb⟩)
theorem topA (B : Nat) (W : World) (hT : Tab W) (h : LatAt W B [3, 2]) : Calls Tryd.prog 29 #[.pointer (some ⟨B, 0, none⟩)] W fun e w' => e = .returned (.int .u64 1) ∧ Below W.heap.size W w' :=
  (top_any _ [3, 2] W h.v hT).mono (by rintro e w' ⟨rfl, hb⟩; exact ⟨by rw [t32]; rfl, hb⟩)
set_option maxRecDepth 100000 in
set_option maxHeartbeats 2000000 in
theorem alive_any (w : World) (hT : Tab w) : Calls Tryd.prog 16 #[] w fun e w' => e = .returned (.bool true) ∧ Below w.heap.size w w' := by
  have HB0 := Lib.hid (Below.refl w.heap.size w)
  have HT := Lib.hid hT
  clear hT
  go_enter Tryd.func16, Tryd.ntmps16
  go_wp2_with fail
  refine (newA _ (HT.out.below HB0.out)).mono ?_
  rintro e w1 ⟨⟨BA, rfl, hA⟩, hb1⟩
  have HB1 := Lib.hid (on HB0.out hb1)
  have HA1 := Lib.hid hA
  clear hA
  clear hb1 HB0
  go_wp2_with fail
  refine (newB _ (HT.out.below HB1.out)).mono ?_
  rintro e w2 ⟨rfl, hb2⟩
  have HB2 := Lib.hid (on HB1.out hb2)
  have HA2 := Lib.hid (HA1.out.below hb2)
  clear HA1
  clear hb2 HB1
  go_wp2_with fail
  refine (hasA BA 1 _ true HA2.out rfl).mono ?_
  rintro e w3 ⟨rfl, hb3⟩
  have HB3 := Lib.hid (on HB2.out hb3)
  have HA3 := Lib.hid (HA2.out.below hb3)
  clear HA2
  clear hb3 HB2
  go_wp2_with fail
  refine (hasA BA 2 _ false HA3.out rfl).mono ?_
  rintro e w4 ⟨rfl, hb4⟩
  have HB4 := Lib.hid (on HB3.out hb4)
  have HA4 := Lib.hid (HA3.out.below hb4)
  clear HA3
  clear hb4 HB3
  go_wp2_with fail
  refine (joinA BA 0 1 1 _ (HT.out.below HB4.out) HA4.out j01).mono ?_
  rintro e w5 ⟨rfl, hb5⟩
  have HB5 := Lib.hid (on HB4.out hb5)
  have HA5 := Lib.hid (HA4.out.below hb5)
  clear HA4
  clear hb5 HB4
  go_wp2_with fail
  refine (meetA BA 0 1 0 _ (HT.out.below HB5.out) HA5.out m01).mono ?_
  rintro e w6 ⟨rfl, hb6⟩
  have HB6 := Lib.hid (on HB5.out hb6)
  have HA6 := Lib.hid (HA5.out.below hb6)
  clear HA5
  clear hb6 HB5
  go_wp2_with fail
  refine (botA BA _ (HT.out.below HB6.out) HA6.out).mono ?_
  rintro e w7 ⟨rfl, hb7⟩
  have HB7 := Lib.hid (on HB6.out hb7)
  have HA7 := Lib.hid (HA6.out.below hb7)
  clear HA6
  clear hb7 HB6
  go_wp2_with fail
  refine (topA BA _ (HT.out.below HB7.out) HA7.out).mono ?_
  rintro e w8 ⟨rfl, hb8⟩
  have HB8 := Lib.hid (on HB7.out hb8)
  have HA8 := Lib.hid (HA7.out.below hb8)
  clear HA7
  clear hb8 HB7
  go_wp2_with fail
  refine (joinA BA 0 2 0 _ (HT.out.below HB8.out) HA8.out j02).mono ?_
  rintro e w9 ⟨rfl, hb9⟩
  have HB9 := Lib.hid (on HB8.out hb9)
  have HA9 := Lib.hid (HA8.out.below hb9)
  clear HA8
  clear hb9 HB8
  go_wp2
  go_ret
  exact ⟨rfl, HB9.out⟩
/-- what made tells. -/
def MadeSays (rows : List Nat) (W0 : World) (e : Ending) (w' : World) : Prop :=
  Below W0.heap.size W0 w' ∧ (e = .returned (.tuple #[.pointer none, .int .u64 0]) ∨ (Fine rows ∧ ∃ B, e = .returned (.tuple #[.pointer (some ⟨B, 0, none⟩), .int .u64 (rows.length : Int)]) ∧ W0.heap.size ≤ B ∧ LatAt w' B rows))
set_option maxRecDepth 20000 in
theorem made_any (A : Option Addr) (n c : Nat) (rows : List Nat) (hn : n = rows.length) (hmax : n ≤ 9223372036854775807) (w : World) (hI : Nums w A rows) (hT : Tab w) : Calls Tryd.prog 15 #[.slice A n c] w (MadeSays rows w) := by
  have HC := Lib.hid (new_any A n c rows hn hmax w hI hT)
  have HN := Lib.hid hn
  clear hI hT hn
  by_cases h64 : 64 < n
  · have d1 : decide (64 < (n : Int)) = true := by simp; omega
    go_enter Tryd.func15, Tryd.ntmps15
    go_wp2
    go_ret2
    exact ⟨Below.refl _ _, .inl rfl⟩
  · have d1 : decide (64 < (n : Int)) = false := by simp; omega
    go_enter Tryd.func15, Tryd.ntmps15
    go_wp2_with fail
    refine HC.out.mono ?_
    rintro e w1 ⟨hb1, ⟨hr, rfl⟩ | ⟨hf, B, rfl, hnew, hl⟩⟩
    · have HB1 := Lib.hid hb1
      clear hb1
      generalize checkR rows = r at hr ⊢
      have d2 : ((r : Int) != 0) = true := by simp; omega
      go_wp2
      go_ret2
      exact ⟨HB1.out, .inl rfl⟩
    · have HB1 := Lib.hid hb1
      have HF := Lib.hid hf
      have HL := Lib.hid hl
      have HW := Lib.hid hnew
      clear hb1 hf hl hnew
      go_wp2
      go_ret2
      exact ⟨HB1.out, .inr ⟨HF.out, B, by rw [← HN.out]; rfl, HW.out, HL.out⟩⟩
end Go.Proofs.YtappaokjlnpbnaaDoor
