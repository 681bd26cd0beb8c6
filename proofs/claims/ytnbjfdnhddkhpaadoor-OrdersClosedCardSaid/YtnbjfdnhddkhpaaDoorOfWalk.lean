/- Whether rows are an order, and who is below whom: the law's walk. -/
import Derived.Test.YtnbjfdnhddkhpaaDoorPlain
namespace Go.Proofs.YtnbjfdnhddkhpaaDoor
open Go.RowKit Go.Proofs.YtnbjfdnhddkhpaaDoorW.PrintWords
theorem nums_block {w : World} {B : Nat} {bs : List Nat} {y : Int} (h : w.heap[B]? = some (.cells (nums .u64 (intsN bs ++ [y])).toArray 23 (0, 0))) (hx : ∀ x ∈ bs, x < 18446744073709551616) : Nums w (some ⟨B, 0, none⟩) bs := by
  refine ⟨hx, fun _ => ⟨B, 0, rfl, ?_, fun j hj => ?_⟩⟩
  · exact (Array.getElem?_eq_some_iff.1 h).1
  · rw [Nat.zero_add, blk_nums h j (by rw [List.length_append, intsN_length]; simp; omega), rd_append _ _ _ (by rw [intsN_length]; exact hj)]
    simp [rd, intsN, hj]
theorem blk_below {w w' : World} {B : Nat} {cs : Array Value} {e : TypeId} {k : Nat × Nat} (h : w.heap[B]? = some (.cells cs e k)) (hb : Below w.heap.size w w') : w'.heap[B]? = some (.cells cs e k) := by
  rw [← h]
  exact hb.block B (Array.getElem?_eq_some_iff.1 h).1
theorem nat_u64 {a : Int} (h : (Lit.int .u64 a).wf = true) : ∃ x : Nat, a = (x : Int) ∧ x < 18446744073709551616 := nat_of_u64r h
set_option maxRecDepth 20000 in
set_option maxHeartbeats 2000000 in
theorem of_walk (A : Option Addr) (n c : Nat) (zs : List Int) (x y : Int) (w : World) (hr : IsRow .u64 w A n c zs) (_hn : n * 8 ≤ 140737488351232) (hx : (Lit.int .u64 x).wf = true) (hy : (Lit.int .u64 y).wf = true) (hT : Lib.TabIs Tryd.prog w "math/bits.deBruijn64tab" .u8 tab64) :
    Calls Tryd.prog 3 #[.slice A n c, .int .u64 x, .int .u64 y] w fun e w' => e = .returned (.bool true) ∧ Below w.heap.size w w' := by
  obtain ⟨rows, hlen, hI, hcap⟩ := hr.nums64
  obtain ⟨x, rfl, hxx⟩ := nat_u64 hx
  obtain ⟨y, rfl, hyy⟩ := nat_u64 hy
  have HT := Lib.hid (tab_of hT)
  clear hT hr hx hy
  by_cases hg : n ≤ 100
  · have d1 : decide (100 < (n : Int)) = false := by simp; omega
    have HI := Lib.hid hI
    have HN := Lib.hid hlen.symm
    have HREF := Lib.hid (refR_eq rows hI.1)
    have HX := Lib.hid hI.1
    clear hI hlen
    go_enter Tryd.func3, Tryd.ntmps3
    go_wp2_with fail
    refine (twin_any A n c rows HN.out (by omega) w HI.out).mono ?_
    rintro e w1 ⟨⟨B, rfl, _, hT⟩, hb1⟩
    have HB1 := Lib.hid hb1
    have HT1 := Lib.hid hT
    have HI1 := Lib.hid (HI.out.below hb1)
    have HJ1 := Lib.hid (nums_block hT HX.out)
    clear hb1 hT
    go_wp2_with fail
    refine (check_any _ n (n + 1) rows HN.out hcap w1 HJ1.out (HT.out.below HB1.out)).mono ?_
    rintro e w2 ⟨rfl, hb2⟩
    have HB2 := Lib.hid (on HB1.out hb2)
    have HT2 := Lib.hid (blk_below HT1.out hb2)
    have HI2 := Lib.hid (HI1.out.below hb2)
    have HJ2 := Lib.hid (HJ1.out.below hb2)
    clear hb2 HB1 HT1 HI1 HJ1
    go_wp2_with fail
    refine (refcheck_any _ n c rows HN.out hcap w2 HI2.out).mono ?_
    rintro e w3 ⟨rfl, hb3⟩
    have HB3 := Lib.hid (on HB2.out hb3)
    have HT3 := Lib.hid (blk_below HT2.out hb3)
    have HI3 := Lib.hid (HI2.out.below hb3)
    have HJ3 := Lib.hid (HJ2.out.below hb3)
    clear hb3 HB2 HT2 HI2 HJ2
    rw [HREF.out]
    generalize checkR rows = r
    have e1 : ((r : Int) == (r : Int)) = true := by simp
    go_wp2_with fail
    refine (below_any _ n (n + 1) rows HN.out hcap x y hxx hyy w3 HJ3.out).mono ?_
    rintro e w4 ⟨rfl, rfl⟩
    go_wp2_with fail
    refine (refbelow_any _ n c rows HN.out hcap x y hxx hyy w3 HI3.out).mono ?_
    rintro e w4 ⟨rfl, rfl⟩
    generalize rowB rows x y = q
    have e2 : (q == q) = true := by simp
    go_wp2_with fail
    refine (left_any A n c B rows HN.out (by omega) w3 HI3.out HT3.out).mono ?_
    rintro e w4 ⟨rfl, hb4⟩
    have HB4 := Lib.hid (on HB3.out hb4)
    clear hb4
    go_wp2
    go_ret
    exact ⟨rfl, HB4.out⟩
  · have d1 : decide (100 < (n : Int)) = true := by simp; omega
    clear hI hlen
    go_enter Tryd.func3, Tryd.ntmps3
    go_wp2
    go_ret
    exact ⟨rfl, Below.refl _ w⟩
end Go.Proofs.YtnbjfdnhddkhpaaDoor
