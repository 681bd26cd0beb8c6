/- What any bytes begin with is as documented: the law's walk. -/
import Derived.Test.YtmfmampcgadjhaaRefFour
import Derived.Test.YtmfmampcgadjhaaTwin
namespace Go.Proofs.Ytmfmampcgadjhaa
open Go.RowKit Go.Proofs.YtmfmampcgadjhaaW.PrintWords
theorem on {a b c : World} (h : Below a.heap.size a b) (k : Below b.heap.size b c) : Below a.heap.size a c := h.trans (k.mono h.size)
theorem ints_rd (bs : List UInt8) (j : Nat) (hj : j < bs.length) : rd (ints bs) (j : Int) = ((bs[j].toNat : Nat) : Int) := by
  simp [rd, ints, hj]
theorem bytes_block {w : World} {B : Nat} {bs : List UInt8} {z : Int} (h : w.heap[B]? = some (.cells (nums .u8 (ints bs ++ [z])).toArray 5 (0, 0))) (hl : bs.length ≤ 9223372036854775807) : Bytes w w.heap.size (some ⟨B, 0, none⟩) bs := by
  refine ⟨hl, fun _ => ⟨B, 0, rfl, (Array.getElem?_eq_some_iff.1 h).1, fun j hj => ?_⟩⟩
  rw [Nat.zero_add, blk_nums h j (by rw [List.length_append, ints_length]; omega), rd_append _ _ _ (by rw [ints_length]; exact hj), ints_rd bs j hj]
theorem blk_below {w w' : World} {B : Nat} {o : Obj} (h : w.heap[B]? = some o) (hb : Below w.heap.size w w') : w'.heap[B]? = some o := (hb.block B (Array.getElem?_eq_some_iff.1 h).1).trans h
set_option maxRecDepth 20000 in
set_option maxHeartbeats 2000000 in
theorem get_walk (A : Option Addr) (n c : Nat) (zs : List Int) (w : World) (hr : IsRow .u8 w A n c zs) (hn : n * 1 ≤ 140737488351232) :
    Calls Try.prog 3 #[.slice A n c] w fun e w' => e = .returned (.bool true) ∧ Below w.heap.size w w' := by
  obtain ⟨bs, hlen, hI, hcap⟩ := hr.bytes
  by_cases hg : n ≤ 20000
  · have d1 : decide (20000 < (n : Int)) = false := by simp; omega
    have HI := Lib.hid hI
    have HN := Lib.hid hlen.symm
    have HCAP := Lib.hid hcap
    clear hr hI hlen hcap
    go_enter Try.func3, Try.ntmps3
    go_wp2_with fail
    refine (twin_any A n c bs HN.out (by omega) w HI.out).mono ?_
    rintro e w1 ⟨⟨B, rfl, _, hT⟩, hb1⟩
    have HB1 := Lib.hid hb1
    have HT1 := Lib.hid hT
    have HI1 := Lib.hid (HI.out.later hb1)
    have HJ1 := Lib.hid (bytes_block hT HI.out.1)
    clear hb1 hT
    go_wp2_with fail
    refine (get_any _ n (n + 1) bs HN.out w1 HJ1.out).mono ?_
    rintro e w2 ⟨rfl, rfl⟩
    unfold tup
    go_wp2_with fail
    refine (refget_any A n c bs HN.out w1 HI1.out).mono ?_
    rintro e w2 ⟨rfl, rfl⟩
    unfold tup
    generalize get bs = G
    go_wp2_with fail
    refine (four_any _ n (n + 1) bs HN.out (by omega) w1 HJ1.out).mono ?_
    rintro e w2 ⟨rfl, hb2⟩
    have HB2 := Lib.hid (on HB1.out hb2)
    have HT2 := Lib.hid (blk_below HT1.out hb2)
    have HI2 := Lib.hid (HI1.out.later hb2)
    have HJ2 := Lib.hid (HJ1.out.later hb2)
    clear hb2 HB1 HT1 HI1 HJ1
    unfold tup2
    go_wp2_with fail
    refine (reffour_any A n c bs HN.out w2 HI2.out).mono ?_
    rintro e w3 ⟨rfl, rfl⟩
    unfold tup2
    generalize four bs = K4
    go_wp2_with fail
    refine (text_any _ n (n + 1) bs HN.out (by omega) w2 HJ2.out).mono ?_
    rintro e w3 ⟨rfl, rfl⟩
    unfold tupT
    go_wp2_with fail
    refine (reftext_any A n c bs HN.out HCAP.out w2 HI2.out).mono ?_
    rintro e w3 ⟨rfl, rfl⟩
    unfold tupT
    generalize text bs = T
    go_wp2_with fail
    refine (left_any A n c B bs HN.out (by omega) w2 HI2.out HT2.out).mono ?_
    rintro e w3 ⟨rfl, hb3⟩
    have HB3 := Lib.hid (on HB2.out hb3)
    clear hb3
    go_wp2
    go_ret
    exact ⟨rfl, HB3.out⟩
  · have d1 : decide (20000 < (n : Int)) = true := by simp; omega
    clear hr hI hlen hcap
    go_enter Try.func3, Try.ntmps3
    go_wp2
    go_ret
    exact ⟨rfl, Below.refl _ w⟩
end Go.Proofs.Ytmfmampcgadjhaa
