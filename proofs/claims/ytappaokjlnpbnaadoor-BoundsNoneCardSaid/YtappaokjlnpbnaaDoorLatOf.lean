/- The lattice of any rows tells as documented: the law's walk. -/
import Derived.Test.YtappaokjlnpbnaaDoorRef05
import Derived.Test.YtappaokjlnpbnaaDoorLatTurns
import Derived.Test.YtappaokjlnpbnaaDoorLatWalk
namespace Go.Proofs.YtappaokjlnpbnaaDoor
open Go.RowKit Go.Proofs.YtappaokjlnpbnaaDoorW.PrintWords
theorem LatAt.of_block {w w' : World} {B : Nat} {rows : List Nat} (h : LatAt w B rows) (e : w'.heap[B]? = w.heap[B]?) : LatAt w' B rows :=
  ⟨(World.cell?_of_block (w := w) e).trans h.many, fun i hi => (World.cell?_of_block (w := w) e).trans (h.up i hi), fun i hi => (World.cell?_of_block (w := w) e).trans (h.dn i hi), h.ok⟩
theorem row_of_block {w : World} {B n : Nat} {xs : List Int} (h : w.heap[B]? = some (.cells (nums .u64 xs).toArray 25 (0, 0))) (hn : xs.length = n) : w.rowIs B 25 n (fun j => .int .u64 (rd xs (j : Int))) := by
  refine ⟨_, h, by simp [nums, hn], fun i hi => ?_⟩
  have := blk_nums h i (by omega)
  rw [blk_cell h] at this
  exact this
set_option maxRecDepth 100000 in
set_option maxHeartbeats 4000000 in
theorem latof_walk (A : Option Addr) (n c : Nat) (zs : List Int) (x y : Int) (w : World) (hr : IsRow .u64 w A n c zs) (_hn : n * 8 ≤ 140737488351232) (hx : (Lit.int .u64 x).wf = true) (hy : (Lit.int .u64 y).wf = true) (hT : Lib.TabIs Tryd.prog w "math/bits.deBruijn64tab" .u8 tab64) :
    Calls Tryd.prog 4 #[.slice A n c, .int .u64 x, .int .u64 y] w fun e w' => e = .returned (.bool true) ∧ Below w.heap.size w w' := by
  obtain ⟨rows, hlen, hI, hcap⟩ := hr.nums64
  obtain ⟨x, rfl, hxx⟩ := nat_u64 hx
  obtain ⟨y, rfl, hyy⟩ := nat_u64 hy
  have HT := Lib.hid (tab_of hT)
  clear hT hr hx hy
  by_cases hg : 64 < n
  · have d1 : decide (64 < (n : Int)) = true := by simp; omega
    clear hI hlen
    go_enter Tryd.func4, Tryd.ntmps4
    go_wp2
    go_ret
    exact ⟨rfl, Below.refl _ w⟩
  have d1 : decide (64 < (n : Int)) = false := by simp; omega
  have h64 : n ≤ 64 := by omega
  have HI := Lib.hid hI
  have HN := Lib.hid hlen.symm
  have HREF := Lib.hid (refR_eq rows hI.1)
  have HX := Lib.hid hI.1
  clear hI hlen
  go_enter Tryd.func4, Tryd.ntmps4
  go_wp2_with fail
  refine (twin_any A n c rows HN.out (by omega) w HI.out).mono ?_
  rintro e w1 ⟨⟨B, rfl, hBn, hT⟩, hb1⟩
  have HB1 := Lib.hid hb1
  have HNB := Lib.hid hBn
  have HT1 := Lib.hid hT
  have HI1 := Lib.hid (HI.out.below hb1)
  have HJ1 := Lib.hid (nums_block hT HX.out)
  clear hb1 hT hBn
  go_wp2_with fail
  refine (new_any _ n (n + 1) rows HN.out hcap w1 HJ1.out (HT.out.below HB1.out)).mono ?_
  rintro e w2 ⟨hb2, hcase⟩
  have HB2 := Lib.hid (on HB1.out hb2)
  have HT2 := Lib.hid (blk_below HT1.out hb2)
  have HI2 := Lib.hid (HI1.out.below hb2)
  have HLT := Lib.hid (Array.getElem?_eq_some_iff.1 HT1.out).1
  clear hb2 HT1 HI1 HJ1
  have HRC := Lib.hid (fun W (h : Below w2.heap.size w2 W) => refcheck_any A n c rows HN.out hcap W (HI2.out.below h))
  rw [HREF.out] at HRC
  have HLF := Lib.hid (fun W (h : Below w2.heap.size w2 W) => left_any A n c B rows HN.out (by omega) W (HI2.out.below h) (blk_below HT2.out h))
  rcases hcase with ⟨hr, rfl⟩ | ⟨hf, BL, rfl, hnew, hl⟩
  · obtain ⟨r, hrr⟩ : ∃ r, r = checkR rows := ⟨_, rfl⟩
    rw [← hrr] at hr HRC ⊢
    have e1 : ((r : Int) != (r : Int)) = false := by simp
    have e2 : ((r : Int) != 0) = true := by simp; omega
    clear hrr
    go_wp2_with fail
    refine (HRC.out w2 (Below.refl _ _)).mono ?_
    rintro e w3 ⟨rfl, hb3⟩
    have HB3 := Lib.hid hb3
    clear hb3
    go_wp2_with fail
    refine (HLF.out w3 HB3.out).mono ?_
    rintro e w4 ⟨rfl, hb4⟩
    have HB4 := Lib.hid (on HB2.out (on HB3.out hb4))
    clear hb4
    go_wp2
    go_ret
    exact ⟨rfl, HB4.out⟩
  · have HF := Lib.hid hf
    have HNEW := Lib.hid (show B ≠ BL by have := HLT.out; omega)
    have HL := Lib.hid hl
    rw [(check_zero HX.out).2 hf] at HRC
    clear hf hnew hl
    go_wp2_with fail
    refine (HRC.out w2 (Below.refl _ _)).mono ?_
    rintro e w3 ⟨rfl, hb3⟩
    have HB3 := Lib.hid hb3
    clear hb3
    go_wp2_with fail
    refine (HLF.out w3 HB3.out).mono ?_
    rintro e w4 ⟨rfl, hb4⟩
    have HB4 := Lib.hid (on HB2.out (on HB3.out hb4))
    have HL4 := Lib.hid (HL.out.below (on HB3.out hb4))
    have HT4 := Lib.hid (row_of_block (n := n + 1) (blk_below HT2.out (on HB3.out hb4)) (by rw [List.length_append, intsN_length, ← HN.out]; rfl))
    clear hb4
    go_wp2_with fail
    go_loopw [10] (fun v wr => ∃ (k : Nat) (f : Nat → Value), k ≤ n ∧ v = .int .i64 k ∧ Hid (wr.rowIs B 25 (n + 1) f) ∧ Hid (LatAt wr BL rows) ∧ Hid (Below w.heap.size w wr)) (fun v _ => n - (intOf v).toNat)
    case atStart => exact ⟨0, _, by omega, rfl, HT4, HL4, HB4⟩
    case round =>
      clear HT4 HL4 HB4
      obtain ⟨k, f, hk, rfl, HR, HL, HB⟩ := hrel
      by_cases hkn : k < n
      · have ck := HR.out.cell (i := k) (by omega)
        have fk := HR.out.frozen k
        have i1 : (0 : Int) ≤ (k : Int) := by omega
        have i2 : (k : Int) < (n : Int) := by omega
        have HS := Lib.hid (HR.out.set k (.int .u64 0))
        have HL2 := Lib.hid (HL.out.of_block (w' := wr.setCell ⟨B, k, none⟩ (.int .u64 0)) (Below.heap_setCell _ _ _ _ (fun e => HNEW.out e.symm)))
        have HB2' := Lib.hid (HB.out.setCell (p := ⟨B, k, none⟩) HNB.out (.int .u64 0))
        go_wp2
        go_roundw
        case rel => exact ⟨k + 1, _, by omega, by go_num, HS, HL2, HB2'⟩
        case measure => simp [intOf]; omega
      · obtain rfl : n = k := by omega
        have HB0 := Lib.hid (Below.refl wr.heap.size wr)
        have HTW := Lib.hid (HT.out.below HB.out)
        have HIW := Lib.hid (HI.out.below HB.out)
        have HBW := HB
        have R1 := Lib.hid (fun W (_ : Below wr.heap.size wr W) => (refhas_any A n c h64 x W).mono (fun e w' (h : e = _ ∧ W = w') => (⟨h.1, h.2 ▸ Below.refl _ _⟩ : e = _ ∧ Below W.heap.size W w')))
        have R2 := Lib.hid (fun W (h : Below wr.heap.size wr W) => (refbelow_any A n c rows HN.out hcap x y hxx hyy W (HIW.out.below h)).mono (fun e w' (h : e = _ ∧ W = w') => (⟨h.1, h.2 ▸ Below.refl _ _⟩ : e = _ ∧ Below W.heap.size W w')))
        have R3 := Lib.hid (fun W (h : Below wr.heap.size wr W) => refbot_any A n c rows HN.out HF.out W (HIW.out.below h))
        have R4 := Lib.hid (fun W (h : Below wr.heap.size wr W) => reftop_any A n c rows HN.out HF.out W (HIW.out.below h))
        have R5 := Lib.hid (fun W (h : Below wr.heap.size wr W) => refjoin_any A n c rows HN.out HF.out x y hxx hyy W (HIW.out.below h))
        have R6 := Lib.hid (fun W (h : Below wr.heap.size wr W) => refmeet_any A n c rows HN.out HF.out x y hxx hyy W (HIW.out.below h))
        clear HB
        obtain ⟨q1, h1⟩ : ∃ q, decide (x < n) = q := ⟨_, rfl⟩
        have E1 := Lib.hid (show decide (x < rows.length) = q1 by rw [← HN.out]; exact h1)
        rw [h1] at R1
        clear h1
        obtain ⟨q2, h2⟩ : ∃ q, rowB rows x y = q := ⟨_, rfl⟩
        have E2 := Lib.hid h2
        rw [h2] at R2
        clear h2
        obtain ⟨q3, h3⟩ : ∃ q, botF rows = q := ⟨_, rfl⟩
        have E3 := Lib.hid h3
        rw [h3] at R3
        clear h3
        obtain ⟨q4, h4⟩ : ∃ q, topF rows = q := ⟨_, rfl⟩
        have E4 := Lib.hid h4
        rw [h4] at R4
        clear h4
        obtain ⟨q5, h5⟩ : ∃ q, joinF rows x y = q := ⟨_, rfl⟩
        have E5 := Lib.hid h5
        rw [h5] at R5
        clear h5
        obtain ⟨q6, h6⟩ : ∃ q, meetF rows x y = q := ⟨_, rfl⟩
        have E6 := Lib.hid h6
        rw [h6] at R6
        clear h6
        have b1 : (q1 != q1) = false := by simp
        have b2 : (q2 != q2) = false := by simp
        have b3 : ((q3 : Int) != (q3 : Int)) = false := by simp
        have b4 : ((q4 : Int) != (q4 : Int)) = false := by simp
        have b5 : ((q5 : Int) == (q5 : Int)) = true := by simp
        have b6 : ((q6 : Int) == (q6 : Int)) = true := by simp
        go_wp2_with fail
        refine (hasR (HL.out.below HB0.out) (HTW.out.below HB0.out) E1).mono ?_
        rintro e v1 ⟨rfl, hb⟩
        have HB1 := Lib.hid (on HB0.out hb)
        clear hb HB0
        go_wp2_with fail
        refine (R1.out _ HB1.out).mono ?_
        rintro e v2 ⟨rfl, hb⟩
        have HB2 := Lib.hid (on HB1.out hb)
        clear hb HB1
        go_wp2_with fail
        refine (belowR (HL.out.below HB2.out) (HTW.out.below HB2.out) E2).mono ?_
        rintro e v3 ⟨rfl, hb⟩
        have HB3 := Lib.hid (on HB2.out hb)
        clear hb HB2
        go_wp2_with fail
        refine (R2.out _ HB3.out).mono ?_
        rintro e v4 ⟨rfl, hb⟩
        have HB4 := Lib.hid (on HB3.out hb)
        clear hb HB3
        go_wp2_with fail
        refine (botR (HL.out.below HB4.out) (HTW.out.below HB4.out) E3).mono ?_
        rintro e v5 ⟨rfl, hb⟩
        have HB5 := Lib.hid (on HB4.out hb)
        clear hb HB4
        go_wp2_with fail
        refine (R3.out _ HB5.out).mono ?_
        rintro e v6 ⟨rfl, hb⟩
        have HB6 := Lib.hid (on HB5.out hb)
        clear hb HB5
        go_wp2_with fail
        refine (topR (HL.out.below HB6.out) (HTW.out.below HB6.out) E4).mono ?_
        rintro e v7 ⟨rfl, hb⟩
        have HB7 := Lib.hid (on HB6.out hb)
        clear hb HB6
        go_wp2_with fail
        refine (R4.out _ HB7.out).mono ?_
        rintro e v8 ⟨rfl, hb⟩
        have HB8 := Lib.hid (on HB7.out hb)
        clear hb HB7
        go_wp2_with fail
        refine (joinR (HL.out.below HB8.out) (HTW.out.below HB8.out) E5).mono ?_
        rintro e v9 ⟨rfl, hb⟩
        have HB9 := Lib.hid (on HB8.out hb)
        clear hb HB8
        go_wp2_with fail
        refine (R5.out _ HB9.out).mono ?_
        rintro e v10 ⟨rfl, hb⟩
        have HB10 := Lib.hid (on HB9.out hb)
        clear hb HB9
        go_wp2_with fail
        refine (meetR (HL.out.below HB10.out) (HTW.out.below HB10.out) E6).mono ?_
        rintro e v11 ⟨rfl, hb⟩
        have HB11 := Lib.hid (on HB10.out hb)
        clear hb HB10
        go_wp2_with fail
        refine (R6.out _ HB11.out).mono ?_
        rintro e v12 ⟨rfl, hb⟩
        have HB12 := Lib.hid (on HB11.out hb)
        clear hb HB11
        go_wp2
        go_ret
        exact ⟨rfl, on HBW.out HB12.out⟩
end Go.Proofs.YtappaokjlnpbnaaDoor
