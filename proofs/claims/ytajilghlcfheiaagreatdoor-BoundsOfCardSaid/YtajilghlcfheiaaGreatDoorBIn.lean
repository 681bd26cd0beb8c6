/- BoundsOf: the walk, and at whatever comes in. -/
import Derived.Test.YtajilghlcfheiaaGreatDoorBLaw
import Derived.Test.YtajilghlcfheiaaGreatDoorBndGiven
namespace Go.Proofs.YtajilghlcfheiaaGreatDoor.BOf
open Go.RowKit Go.Proofs.YtajilghlcfheiaaGreatDoorW.PrintWords
open Rea (Bd Bds on flat flat_length flat_append Fit)
open Bnd (SI Full Sol Low High chkF Nums Tab RS Ans2 intsN SortN SolvedI solved_all chk_vars lst lst_length RowN nums_none sol_lt)
open Trm (lit_below)
set_option maxRecDepth 100000
set_option maxHeartbeats 4000000 in
theorem bof_in (A1 : Option Addr) (n1 c1 : Nat) (s : Bool) (ef vr : Int) (A2 : Option Addr) (m c2 : Nat) (A3 : Option Addr) (k c3 : Nat) (rows : List Nat) (L : List Bd) (vals : List Nat) (hn1 : n1 = rows.length) (hmax : n1 ≤ 9223372036854775807) (hm : m = L.length) (hmm : m ≤ 9223372036854775807) (hk : k = vals.length) (hkm : k ≤ 9223372036854775807)
    (w : World) (hR : Nums w A1 rows) (hL : Bds w A2 L) (hV : Nums w A3 vals) (hT : Tab w) :
    Calls Tryz.prog 3 #[.agg #[.slice A1 n1 c1, .bool s, .int .i64 ef, .int .i64 vr, .slice A2 m c2, .slice A3 k c3]] w fun e w' => e = .returned (.bool true) ∧ Below w.heap.size w w' := by
  have HR := Lib.hid hR
  have HL := Lib.hid hL
  have HV := Lib.hid hV
  have HT := Lib.hid hT
  have HN1 := Lib.hid hn1
  have HM := Lib.hid hm
  have HK := Lib.hid hk
  clear hR hL hV hT hn1 hm hk
  have HZ := Lib.hid (Bnd.six_cells w (.slice A1 n1 c1) (.bool s) (.int .i64 ef) (.int .i64 vr) (.slice A2 m c2) (.slice A3 k c3) 25)
  have HB0 := Lib.hid (lit_below w (.cells #[.slice A1 n1 c1, .bool s, .int .i64 ef, .int .i64 vr, .slice A2 m c2, .slice A3 k c3] 25))
  obtain ⟨z0, z1, z2, z3, z4, z5⟩ := HZ.out
  have HGR := Lib.hid (fun W => Bnd.great_any A1 n1 c1 s ef vr A2 m c2 A3 k c3 W)
  have HGK := Lib.hid (show Bnd.greatB n1 m k = false → m ≤ 300 ∧ k ≤ 200 from fun h => by unfold Bnd.greatB at h; simp at h; omega)
  have HSO := Lib.hid (fun W (h : Below w.heap.size w W) => Bnd.sort_any A1 n1 c1 s ef vr A2 m c2 A3 k c3 rows HN1.out hmax W (HR.out.below h) (HT.out.below h))
  have HAS := Lib.hid (fun W (h : Below w.heap.size w W) => Bnd.ask_any A1 n1 c1 s ef vr A2 m c2 A3 k c3 rows HN1.out hmax W (HR.out.below h))
  generalize Bnd.greatB n1 m k = gr at HGR HGK
  go_enter Tryz.func3, Tryz.ntmps3
  go_wp2_with fail
  obtain ⟨BZ, hBZ⟩ : ∃ B, B = w.heap.size := ⟨_, rfl⟩
  rw [← hBZ] at HZ ⊢
  clear hBZ z0 z1 z2 z3 z4 z5
  generalize hw1 : w.alloc _ = w1 at *
  clear hw1
  refine (HGR.out _).mono ?_
  rintro e w2 ⟨rfl, hb⟩
  obtain ⟨z0, z1, z2, z3, z4, z5⟩ := six_on HZ.out hb
  replace HZ := Lib.hid (six_on HZ.out hb)
  have HB2 := Lib.hid (on HB0.out hb)
  clear hb HB0 HGR
  cases gr with
  | true =>
    go_wp2_with fail
    go_ret
    exact ⟨rfl, HB2.out⟩
  | false =>
    obtain ⟨hm3, hk2⟩ := HGK.out rfl
    clear HGK
    go_wp2_with fail
    refine (HSO.out _ HB2.out).mono ?_
    rintro e w3 ⟨⟨sv, rfl, _, hso⟩, hb⟩
    have HSV := Lib.hid hso
    obtain ⟨z0, z1, z2, z3, z4, z5⟩ := six_on HZ.out hb
    replace HZ := Lib.hid (six_on HZ.out hb)
    have HB3 := Lib.hid (on HB2.out hb)
    clear hb hso HSO HB2
    go_wp2_with fail
    refine (HAS.out _ HB3.out).mono ?_
    rintro e w4 ⟨⟨rv, rfl, hrs⟩, hb⟩
    obtain ⟨so, sA, sn, sc, sy, rfl⟩ := hrs.shape
    have hla := lit_below w4 (.cells #[.int .i64 so, .slice sA sn sc, .int .i64 sy] 31)
    have HRV := Lib.hid (hrs.below hla)
    replace HSV := Lib.hid (HSV.out.below (on hb hla))
    obtain ⟨z0, z1, z2, z3, z4, z5⟩ := six_on HZ.out (on hb hla)
    replace HZ := Lib.hid (six_on HZ.out (on hb hla))
    have HB4 := Lib.hid (on HB3.out (on hb hla))
    have HRC := Lib.hid (Bnd.three_cells w4 (.int .i64 so) (.slice sA sn sc) (.int .i64 sy) 31)
    clear hb hrs hla HAS HB3
    go_wp2_with fail
    obtain ⟨BR, hBR⟩ : ∃ B, B = w4.heap.size := ⟨_, rfl⟩
    rw [← hBR] at HRC ⊢
    clear hBR z0 z1 z2 z3 z4 z5
    generalize hw5 : w4.alloc _ = w5 at *
    clear hw5
    refine (Rea.twinb_any A2 m c2 L HM.out (by omega) w5 (HL.out.below HB4.out)).mono ?_
    rintro e w6 ⟨⟨Bt, rfl, hBt, hHt⟩, hb⟩
    have HTR := Lib.hid (row_twin HM.out (by omega) hBt hHt)
    have HTB := Lib.hid (Rea.bds_lit hHt (twin_fit HL.out.fit))
    obtain ⟨z0, z1, z2, z3, z4, z5⟩ := six_on HZ.out hb
    replace HZ := Lib.hid (six_on HZ.out hb)
    replace HRC := Lib.hid (Trm.z_on HRC.out hb)
    replace HSV := Lib.hid (HSV.out.below hb)
    replace HRV := Lib.hid (HRV.out.below hb)
    have HS5 := Lib.hid HB4.out.size
    have HB5 := Lib.hid (on HB4.out hb)
    have HB56 := Lib.hid hb
    clear hb hBt hHt HB4
    go_wp2_with fail
    clear z0 z1 z2 z3 z4 z5
    refine (Bnd.twin_any A3 k c3 vals HK.out (by omega) w6 (HV.out.below HB5.out)).mono ?_
    rintro e w7 ⟨⟨Bv, rfl, hBv, hHv⟩, hb⟩
    have HVR := Lib.hid (own_twinn HK.out (by omega) hBv hHv)
    have HVH := Lib.hid hHv
    have HVN := Lib.hid (Bnd.nums_block hHv HV.out.1)
    obtain ⟨z0, z1, z2, z3, z4, z5⟩ := six_on HZ.out hb
    replace HZ := Lib.hid (six_on HZ.out hb)
    replace HRC := Lib.hid (Trm.z_on HRC.out hb)
    replace HSV := Lib.hid (HSV.out.below hb)
    replace HRV := Lib.hid (HRV.out.below hb)
    have HB6 := Lib.hid (on HB5.out hb)
    have HB67 := Lib.hid hb
    clear hb hBv hHv HB5
    obtain ⟨SS, hSS⟩ : ∃ SS, SS = Bnd.sortS rows s ef := ⟨_, rfl⟩
    rw [← hSS] at HSV HRV
    clear hSS
    have HFN := Lib.hid HSV.out.fn
    go_wp2_with fail
    clear z0 z1 z2 z3 z4 z5
    refine (solve_own sv SS HFN.out vr (some ⟨Bt, 0, none⟩) m (m + 1) L HM.out w7 HSV.out.n (bds_front (HTB.out.below HB67.out))).mono ?_
    rintro e w8 ⟨hb, AX, BX, ca, xs, ys, e1, rfl, ha, hx, hy, hca, nx, ny, mem⟩
    have HAN := Lib.hid ha
    have HCX := Lib.hid (And.intro hx hy)
    have HNX := Lib.hid nx
    have HNY := Lib.hid ny
    have HME := Lib.hid mem
    obtain ⟨z0, z1, z2, z3, z4, z5⟩ := six_on HZ.out hb
    replace HZ := Lib.hid (six_on HZ.out hb)
    obtain ⟨r0, r1, r2⟩ := Trm.z_on HRC.out hb
    replace HRC := Lib.hid (Trm.z_on HRC.out hb)
    replace HSV := Lib.hid (HSV.out.below hb)
    replace HRV := Lib.hid (HRV.out.below hb)
    have HB7 := Lib.hid (on HB6.out hb)
    have HB78 := Lib.hid hb
    clear hb ha hx hy nx ny mem HB6
    go_wp2_with fail
    clear z0 z1 z2 z3 z4 z5 r0 r1 r2
    refine (Trm.rsolve_any _ SS HFN.out vr A2 m c2 L HM.out (by omega) w8 HRV.out (HL.out.below HB7.out)).mono ?_
    rintro e w9 ⟨hb, AY, BY, cx, cy, xs', ys', e2, rfl, ha', nx', ny'⟩
    obtain ⟨q1, q2, q3⟩ := ans_one HFN.out HAN.out ha'
    subst q1 q2 q3
    have HNX2 := Lib.hid nx'
    have HNY2 := Lib.hid ny'
    obtain ⟨z0, z1, z2, z3, z4, z5⟩ := six_on HZ.out hb
    replace HZ := Lib.hid (six_on HZ.out hb)
    obtain ⟨r0, r1, r2⟩ := Trm.z_on HRC.out hb
    replace HSV := Lib.hid (HSV.out.below hb)
    replace HRV := Lib.hid (HRV.out.below hb)
    have HB8 := Lib.hid (on HB7.out hb)
    have HB89 := Lib.hid hb
    clear hb ha' nx' ny' HB7 HRC
    have HTB9 := Lib.hid (HTB.out.below (on HB67.out (on HB78.out HB89.out)))
    have HVN9 := Lib.hid (HVN.out.below (on HB78.out HB89.out))
    replace HNX := Lib.hid (HNX.out.below HB89.out)
    replace HNY := Lib.hid (HNY.out.below HB89.out)
    obtain ⟨ck, hck⟩ : ∃ y, y = chkF SS vr L := ⟨_, rfl⟩
    obtain ⟨hd, hhd⟩ : ∃ y, y = Bnd.holdF SS vals L := ⟨_, rfl⟩
    have RF := Below.refl w9.heap.size w9
    have K14 := Lib.hid (fun W (h : Below w9.heap.size w9 W) => (show Calls Tryz.prog 14 #[sv, .int .i64 vr, .slice (some ⟨Bt, 0, none⟩) m (m + 1)] W fun e W' => e = .returned (.int .i64 ((ck : Nat) : Int)) ∧ Nine w9 BZ BR vr A2 m c2 A3 k c3 so sA sn sc sy W' from by
      rw [hck]
      exact (Bnd.check_all sv SS vr (some ⟨Bt, 0, none⟩) m (m + 1) L HM.out W (HSV.out.below h).n (bds_front (HTB9.out.below h))).mono (by
        rintro e W' ⟨rfl, hb⟩
        exact ⟨rfl, nine_of z3 z4 z5 r0 r1 r2 (on h hb)⟩)))
    have K15 := Lib.hid (fun W (h : Below w9.heap.size w9 W) => (show Calls Tryz.prog 15 #[.agg #[.int .i64 so, .slice sA sn sc, .int .i64 sy], .int .i64 vr, .slice A2 m c2] W fun e W' => e = .returned (.int .i64 ((ck : Nat) : Int)) ∧ Nine w9 BZ BR vr A2 m c2 A3 k c3 so sA sn sc sy W' from by
      rw [hck]
      exact (Bnd.rs_check _ SS vr A2 m c2 L HM.out hmm W (HRV.out.below h) (HL.out.below (on HB8.out h))).mono (by
        rintro e W' ⟨rfl, hb⟩
        exact ⟨rfl, nine_of z3 z4 z5 r0 r1 r2 (on h hb)⟩)))
    have K16 := Lib.hid (fun W (h : Below w9.heap.size w9 W) => (show Calls Tryz.prog 16 #[.slice AX ca ca, .slice AY xs.length cx] W fun e W' => e = .returned (.bool true) ∧ Nine w9 BZ BR vr A2 m c2 A3 k c3 so sA sn sc sy W' from
      (Bnd.same_nums AX ca ca AY xs.length cx xs xs HCX.out.1 rfl (by omega) (by have := HCX.out.1; omega) W (HNX.out.below h) (HNX2.out.below h)).mono (by
        rintro e W' ⟨rfl, hb⟩
        exact ⟨by simp, nine_of z3 z4 z5 r0 r1 r2 (on h hb)⟩)))
    have K16b := Lib.hid (fun W (h : Below w9.heap.size w9 W) => (show Calls Tryz.prog 16 #[.slice BX ca ca, .slice BY ys.length cy] W fun e W' => e = .returned (.bool true) ∧ Nine w9 BZ BR vr A2 m c2 A3 k c3 so sA sn sc sy W' from
      (Bnd.same_nums BX ca ca BY ys.length cy ys ys HCX.out.2 rfl (by omega) (by have := HCX.out.2; omega) W (HNY.out.below h) (HNY2.out.below h)).mono (by
        rintro e W' ⟨rfl, hb⟩
        exact ⟨by simp, nine_of z3 z4 z5 r0 r1 r2 (on h hb)⟩)))
    have KG := Lib.hid (fun W (h : Below w9.heap.size w9 W) (A Y : Option Addr) (n' cz : Nat) (hh : (A = AX ∧ Y = AY ∧ n' = xs.length ∧ cz = cx) ∨ (A = BX ∧ Y = BY ∧ n' = ys.length ∧ cz = cy)) => (show Calls Tryz.prog 16 #[.slice A ca ca, .slice Y n' cz] W fun e W' => e = .returned (.bool true) ∧ Nine w9 BZ BR vr A2 m c2 A3 k c3 so sA sn sc sy W' from by
      rcases hh with ⟨rfl, rfl, rfl, rfl⟩ | ⟨rfl, rfl, rfl, rfl⟩
      · exact K16.out W h
      · exact K16b.out W h))
    clear K16 K16b
    have K17 := Lib.hid (fun W (h : Below w9.heap.size w9 W) => (show Calls Tryz.prog 17 #[sv, .slice (some ⟨Bv, 0, none⟩) k (k + 1), .slice (some ⟨Bt, 0, none⟩) m (m + 1)] W fun e W' => e = .returned (.bool hd) ∧ Nine w9 BZ BR vr A2 m c2 A3 k c3 so sA sn sc sy W' from by
      rw [hhd]
      exact (Bnd.hold_any sv SS (some ⟨Bv, 0, none⟩) k (k + 1) vals HK.out hkm (some ⟨Bt, 0, none⟩) m (m + 1) L HM.out hmm W (HSV.out.below h).n (HVN9.out.below h) (bds_front (HTB9.out.below h))).mono (by
        rintro e W' ⟨rfl, hb⟩
        exact ⟨rfl, nine_of z3 z4 z5 r0 r1 r2 (on h hb)⟩)))
    have K18 := Lib.hid (fun W (h : Below w9.heap.size w9 W) => (show Calls Tryz.prog 18 #[.agg #[.int .i64 so, .slice sA sn sc, .int .i64 sy], .slice A3 k c3, .slice A2 m c2] W fun e W' => e = .returned (.bool hd) ∧ Nine w9 BZ BR vr A2 m c2 A3 k c3 so sA sn sc sy W' from by
      rw [hhd]
      exact (Bnd.rs_hold _ SS A3 k c3 vals HK.out hkm A2 m c2 L HM.out hmm W (HRV.out.below h) (HV.out.below (on HB8.out h)) (HL.out.below (on HB8.out h))).mono (by
        rintro e W' ⟨rfl, hb⟩
        exact ⟨rfl, nine_of z3 z4 z5 r0 r1 r2 (on h hb)⟩)))
    have dc : (((ck : Nat) : Int) != ((ck : Nat) : Int)) = false := by simp
    have de : (((e1 : Nat) : Int) != ((e1 : Nat) : Int)) = false := by simp
    have dh : (hd != hd) = false := by simp
    have HCA := Lib.hid hca
    clear hck hhd hca z0 z1 z2
    unfold Nine at K14 K15 KG K17 K18
    go_wp2_with fail
    go_region_held3 (fun W => W.cell? ⟨BZ, 3, none⟩ = some (.int .i64 vr) ∧ W.cell? ⟨BZ, 4, none⟩ = some (.slice A2 m c2) ∧ W.cell? ⟨BZ, 5, none⟩ = some (.slice A3 k c3) ∧ W.cell? ⟨BR, 0, none⟩ = some (.int .i64 so) ∧ W.cell? ⟨BR, 1, none⟩ = some (.slice sA sn sc) ∧ W.cell? ⟨BR, 2, none⟩ = some (.int .i64 sy) ∧ Below w9.heap.size w9 W)
      (first | exact ⟨by assumption, by assumption, by assumption, by assumption, by assumption, by assumption, by first | assumption | exact Below.drew (by assumption)⟩)
      (first
        | (go_at_call 14; refine (K14.out _ (by first | assumption | exact Below.drew (by assumption))).mono ?_; rintro e w' ⟨rfl, h1, h2, h3, h4, h5, h6, h7⟩)
        | (go_at_call 15; refine (K15.out _ (by first | assumption | exact Below.drew (by assumption))).mono ?_; rintro e w' ⟨rfl, h1, h2, h3, h4, h5, h6, h7⟩)
        | (go_at_call 16; refine (KG.out _ (by first | assumption | exact Below.drew (by assumption)) _ _ _ _ (by first | exact .inl ⟨rfl, rfl, rfl, rfl⟩ | exact .inr ⟨rfl, rfl, rfl, rfl⟩)).mono ?_; rintro e w' ⟨rfl, h1, h2, h3, h4, h5, h6, h7⟩)
        | (go_at_call 17; refine (K17.out _ (by first | assumption | exact Below.drew (by assumption))).mono ?_; rintro e w' ⟨rfl, h1, h2, h3, h4, h5, h6, h7⟩)
        | (go_at_call 18; refine (K18.out _ (by first | assumption | exact Below.drew (by assumption))).mono ?_; rintro e w' ⟨rfl, h1, h2, h3, h4, h5, h6, h7⟩))
    clear RF
    have HX := Lib.hid (show Below w9.heap.size w9 _ from by assumption)
    clear z3 z4 z5 r0 r1 r2 K14 K15 KG K17 K18 dc de dh
    rename World => w10
    obtain ⟨z0, z1, z2, z3, z4, z5⟩ := six_on HZ.out HX.out
    replace HZ := Lib.hid (six_on HZ.out HX.out)
    go_wp2_with fail
    refine (Rea.leftb_any A2 (some ⟨Bt, 0, none⟩) m c2 L HM.out (by omega) w10 (HL.out.below (on HB8.out HX.out)) (HTB9.out.below HX.out)).mono ?_
    rintro e w11 ⟨rfl, hb⟩
    obtain ⟨y0, y1, y2, y3, y4, y5⟩ := six_on HZ.out hb
    have HX2 := Lib.hid (on HX.out hb)
    clear hb z0 z1 z2 z3 z4 z5 HZ HX
    go_wp2_with fail
    refine (Bnd.left_any A3 k c3 Bv vals HK.out (by omega) w11 (HV.out.below (on HB8.out HX2.out)) (Bnd.blk_below HVH.out (on HB78.out (on HB89.out HX2.out)))).mono ?_
    rintro e w12 ⟨rfl, hb⟩
    have HC := Lib.hid (on HB89.out (on HX2.out hb))
    have HW12 := Lib.hid (on HB8.out (on HX2.out hb))
    clear hb HX2 y0 y1 y2 y3 y4 y5
    go_wp2_with fail
    have hbk := book_new w12
    have hba := lit_below w12 (.cells #[.int .i64 0, .slice none 0 0, .slice none 0 0, .slice none 0 0, .slice none 0 0, .slice none 0 0, .slice none 0 0, .slice none 0 0, .slice none 0 0, .slice none 0 0, .slice none 0 0, .slice none 0 0, .slice none 0 0, .slice none 0 0, .slice none 0 0, .slice none 0 0] 61)
    have hsz : (w12.alloc (.cells #[.int .i64 0, .slice none 0 0, .slice none 0 0, .slice none 0 0, .slice none 0 0, .slice none 0 0, .slice none 0 0, .slice none 0 0, .slice none 0 0, .slice none 0 0, .slice none 0 0, .slice none 0 0, .slice none 0 0, .slice none 0 0, .slice none 0 0, .slice none 0 0] 61)).heap.size = w12.heap.size + 1 := by show (w12.heap.push _).size = _; rw [Array.size_push]
    obtain ⟨BB, hBB⟩ : ∃ BB, BB = w12.heap.size := ⟨_, rfl⟩
    rw [← hBB] at hbk hsz ⊢
    have TB := Lib.hid (Tch.of_below (X := fun k => BB ≤ k) hba)
    have HBE := Lib.hid hBB
    have HBK := Lib.hid hbk
    have HSZ := Lib.hid hsz
    clear hbk hba hsz hBB
    generalize w12.alloc _ = w13 at *
    refine (bounds_any w13 (BB + 1) BB F0 (.slice none 0 0) [] (some ⟨Bt, 0, none⟩) m (m + 1) 0 HBK.out rfl rfl (World.ownsRow_nil w13 (BB + 1) 149 3) (fun h => by cases h) (by omega) (by simp) (by rw [HSZ.out]; exact Nat.le_refl _)).mono ?_
    rintro e w14 ⟨rfl, ht, vb, F1, hk, h0, hf, hj, ho, _⟩
    have HS14 := Lib.hid (show BB + 1 ≤ w14.heap.size from by rw [← HSZ.out]; exact ht.size)
    replace TB := Lib.hid (TB.out.trans (ht.mono (fun k _ hx => hx.elim (fun e => by omega) (fun e => by cases e))))
    replace HBK := Lib.hid hk
    have HJ1 := Lib.hid (show ∀ j, j ≠ 0 → j ≠ 9 → F1 j = .slice none 0 0 from fun j h0 h9 => by rw [hj j h0 h9]; unfold F0; rw [if_neg h0])
    have HF1 := Lib.hid (And.intro h0 hf)
    have HO1 := Lib.hid ho
    have HVB := Lib.hid (show ∀ k, vb.ownBlock = some k → BB + 1 ≤ k ∧ k < w14.heap.size from fun k hk => own_at ho hk)
    clear ht hk h0 hf hj ho HSZ
    go_wp2_with fail
    refine (numsb_any w14 w14.heap.size BB F1 (.slice none 0 0) [] (some ⟨Bv, 0, none⟩) k (k + 1) 1 HBK.out HF1.out.1 (HJ1.out 4 (by omega) (by omega)) (World.ownsRow_nil w14 w14.heap.size 151 3) (fun h => by cases h) (by omega) (by simp) (Nat.le_refl _)).mono ?_
    rintro e w15 ⟨rfl, ht, vn, F2, hk, h0, hf, hj, ho, _⟩
    have HS15 := Lib.hid ht.size
    replace TB := Lib.hid (TB.out.trans (ht.mono (fun k _ hx => hx.elim (fun e => by omega) (fun e => by cases e))))
    replace HBK := Lib.hid hk
    have HJ2 := Lib.hid (show ∀ j, j ≠ 0 → j ≠ 9 → j ≠ 4 → F2 j = .slice none 0 0 from fun j h0 h9 h4 => by rw [hj j h0 h4]; exact HJ1.out j h0 h9)
    have HF2 := Lib.hid (show F2 0 = .int .i64 ((1 + 1 : Nat) : Int) ∧ F2 4 = vn ∧ F2 9 = vb from ⟨h0, hf, by rw [hj 9 (by omega) (by omega)]; exact HF1.out.2⟩)
    replace HO1 := Lib.hid (ht.own HO1.out (fun k hk hx => hx.elim (fun e => by have := (HVB.out k hk).1; omega) (fun e => by cases e)))
    have HO2 := Lib.hid ho
    have HVN := Lib.hid (show ∀ k, vn.ownBlock = some k → w14.heap.size ≤ k ∧ k < w15.heap.size from fun k hk => own_at ho hk)
    clear ht hk h0 hf hj ho HJ1 HF1
    go_wp2_with fail
    refine (numsb_any w15 w14.heap.size BB F2 vn [⟨.slice (some ⟨Bv, 0, none⟩) k (k + 1), .slice none 0 0, k, 2⟩] AX ca ca 2 HBK.out HF2.out.1 HF2.out.2.1 HO2.out (fun h => by have := (HVN.out BB h).1; have := HS14.out; omega) (by omega) (by simp) HS15.out).mono ?_
    rintro e w16 ⟨rfl, ht, vp, F3, hk, h0, hf, hj, ho, _⟩
    have HS16 := Lib.hid (Nat.le_trans HS15.out ht.size)
    replace TB := Lib.hid (TB.out.trans (ht.mono (fun k _ hx => hx.elim (fun e => by omega) (fun e => by have := (HVN.out k e).1; have := HS14.out; omega))))
    replace HBK := Lib.hid hk
    have HJ3 := Lib.hid (show ∀ j, j ≠ 0 → j ≠ 9 → j ≠ 4 → F3 j = .slice none 0 0 from fun j h0 h9 h4 => by rw [hj j h0 h4]; exact HJ2.out j h0 h9 h4)
    have HF3 := Lib.hid (show F3 0 = .int .i64 ((2 + 1 : Nat) : Int) ∧ F3 4 = vp ∧ F3 9 = vb from ⟨h0, hf, by rw [hj 9 (by omega) (by omega)]; exact HF2.out.2.2⟩)
    replace HO1 := Lib.hid (ht.own HO1.out (fun k hk hx => hx.elim (fun e => by have := (HVB.out k hk).1; omega) (fun e => by have := (HVB.out k hk).2; have := (HVN.out k e).1; omega)))
    have HO3 := Lib.hid ho
    have HVP := Lib.hid (show ∀ k, vp.ownBlock = some k → w14.heap.size ≤ k ∧ k < w16.heap.size from fun k hk => own_at ho hk)
    clear ht hk h0 hf hj ho HJ2 HF2 HO2 HVN
    go_wp2_with fail
    refine (numsb_any w16 w14.heap.size BB F3 vp [⟨.slice (some ⟨Bv, 0, none⟩) k (k + 1), .slice none 0 0, k, 2⟩, ⟨.slice AX ca ca, .slice none 0 0, ca, 3⟩] BX ca ca 3 HBK.out HF3.out.1 HF3.out.2.1 HO3.out (fun h => by have := (HVP.out BB h).1; have := HS14.out; omega) (by omega) (by simp) HS16.out).mono ?_
    rintro e w17 ⟨rfl, ht, vq, F4, hk, h0, hf, hj, ho, _⟩
    have HS17 := Lib.hid (Nat.le_trans HS16.out ht.size)
    replace TB := Lib.hid (TB.out.trans (ht.mono (fun k _ hx => hx.elim (fun e => by omega) (fun e => by have := (HVP.out k e).1; have := HS14.out; omega))))
    replace HBK := Lib.hid hk
    have HJ4 := Lib.hid (show ∀ j, j ≠ 0 → j ≠ 9 → j ≠ 4 → F4 j = .slice none 0 0 from fun j h0 h9 h4 => by rw [hj j h0 h4]; exact HJ3.out j h0 h9 h4)
    have HF4 := Lib.hid (show F4 9 = vb ∧ F4 4 = vq from ⟨by rw [hj 9 (by omega) (by omega)]; exact HF3.out.2.2, hf⟩)
    replace HO1 := Lib.hid (ht.own HO1.out (fun k hk hx => hx.elim (fun e => by have := (HVB.out k hk).1; omega) (fun e => by have := (HVB.out k hk).2; have := (HVP.out k e).1; omega)))
    have HO4 := Lib.hid ho
    have HVQ := Lib.hid (show ∀ k, vq.ownBlock = some k → w14.heap.size ≤ k from fun k hk => (own_at ho hk).1)
    clear ht hk h0 hf hj ho HJ3 HF3 HO3 HVP
    have HSS := Lib.hid (show w.heap.size ≤ w5.heap.size ∧ w5.heap.size ≤ w6.heap.size ∧ w6.heap.size ≤ w7.heap.size ∧ w7.heap.size ≤ w8.heap.size ∧ w8.heap.size ≤ BB ∧ BB + 1 ≤ w14.heap.size ∧ w.heap.size ≤ w17.heap.size from by
      have := HS5.out; have := HB56.out.size; have := HB67.out.size; have := HB78.out.size; have := HC.out.size; have := HBE.out; have := HS14.out; have := HS17.out
      omega)
    have HR6 := Lib.hid (own_low (b2 := w.heap.size) (TB.out.own (own_below HTR.out (on HB67.out (on HB78.out HC.out))) (fun k hk hle => by have := (own_at HTR.out hk).2; have := HSS.out; omega)) HS5.out)
    have HR7 := Lib.hid (own_low (b2 := w.heap.size) (TB.out.own (own_below HVR.out (on HB78.out HC.out)) (fun k hk hle => by have := (own_at HVR.out hk).2; have := HSS.out; omega)) (by have := HSS.out; omega))
    have HM8 := Lib.hid ((HME.out.tch (Tch.of_below (X := fun _ => False) HC.out) (fun _ _ h => h)).tch TB.out (fun k hk hle => by have := HBE.out; omega))
    have HK0 := Lib.hid (show ∀ k, Blk [(⟨.slice (some ⟨Bt, 0, none⟩) m (m + 1), .slice none 0 0, m, 1⟩ : Go.Proofs.YtajilghlcfheiaaGreatDoor.HL)] k → w5.heap.size ≤ k ∧ k < w6.heap.size from fun k h => own_at HTR.out (blk_one h))
    have HKV := Lib.hid (show ∀ j, (Value.slice (some ⟨Bv, 0, none⟩) k (k + 1)).ownBlock = some j → w6.heap.size ≤ j ∧ j < w7.heap.size from fun j h => own_at HVR.out h)
    have HKM := Lib.hid HME.out.blk
    have HK1 := Lib.hid (show ∀ j, Blk [(⟨.slice (some ⟨Bv, 0, none⟩) k (k + 1), .slice none 0 0, k, 2⟩ : Go.Proofs.YtajilghlcfheiaaGreatDoor.HL), ⟨.slice AX ca ca, .slice none 0 0, ca, 3⟩, ⟨.slice BX ca ca, .slice none 0 0, ca, 4⟩] j → w6.heap.size ≤ j ∧ j < BB from fun j h => by
      have := HSS.out
      rcases blk3 h with h | h | h
      · have := HKV.out j h; omega
      · have := HKM.out.1 j h; omega
      · have := HKM.out.2.1 j h; omega)
    have HBW := Lib.hid (show Below w.heap.size w w17 from HW12.out.trans (TB.out.below (by have := HW12.out.size; exact this) (fun k hk => by have := HSS.out; omega)))
    clear HME HVR HTR TB HC HW12 HS14 HS15 HS16 HS17 HBE HB56 HB67 HB78 HB89 HVH HTB HTB9 HVN9 HNX HNY HNX2 HNY2 HAN HSV HRV
    go_wp2_with fail
    refine (apart_bounds w17 w.heap.size BB F4 HBK.out (fun j hj => HJ4.out j (by omega) (by omega) (by omega)) HSS.out.2.2.2.2.2.2
      vb [⟨.slice (some ⟨Bt, 0, none⟩) m (m + 1), .slice none 0 0, m, 1⟩] HF4.out.1 (own_low HO1.out (by have := HSS.out; omega)) ?_ ?_ ?_ ?_ (by simp) (fun h => by have := (HVB.out BB h).1; omega) (fun h => by have := HK0.out BB h; have := HSS.out; omega)
      vq [⟨.slice (some ⟨Bv, 0, none⟩) k (k + 1), .slice none 0 0, k, 2⟩, ⟨.slice AX ca ca, .slice none 0 0, ca, 3⟩, ⟨.slice BX ca ca, .slice none 0 0, ca, 4⟩] HF4.out.2 (own_low HO4.out (by have := HSS.out; omega)) ?_ ?_ ?_ ?_ (by simp) (fun h => by have := HVQ.out BB h; have := HSS.out; omega) (fun h => by have := HK1.out BB h; omega)
      ?_ ?_ ?_ ?_ ?_ ?_ ?_ ?_).mono ?_
    · intro i h
      obtain rfl : i = 0 := by simpa using h
      exact ⟨_, HR6.out⟩
    · intro i j h h' hne
      simp at h h'
      omega
    · intro h hh
      rw [List.mem_singleton.1 hh]
      exact ⟨by simp, rfl⟩
    · intro h hh
      rw [List.mem_singleton.1 hh]
      dsimp only
      omega
    · exact all3 (p := fun x => ∃ xs, w17.ownsRow w.heap.size 66 1 x.v x.n xs) ⟨_, HR7.out⟩ (HM8.out.own (by have := HSS.out; omega) HCA.out).1 (HM8.out.own (by have := HSS.out; omega) HCA.out).2
    · exact ne3 (fun j h h' => by have := HKV.out j h; have := HKM.out.1 j h'; omega) (fun j h h' => by have := HKV.out j h; have := HKM.out.2.1 j h'; omega) HKM.out.2.2
    · intro h hh
      rcases mem3 hh with rfl | rfl | rfl <;> exact ⟨by simp, rfl⟩
    · intro h hh
      have := HCA.out
      rcases mem3 hh with rfl | rfl | rfl <;> dsimp only <;> omega
    all_goals first
      | (rintro e w18 ⟨rfl, ht⟩
         have HTT := Lib.hid ht
         clear ht
         go_wp2_with fail
         go_ret
         exact ⟨rfl, HBW.out.trans (HTT.out.below HSS.out.2.2.2.2.2.2 (fun j hj => by
           have := HSS.out
           rcases hj with h | h | h | h
           · have := HK0.out j h; omega
           · have := HVB.out j h; omega
           · have := HK1.out j h; omega
           · have := HVQ.out j h; omega))⟩)
      | (intro j hj h
         have hss := HSS.out
         have a0 := HK0.out j
         have a1 := HK1.out j
         have b0 := HVB.out j
         have b1 := HVQ.out j
         first
           | (have p := a0 hj; have q := a1 h; omega)
           | (have p := a0 hj; have q := b0 h; omega)
           | (have p := a0 hj; have q := b1 h; omega)
           | (have p := a1 hj; have q := a0 h; omega)
           | (have p := a1 hj; have q := b0 h; omega)
           | (have p := a1 hj; have q := b1 h; omega)
           | (have p := b0 hj; have q := b1 h; omega)
           | (have p := b1 hj; have q := b0 h; omega))
end Go.Proofs.YtajilghlcfheiaaGreatDoor.BOf
/- BoundsOf's walk at whatever comes in. -/
namespace Go.Proofs.YtajilghlcfheiaaGreatDoor.BOf
open Go.RowKit Go.ChangeShapes Go.WideShapes
set_option maxRecDepth 100000 in
theorem bof_walk {H : Type} {enc : TypeId × Value → H} {base : Nat} {r : Reach} {b0 : Nat} {held : Bool} {P : Prop} (v : Value) (d : DataW H) (p : List MemPlace) (W : World) (ho : Value.okWide Tryz.prog W r b0 25 v) (ht : DataW.Trod enc Tryz.prog W base (fun _ => true) held 25 v d p) (_ : P) (hT : Lib.TabIs Tryz.prog W "math/bits.deBruijn64tab" .u8 Bnd.tab64) :
    Calls Tryz.prog 3 #[v] W fun e w' => e = .returned (.bool true) ∧ Below W.heap.size W w' := by
  obtain ⟨A1, n1, c1, rows, s, ef, vr, A2, m, c2, L, A3, k, c3, vals, rfl, h1, hm1, hI1, h2, hm2, hL, h3, hm3, hc3, hI3, _, _⟩ := Bnd.given_open v d p W ho ht
  exact bof_in A1 n1 c1 s ef vr A2 m c2 A3 k c3 rows L vals h1 hm1 h2 hm2 h3 (by omega) W hI1 hL hI3 (Bnd.tab_of hT)
end Go.Proofs.YtajilghlcfheiaaGreatDoor.BOf
