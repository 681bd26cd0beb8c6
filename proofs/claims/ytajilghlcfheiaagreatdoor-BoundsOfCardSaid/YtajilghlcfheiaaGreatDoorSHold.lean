/- The document's value, and Hold; and which sort is asked for. -/
import Derived.Test.YtajilghlcfheiaaGreatDoorSSort
import Derived.Test.YtajilghlcfheiaaGreatDoorBndSort
namespace Go.Proofs.YtajilghlcfheiaaGreatDoor.Bnd
open Go.RowKit Go.Proofs.YtajilghlcfheiaaGreatDoorW.PrintWords
set_option linter.unusedVariables false
set_option maxRecDepth 20000
theorem rvalue_any (A : Option Addr) (k c : Nat) (vals : List Nat) (hk : k = vals.length) (hmax : k ≤ 9223372036854775807) (v : Bool) (n : Nat) (hn : n < 18446744073709551616) (w : World) (hI : Nums w A vals) : Calls Tryz.prog 62 #[.slice A k c, .agg #[.bool v, .int .u64 (n : Int)]] w fun e w' => e = .returned (.tuple #[.int .u64 (((valF vals v n).1 : Nat) : Int), .bool (valF vals v n).2]) ∧ Below w.heap.size w w' := by
  have HI := Lib.hid hI
  have HK := Lib.hid hk
  have HB := Lib.hid (lit_below w (.cells #[.bool v, .int .u64 (n : Int)] 97))
  clear hI hk
  cases v with
  | false =>
    have HV := Lib.hid (show valF vals false n = (n, true) by simp [valF])
    generalize valF vals false n = r at HV ⊢
    go_enter Tryz.func62, Tryz.ntmps62
    go_wp2
    go_ret2
    exact ⟨by rw [HV.out]; rfl, HB.out⟩
  | true =>
    by_cases h : n < k
    · have hkl : n < vals.length := by rw [← HK.out]; exact h
      have HV := Lib.hid (show valF vals true n = (vals[n], true) by simp [valF, hkl, List.getD])
      obtain ⟨b, off, rfl, _, hc⟩ := (HI.out.below HB.out).2 (by omega)
      have hck := hc n hkl
      generalize vals[n] = x at hck HV
      generalize valF vals true n = r at HV ⊢
      have d1 : decide ((k : Int) ≤ (n : Int)) = false := by simp; omega
      have d2 : decide (k ≤ n) = false := by simp; omega
      have i1 : (0 : Int) ≤ (n : Int) := by omega
      have i2 : (n : Int) < (k : Int) := by omega
      clear hc hkl
      go_enter Tryz.func62, Tryz.ntmps62
      go_wp2
      go_ret2
      exact ⟨by rw [HV.out]; rfl, HB.out⟩
    · have HV := Lib.hid (show valF vals true n = (0, false) by simp [valF, ← HK.out]; omega)
      generalize valF vals true n = r at HV ⊢
      have d1 : decide ((k : Int) ≤ (n : Int)) = true := by simp; omega
      have d2 : decide (k ≤ n) = true := by simp; omega
      go_enter Tryz.func62, Tryz.ntmps62
      go_wp2
      go_ret2
      exact ⟨by rw [HV.out]; rfl, HB.out⟩
theorem rs_hold (v : Value) (S : SI) (A : Option Addr) (k c : Nat) (vals : List Nat) (hk : k = vals.length) (hmax : k ≤ 9223372036854775807) (A2 : Option Addr) (m c2 : Nat) (L : List Rea.Bd) (hm : m = L.length) (hmm : m ≤ 9223372036854775807) (w : World) (hS : RS w v S) (hI : Nums w A vals) (hL : Rea.Bds w A2 L) : Calls Tryz.prog 18 #[v, .slice A k c, .slice A2 m c2] w fun e w' => e = .returned (.bool (holdF S vals L)) ∧ Below w.heap.size w w' := by
  have HK := Lib.hid hk
  have HM := Lib.hid hm
  have HRS := Lib.hid hS
  obtain ⟨so, sA, sn, sc, sy, rfl⟩ := hS.shape
  have HB0 := Lib.hid (lit_below w (.cells #[.int .i64 so, .slice sA sn sc, .int .i64 sy] 31))
  have HZ := Lib.hid (three_cells w (.int .i64 so) (.slice sA sn sc) (.int .i64 sy) 31)
  have HNO := Lib.hid (fun k hk h => hold_no (S := S) (vals := vals) (L := L) (k := k) hk h)
  have HYE := Lib.hid (fun h => hold_yes (S := S) (vals := vals) (L := L) h)
  generalize holdF S vals L = r at HNO HYE ⊢
  clear hk hm hS
  go_enter Tryz.func18, Tryz.ntmps18
  go_wp2_with fail
  generalize w.alloc _ = wa at *
  have HI := Lib.hid (hI.below HB0.out)
  have HL := Lib.hid (hL.below HB0.out)
  replace HRS := Lib.hid (HRS.out.below HB0.out)
  obtain ⟨TB, hTB⟩ : ∃ B, B = w.heap.size := ⟨_, rfl⟩
  rw [← hTB] at HZ ⊢
  clear hTB hI hL
  go_loopw [7] (fun x wr => ∃ i : Nat, i ≤ m ∧ x = .int .i64 i ∧ Hid (∀ j (hj : j < L.length), j < i → oneH S vals L[j] = true) ∧ Hid (Below wa.heap.size wa wr)) (fun x _ => m - (intOf x).toNat)
  case atStart => exact ⟨0, by omega, rfl, fun j _ h => by omega, Below.refl _ _⟩
  case round =>
    obtain ⟨i, hi, rfl, HH, HB⟩ := hrel
    by_cases him : i < m
    · have hil : i < L.length := by rw [← HM.out]; exact him
      obtain ⟨b, o, rfl, hrest⟩ := HL.out i hil
      clear hrest
      obtain ⟨d, hd⟩ : ∃ d, L[i] = d := ⟨_, rfl⟩
      obtain ⟨⟨c0, c1⟩, ⟨c2, c3⟩, l1, l2⟩ := bd_at (HL.out.below HB.out) hil hd
      have HNI := Lib.hid (HNO.out i hil)
      have HST := Lib.hid (fun (h : oneH S vals d = true) => (show ∀ j (hj : j < L.length), j < i + 1 → oneH S vals L[j] = true from fun j hj hji => by
        by_cases e : j = i
        · subst e
          rw [hd]
          exact h
        · exact HH.out j hj (by omega)))
      rw [hd] at HNI
      have HO := Lib.hid (show oneH S vals d = (((valF vals d.av d.an).2 && (valF vals d.bv d.bn).2) && S.below (valF vals d.av d.an).1 (valF vals d.bv d.bn).1) from rfl)
      have HV1 := Lib.hid (fun W (h : Below wa.heap.size wa W) => rvalue_any A k c vals HK.out hmax d.av d.an l1 W (HI.out.below h))
      have HV2 := Lib.hid (fun W (h : Below wa.heap.size wa W) => rvalue_any A k c vals HK.out hmax d.bv d.bn l2 W (HI.out.below h))
      have HX1 := val_lt HI.out.1 d.av d.an l1
      have HX2 := val_lt HI.out.1 d.bv d.bn l2
      generalize oneH S vals d = q at HNI HST HO
      generalize valF vals d.av d.an = x at HV1 HX1 HO
      generalize valF vals d.bv d.bn = y at HV2 HX2 HO
      obtain ⟨x, p1⟩ := x
      obtain ⟨y, p2⟩ := y
      simp only at HX1 HX2
      obtain ⟨av, an, bv, bn⟩ := d
      simp only at c0 c1 c2 c3 l1 l2
      have HBE := Lib.hid (fun W (h : Below wa.heap.size wa W) => rs_below _ S x y HX1 HX2 W (HRS.out.below h))
      have HO2 := Lib.hid (show q = ((p1 && p2) && S.below x y) from HO.out)
      generalize S.below x y = p3 at HBE HO2
      have i1 : (0 : Int) ≤ (i : Int) := by omega
      have i2 : (i : Int) < (m : Int) := by omega
      clear hd HO
      go_wp2_with fail
      refine (HV1.out _ HB.out).mono ?_
      rintro e w2 ⟨rfl, hb2⟩
      replace c2 := cell_below c2 hb2
      replace c3 := cell_below c3 hb2
      have HB2 := Lib.hid (on HB.out hb2)
      clear hb2 c0 c1 HB
      go_wp2_with fail
      refine (HV2.out _ HB2.out).mono ?_
      rintro e w3 ⟨rfl, hb3⟩
      have HB3 := Lib.hid (on HB2.out hb3)
      have HZ3 := Lib.hid (show w3.cell? ⟨TB, 0, none⟩ = some (.int .i64 so) ∧ w3.cell? ⟨TB, 1, none⟩ = some (.slice sA sn sc) ∧ w3.cell? ⟨TB, 2, none⟩ = some (.int .i64 sy) from ⟨cell_below HZ.out.1 HB3.out, cell_below HZ.out.2.1 HB3.out, cell_below HZ.out.2.2 HB3.out⟩)
      clear hb3 HB2 c2 c3
      cases p1 with
      | false =>
        have HR := Lib.hid (HNI.out HO2.out)
        go_wp2
        go_ret
        exact ⟨by rw [HR.out]; rfl, on HB0.out HB3.out⟩
      | true =>
        cases p2 with
        | false =>
          have HR := Lib.hid (HNI.out HO2.out)
          go_wp2
          go_ret
          exact ⟨by rw [HR.out]; rfl, on HB0.out HB3.out⟩
        | true =>
          obtain ⟨z0, z1, z2⟩ := HZ3.out
          go_wp2_with fail
          refine (HBE.out _ HB3.out).mono ?_
          rintro e w4 ⟨rfl, hb4⟩
          have HB4 := Lib.hid (on HB3.out hb4)
          clear hb4 HB3
          cases p3 with
          | false =>
            have HR := Lib.hid (HNI.out HO2.out)
            go_wp2
            go_ret
            exact ⟨by rw [HR.out]; rfl, on HB0.out HB4.out⟩
          | true =>
            have HR := Lib.hid (HST.out HO2.out)
            go_wp2
            go_roundw
            case rel => exact ⟨i + 1, by omega, by go_num, HR.out, HB4.out⟩
            case measure => simp [intOf]; omega
    · obtain rfl : i = m := by omega
      have HR := Lib.hid (HYE.out (fun j hj => HH.out j hj (by rw [HM.out]; exact hj)))
      go_wp2
      go_ret
      exact ⟨by rw [HR.out]; rfl, on HB0.out HB.out⟩
end Go.Proofs.YtajilghlcfheiaaGreatDoor.Bnd
/- Which sort is asked for: the document's. -/
namespace Go.Proofs.YtajilghlcfheiaaGreatDoor.Bnd
open Go.RowKit Go.Proofs.YtajilghlcfheiaaGreatDoorW.PrintWords
set_option linter.unusedVariables false
set_option maxRecDepth 20000
theorem size31 : (Tryz.prog.info? 31).map (·.size) = some 3 := by kernel_rfl
theorem reff_any (n : Int) (w : World) : Calls Tryz.prog 45 #[.int .i64 n] w fun e w' => e = .returned (.agg #[.int .i64 (if n < 0 ∨ 64 < n then 0 else 2), .slice none 0 0, .int .i64 (if n < 0 ∨ 64 < n then 0 else n)]) ∧ Below w.heap.size w w' := by
  have HH := Lib.hid (fun (a b c : Value) => heap_alloc_new w (.cells #[a, b, c] 31))
  have HBL := Lib.hid (fun (a b c : Value) => lit_below w (.cells #[a, b, c] 31))
  by_cases h1 : n < 0
  · have d1 : decide (n < 0) = true := by simpa using h1
    go_enter Tryz.func45, Tryz.ntmps45
    go_wp2
    refine bodyPost_ret_by (results_cell_row (p := 2) (ty := 31) rfl _ _ w.heap.size 31 _ (0, 0) _ rfl (HH.out _ _ _) Tryz.underlying31 rfl size31) rfl ?_
    exact ⟨rfl, HBL.out _ _ _⟩
  · have d1 : decide (n < 0) = false := by simpa using h1
    by_cases h2 : 64 < n
    · have d2 : decide (64 < n) = true := by simpa using h2
      go_enter Tryz.func45, Tryz.ntmps45
      go_wp2
      refine bodyPost_ret_by (results_cell_row (p := 2) (ty := 31) rfl _ _ w.heap.size 31 _ (0, 0) _ rfl (HH.out _ _ _) Tryz.underlying31 rfl size31) rfl ?_
      exact ⟨rfl, HBL.out _ _ _⟩
    · have d2 : decide (64 < n) = false := by simpa using h2
      obtain ⟨x, rfl⟩ := Int.eq_ofNat_of_zero_le (show 0 ≤ n by omega)
      have hx : x ≤ 64 := by omega
      go_enter Tryz.func45, Tryz.ntmps45
      go_wp2
      refine bodyPost_ret_by (results_cell_row (p := 2) (ty := 31) rfl _ _ w.heap.size 31 _ (0, 0) _ rfl (HH.out _ _ _) Tryz.underlying31 rfl size31) rfl ?_
      exact ⟨rfl, HBL.out _ _ _⟩
theorem three_set {w : World} {B : Nat} {a b c x y z : Value} {ty : TypeId} (h : w.heap[B]? = some (.cells #[a, b, c] ty (0, 0))) : (((w.setCell ⟨B, 0, none⟩ x).setCell ⟨B, 1, none⟩ y).setCell ⟨B, 2, none⟩ z).heap[B]? = some (.cells #[x, y, z] ty (0, 0)) := by
  simp [World.setCell, Array.getElem?_modify, h]
theorem three_below {w w1 : World} {B : Nat} {x y z : Value} (h : Below w.heap.size w w1) (hB : w.heap.size ≤ B) : Below w.heap.size w (((w1.setCell ⟨B, 0, none⟩ x).setCell ⟨B, 1, none⟩ y).setCell ⟨B, 2, none⟩ z) :=
  ((h.setCell (p := ⟨B, 0, none⟩) hB x).setCell (p := ⟨B, 1, none⟩) hB y).setCell (p := ⟨B, 2, none⟩) hB z
theorem nums_far {w : World} {A : Option Addr} {rows : List Nat} {B o : Nat} {x : Value} (h : Nums w A rows) (hB : ∀ b off, A = some ⟨b, off, none⟩ → b ≠ B) : Nums (w.setCell ⟨B, o, none⟩ x) A rows := by
  refine ⟨h.1, fun hn => ?_⟩
  obtain ⟨b, off, e, hl, hc⟩ := h.2 hn
  exact ⟨b, off, e, by simpa using hl, fun j hj => (World.cell?_setCell_far _ _ _ _ (fun e2 => hB b off e e2.symm)).trans (hc j hj)⟩
theorem nums_lt {w : World} {A : Option Addr} {rows : List Nat} {B : Nat} (h : Nums w A rows) (hB : w.heap.size ≤ B) (h0 : rows ≠ []) : ∀ b off, A = some ⟨b, off, none⟩ → b ≠ B := by
  intro b off e
  obtain ⟨b', off', e', hl, _⟩ := h.2 (List.length_pos_iff.2 h0)
  rw [e] at e'
  cases e'
  omega
theorem nums_three {w w1 : World} {A : Option Addr} {rows : List Nat} {B : Nat} {x y z : Value} (h : Nums w A rows) (hB : w.heap.size ≤ B) (hb : Below w.heap.size w w1) : Nums (((w1.setCell ⟨B, 0, none⟩ x).setCell ⟨B, 1, none⟩ y).setCell ⟨B, 2, none⟩ z) A rows := by
  by_cases h0 : rows = []
  · subst h0
    exact ⟨h.1, fun hn => by simp at hn⟩
  · have hne := nums_lt h hB h0
    exact nums_far (nums_far (nums_far (h.below hb) hne) hne) hne
theorem rlab_any (A : Option Addr) (n c : Nat) (rows : List Nat) (hn : n = rows.length) (hmax : n ≤ 9223372036854775807) (w : World) (hI : Nums w A rows) : Calls Tryz.prog 46 #[.slice A n c] w fun e w' => e = .returned (if checkR rows = 0 then .agg #[.int .i64 1, .slice A n c, .int .i64 0] else .agg #[.int .i64 0, .slice none 0 0, .int .i64 0]) ∧ Below w.heap.size w w' := by
  have HB0 := Lib.hid (lit_below w (.cells #[.int .i64 0, .slice none 0 0, .int .i64 0] 31))
  have HH := Lib.hid (heap_alloc_new w (.cells #[.int .i64 0, .slice none 0 0, .int .i64 0] 31))
  have HI0 := Lib.hid hI
  have HI := Lib.hid (hI.below HB0.out)
  have HN := Lib.hid hn
  have HX := Lib.hid hI.1
  have HRF := Lib.hid (refR_eq rows hI.1)
  obtain ⟨SS, hSS⟩ : ∃ SS, SS = (if checkR rows = 0 then (.agg #[.int .i64 1, .slice A n c, .int .i64 0] : Value) else .agg #[.int .i64 0, .slice none 0 0, .int .i64 0]) := ⟨_, rfl⟩
  rw [← hSS]
  have HSS := Lib.hid hSS
  clear hI hn hSS
  go_enter Tryz.func46, Tryz.ntmps46
  go_wp2_with fail
  generalize w.alloc _ = wa at *
  obtain ⟨TB, hTB⟩ : ∃ B, B = w.heap.size := ⟨_, rfl⟩
  rw [← hTB] at HH ⊢
  refine (refcheck_any A n c rows HN.out hmax wa HI.out).mono ?_
  rintro e w1 ⟨rfl, hb⟩
  rw [HRF.out]
  obtain ⟨ck, hck⟩ : ∃ ck, ck = checkR rows := ⟨_, rfl⟩
  rw [← hck]
  have HCK := Lib.hid hck
  have HB1 := Lib.hid (on HB0.out hb)
  have HH1 := Lib.hid ((hb.block TB (Array.getElem?_eq_some_iff.1 HH.out).1).trans HH.out)
  have h0 : w1.cell? ⟨TB, 0, none⟩ = some (.int .i64 0) := by rw [cell_of_row _ _ _ _ _ _ HH1.out]; rfl
  have h1 : w1.cell? ⟨TB, 1, none⟩ = some (.slice none 0 0) := by rw [cell_of_row _ _ _ _ _ _ HH1.out]; rfl
  have h2 : w1.cell? ⟨TB, 2, none⟩ = some (.int .i64 0) := by rw [cell_of_row _ _ _ _ _ _ HH1.out]; rfl
  have f0 : w1.frozen? ⟨TB, 0, none⟩ = false := by simp [World.frozen?, HH1.out]
  have f1 : w1.frozen? ⟨TB, 1, none⟩ = false := by simp [World.frozen?, HH1.out]
  have f2 : w1.frozen? ⟨TB, 2, none⟩ = false := by simp [World.frozen?, HH1.out]
  have HTL := Lib.hid (show w.heap.size ≤ TB by omega)
  clear hck hb HI HB0 HH hTB
  by_cases hc : ck = 0
  · subst hc
    have HSL := Lib.hid (show SS = .agg #[.int .i64 1, .slice A n c, .int .i64 0] by rw [HSS.out, if_pos HCK.out.symm])
    clear HCK HSS
    go_wp2_with fail
    refine bodyPost_ret_by (results_cell_row (p := 2) (ty := 31) rfl _ _ TB 31 _ (0, 0) _ rfl (three_set HH1.out) Tryz.underlying31 rfl size31) rfl ?_
    exact ⟨by rw [HSL.out], three_below HB1.out HTL.out⟩
  · have dE : (((ck : Nat) : Int) != 0) = true := by simp; omega
    have HSL := Lib.hid (show SS = .agg #[.int .i64 0, .slice none 0 0, .int .i64 0] by rw [HSS.out, if_neg (by rw [← HCK.out]; exact hc)])
    clear HCK HSS
    go_wp2_with fail
    refine bodyPost_ret_by (results_cell_row (p := 2) (ty := 31) rfl _ _ TB 31 _ (0, 0) _ rfl (three_set HH1.out) Tryz.underlying31 rfl size31) rfl ?_
    exact ⟨by rw [HSL.out], three_below HB1.out HTL.out⟩
set_option maxHeartbeats 1000000 in
theorem ask_any (A1 : Option Addr) (n1 c1 : Nat) (s : Bool) (ef vr : Int) (A2 : Option Addr) (m c2 : Nat) (A3 : Option Addr) (k c3 : Nat) (rows : List Nat) (hn : n1 = rows.length) (hmax : n1 ≤ 9223372036854775807) (w : World) (hI : Nums w A1 rows) :
    Calls Tryz.prog 9 #[.agg #[.slice A1 n1 c1, .bool s, .int .i64 ef, .int .i64 vr, .slice A2 m c2, .slice A3 k c3]] w fun e w' => (∃ v, e = .returned v ∧ RS w' v (sortS rows s ef)) ∧ Below w.heap.size w w' := by
  obtain ⟨z0, z1, z2, _, _, _⟩ := six_cells w (.slice A1 n1 c1) (.bool s) (.int .i64 ef) (.int .i64 vr) (.slice A2 m c2) (.slice A3 k c3) 25
  have hb1 := lit_below w (.cells #[.slice A1 n1 c1, .bool s, .int .i64 ef, .int .i64 vr, .slice A2 m c2, .slice A3 k c3] 25)
  obtain ⟨wz, hwz⟩ : ∃ wz, wz = w.alloc (.cells #[.slice A1 n1 c1, .bool s, .int .i64 ef, .int .i64 vr, .slice A2 m c2, .slice A3 k c3] 25) := ⟨_, rfl⟩
  have hsz : wz.heap.size = w.heap.size + 1 := by rw [hwz]; simp
  have hb2 := lit_below wz (.cells #[.int .i64 0, .slice none 0 0, .int .i64 0] 31)
  have hh := heap_alloc_new wz (.cells #[.int .i64 0, .slice none 0 0, .int .i64 0] 31)
  rw [← hwz] at z0 z1 z2 hb1
  replace z0 := cell_below z0 hb2
  replace z1 := cell_below z1 hb2
  replace z2 := cell_below z2 hb2
  rw [hsz] at hh
  have HB0 := Lib.hid (on hb1 hb2)
  rw [hwz] at z0 z1 z2 HB0 hh
  have HH := Lib.hid hh
  have HI0 := Lib.hid hI
  have HN := Lib.hid hn
  clear hb1 hb2 hwz hsz hh wz hI hn
  cases s with
  | true =>
    go_enter Tryz.func9, Tryz.ntmps9
    go_wp2_with fail
    generalize (w.alloc _).alloc _ = wa at *
    refine (reff_any ef wa).mono ?_
    rintro e w1 ⟨rfl, hb⟩
    have HB1 := Lib.hid (on HB0.out hb)
    have HH1 := Lib.hid ((hb.block (w.heap.size + 1) (Array.getElem?_eq_some_iff.1 HH.out).1).trans HH.out)
    have h0 : w1.cell? ⟨w.heap.size + 1, 0, none⟩ = some (.int .i64 0) := by rw [cell_of_row _ _ _ _ _ _ HH1.out]; rfl
    have h1 : w1.cell? ⟨w.heap.size + 1, 1, none⟩ = some (.slice none 0 0) := by rw [cell_of_row _ _ _ _ _ _ HH1.out]; rfl
    have h2 : w1.cell? ⟨w.heap.size + 1, 2, none⟩ = some (.int .i64 0) := by rw [cell_of_row _ _ _ _ _ _ HH1.out]; rfl
    have f0 : w1.frozen? ⟨w.heap.size + 1, 0, none⟩ = false := by simp [World.frozen?, HH1.out]
    have f1 : w1.frozen? ⟨w.heap.size + 1, 1, none⟩ = false := by simp [World.frozen?, HH1.out]
    have f2 : w1.frozen? ⟨w.heap.size + 1, 2, none⟩ = false := by simp [World.frozen?, HH1.out]
    have HSS := Lib.hid (show ∀ W, RS W (.agg #[.int .i64 (if ef < 0 ∨ 64 < ef then 0 else 2), .slice none 0 0, .int .i64 (if ef < 0 ∨ 64 < ef then 0 else ef)]) (sortS rows true ef) from fun W => by
      unfold sortS
      rw [if_pos rfl]
      by_cases hx : ef < 0 ∨ 64 < ef
      · rw [if_pos hx, if_pos hx, if_pos hx]
        exact .inl ⟨rfl, rfl⟩
      · rw [if_neg hx, if_neg hx, if_neg hx]
        exact .inr (.inr ⟨ef.toNat, by omega, by rw [show ((ef.toNat : Nat) : Int) = ef by omega], rfl⟩))
    generalize (if ef < 0 ∨ 64 < ef then (0 : Int) else 2) = o1 at HSS ⊢
    generalize (if ef < 0 ∨ 64 < ef then (0 : Int) else ef) = o2 at HSS ⊢
    clear hb z0 z1 z2 HB0 HH
    go_wp2_with fail
    refine bodyPost_ret_by (results_cell_row (p := 2) (ty := 31) rfl _ _ (w.heap.size + 1) 31 _ (0, 0) _ rfl (three_set HH1.out) Tryz.underlying31 rfl size31) rfl ?_
    exact ⟨⟨_, rfl, HSS.out _⟩, three_below HB1.out (by omega)⟩
  | false =>
    go_enter Tryz.func9, Tryz.ntmps9
    go_wp2_with fail
    generalize (w.alloc _).alloc _ = wa at *
    refine (rlab_any A1 n1 c1 rows HN.out hmax wa (HI0.out.below HB0.out)).mono ?_
    rintro e w1 ⟨rfl, hb⟩
    have HB1 := Lib.hid (on HB0.out hb)
    have HH1 := Lib.hid ((hb.block (w.heap.size + 1) (Array.getElem?_eq_some_iff.1 HH.out).1).trans HH.out)
    have h0 : w1.cell? ⟨w.heap.size + 1, 0, none⟩ = some (.int .i64 0) := by rw [cell_of_row _ _ _ _ _ _ HH1.out]; rfl
    have h1 : w1.cell? ⟨w.heap.size + 1, 1, none⟩ = some (.slice none 0 0) := by rw [cell_of_row _ _ _ _ _ _ HH1.out]; rfl
    have h2 : w1.cell? ⟨w.heap.size + 1, 2, none⟩ = some (.int .i64 0) := by rw [cell_of_row _ _ _ _ _ _ HH1.out]; rfl
    have f0 : w1.frozen? ⟨w.heap.size + 1, 0, none⟩ = false := by simp [World.frozen?, HH1.out]
    have f1 : w1.frozen? ⟨w.heap.size + 1, 1, none⟩ = false := by simp [World.frozen?, HH1.out]
    have f2 : w1.frozen? ⟨w.heap.size + 1, 2, none⟩ = false := by simp [World.frozen?, HH1.out]
    have HSS := Lib.hid (show sortS rows false ef = if checkR rows = 0 then latS rows else voidS by unfold sortS; rw [if_neg (by simp)])
    have HFI := Lib.hid (fun h => (check_zero HI0.out.1).1 h)
    obtain ⟨ck, hck⟩ : ∃ ck, ck = checkR rows := ⟨_, rfl⟩
    rw [← hck] at HSS HFI ⊢
    clear hb z0 z1 z2 HB0 HH hck
    by_cases hc : ck = 0
    · have HS2 := Lib.hid (show sortS rows false ef = latS rows by rw [HSS.out, if_pos hc])
      have HF := Lib.hid (HFI.out hc)
      rw [if_pos hc]
      clear hc HSS HFI
      go_wp2_with fail
      refine bodyPost_ret_by (results_cell_row (p := 2) (ty := 31) rfl _ _ (w.heap.size + 1) 31 _ (0, 0) _ rfl (three_set HH1.out) Tryz.underlying31 rfl size31) rfl ?_
      exact ⟨⟨_, rfl, .inr (.inl ⟨A1, n1, c1, rows, rfl, HN.out, by have h := HF.out.le; rw [HN.out]; exact h, nums_three HI0.out (by omega) HB1.out, HF.out, HS2.out⟩)⟩, three_below HB1.out (by omega)⟩
    · have HS2 := Lib.hid (show sortS rows false ef = voidS by rw [HSS.out, if_neg hc])
      rw [if_neg hc]
      clear hc HSS HFI
      go_wp2_with fail
      refine bodyPost_ret_by (results_cell_row (p := 2) (ty := 31) rfl _ _ (w.heap.size + 1) 31 _ (0, 0) _ rfl (three_set HH1.out) Tryz.underlying31 rfl size31) rfl ?_
      exact ⟨⟨_, rfl, .inl ⟨rfl, HS2.out⟩⟩, three_below HB1.out (by omega)⟩
end Go.Proofs.YtajilghlcfheiaaGreatDoor.Bnd
