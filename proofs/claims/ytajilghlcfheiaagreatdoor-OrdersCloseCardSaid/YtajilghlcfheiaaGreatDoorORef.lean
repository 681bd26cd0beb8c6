/- The document's Close: its walk. -/
import Derived.Test.YtajilghlcfheiaaGreatDoorOWar
namespace Go.Proofs.YtajilghlcfheiaaGreatDoor.Ord
open Go.RowKit Go.Proofs.YtajilghlcfheiaaGreatDoorW.PrintWords
set_option maxRecDepth 100000 in
set_option maxHeartbeats 4000000 in
theorem ref_any (n : Nat) (A : Option Addr) (m c : Nat) (ps : List (Int × Int)) (hm : m = ps.length) (hmm : m ≤ 1000000) (h1 : 1 ≤ n) (h64 : n ≤ 64) (w : World) (hP : Prs w A ps) :
    Calls Tryz.prog 36 #[.int .i64 (n : Int), .slice A m c] w (RefSays n ps w) := by
  have HP := Lib.hid hP
  have HM := Lib.hid hm
  clear hP hm
  have d1 : decide ((n : Int) < 1) = false := by simp; omega
  have d2 : decide (64 < (n : Int)) = false := by simp; omega
  go_enter Tryz.func36, Tryz.ntmps36
  go_wp2
  go_loopw [6, 7] (fun v i wr => ∃ k : Nat, k ≤ n ∧ i = .int .i64 k ∧ Hid (Row wr w.heap.size v (pw k)) ∧ Hid (Below w.heap.size w wr)) (fun _ i _ => n - (intOf i).toNat)
  case atStart => exact ⟨0, by omega, rfl, Row.nil _ _, Below.refl _ w⟩
  case round =>
    obtain ⟨k, hk, rfl, HR, HB⟩ := hrel
    by_cases hlt : k < n
    · have hp := pow_wrap k (by omega)
      have i1 : (0 : Int) ≤ (k : Int) := by omega
      have i2 : (k : Int) < (n : Int) := by omega
      have HBA := Lib.hid (HB.out.alloc HB.out.size (.cells #[.int .u64 ((2 ^ k : Nat) : Int)] 66))
      have HRA := Lib.hid (HR.out.below ((Below.refl wr.heap.size wr).alloc (Nat.le_refl _) (.cells #[.int .u64 ((2 ^ k : Nat) : Int)] 66)))
      go_wp2_with (first
        | (at_builtin; refine print_append_row (w0 := w) w.heap.size rfl (.tmp 26) (.tmp 30) 22 66 .u64 8 rfl under22' info23 (by decide) _ (intsN (pw k)) [((2 ^ k : Nat) : Int)] (some ⟨wr.heap.size, 0, none⟩) 1 1 rfl rfl HRA.out (reads_one wr _) HBA.out HBA.out.size (by rw [intsN_length, pw_length]; omega) ?_; intro v7 w7 ho7 hb7 hg7 hat7; have HR7 := Lib.hid (show Row w7 w.heap.size v7 (pw (k + 1)) from (by unfold Row; rw [pw_next, intsN_append]; exact ho7)); have HB7 := Lib.hid hb7; clear ho7 hb7 hg7 hat7)
        | fail)
      go_roundw
      case rel => exact ⟨k + 1, by omega, by go_num, HR7.out, HB7.out⟩
      case measure => simp [intOf]; omega
    · obtain rfl : n = k := by omega
      obtain ⟨B, cap, hv, hnew, hrw⟩ := row_rw HR.out (by rw [pw_length]; omega)
      rw [pw_length] at hv hrw
      subst hv
      have HNEW := Lib.hid hnew
      have HRW := Lib.hid hrw
      have HPR := Lib.hid (prf_zero (ps := ps) h64)
      clear hnew hrw HR
      go_wp2_with fail
      go_loopw [8] (fun v wr => ∃ (k : Nat) (f : Nat → Nat), k ≤ m ∧ v = .int .i64 k ∧ Hid (Prf n ps k f) ∧ Hid (Rw n cap wr B f) ∧ Hid (Below w.heap.size w wr)) (fun v _ => m - (intOf v).toNat)
      case atStart => exact ⟨0, _, by omega, rfl, HPR, HRW, HB⟩
      case round =>
        clear HPR HRW HB
        obtain ⟨k, f, hk, rfl, HPR, HRW, HB⟩ := hrel
        by_cases hkm : k < m
        · have hkl : k < ps.length := by rw [← HM.out]; exact hkm
          obtain ⟨b, o, rfl, c0, c1, l0, l1⟩ := (HP.out.below HB.out) k hkl
          obtain ⟨x, hx⟩ : ∃ x, x = ps[k].1 := ⟨_, rfl⟩
          obtain ⟨y, hy⟩ : ∃ y, y = ps[k].2 := ⟨_, rfl⟩
          have HXY := Lib.hid (show ps[k] = (x, y) by rw [hx, hy])
          rw [← hx] at c0 l0
          rw [← hy] at c1 l1
          clear hx hy
          have i1 : (0 : Int) ≤ (k : Int) := by omega
          have i2 : (k : Int) < (m : Int) := by omega
          by_cases hin : (0 ≤ x ∧ x < n) ∧ (0 ≤ y ∧ y < n)
          · obtain ⟨⟨x0, x1⟩, y0, y1⟩ := hin
            obtain ⟨x, rfl⟩ := Int.eq_ofNat_of_zero_le x0
            obtain ⟨y, rfl⟩ := Int.eq_ofNat_of_zero_le y0
            have x2 : x < n := by omega
            have y2 : y < n := by omega
            have HPN := Lib.hid (HPR.out.next h64 hkl x y x2 y2 HXY.out)
            have hr := HPR.out.lt x x2
            have cx := HRW.out.cell x2
            have fx := HRW.out.frozen x
            have HOR := Lib.hid (show ∀ r : Nat, r < 18446744073709551616 → bits .or .u64 (r : Int) ((2 ^ y : Nat) : Int) = ((r ||| 2 ^ y : Nat) : Int) from fun r h => u64_or_nat r (2 ^ y) h (by rw [show 18446744073709551616 = 2 ^ 64 from rfl]; exact Nat.pow_lt_pow_right (by omega) (by omega)))
            have hpw := pow_wrap y (by omega)
            have HS := Lib.hid (HRW.out.set x2 (f x ||| 2 ^ y))
            have HB1 := Lib.hid (HB.out.setCell (p := ⟨B, x, none⟩) HNEW.out (.int .u64 ((f x ||| 2 ^ y : Nat) : Int)))
            obtain ⟨r, hr'⟩ : ∃ r, r = f x := ⟨_, rfl⟩
            rw [← hr'] at hr cx HPN HS HB1
            have hor := HOR.out r hr
            rw [← hpw] at hor
            clear hr' hpw HRW HB HPR
            go_wp2
            go_roundw
            case rel => exact ⟨k + 1, _, by omega, by go_num, HPN, HS.out, HB1.out⟩
            case measure => simp [intOf]; omega
          · have HNI := Lib.hid (not_inr hkl HXY.out hin)
            go_wp2
            all_goals first
              | (exfalso
                 omega)
              | (go_ret2
                 exact ⟨HB.out, .inl ⟨.inr (.inr HNI.out), rfl⟩⟩)
        · obtain rfl : m = k := by omega
          have HWK := Lib.hid (HPR.out.wv HM.out)
          have HIR := Lib.hid HWK.out.1
          have HWV := Lib.hid HWK.out.2
          clear HPR HWK HP
          go_wp2_with fail
          go_loopw [11] (fun v wr => ∃ (k : Nat) (f : Nat → Nat), k ≤ n ∧ v = .int .i64 k ∧ Hid (Wv n ps k f) ∧ Hid (Rw n cap wr B f) ∧ Hid (Below w.heap.size w wr)) (fun v _ => n - (intOf v).toNat)
          case atStart => exact ⟨0, _, by omega, rfl, HWV, HRW, HB⟩
          case round =>
            clear HWV HRW HB
            obtain ⟨k, f, hk, rfl, HWV, HRW, HB⟩ := hrel
            by_cases hkn : k < n
            · have HRW0 := Lib.hid (show Rw n cap wr B (pas f k 0) by rw [pas_zero]; exact HRW.out)
              have HWN := Lib.hid (HWV.out.next hkn)
              have HLT := Lib.hid HWV.out.lt
              have j1 : (0 : Int) ≤ (k : Int) := by omega
              have j2 : (k : Int) < (n : Int) := by omega
              clear HRW HWV
              go_wp2_with fail
              go_loopw [12] (fun v wr => ∃ i : Nat, i ≤ n ∧ v = .int .i64 i ∧ Hid (Rw n cap wr B (pas f k i)) ∧ Hid (Below w.heap.size w wr)) (fun v _ => n - (intOf v).toNat)
              case atStart => exact ⟨0, by omega, rfl, HRW0, HB⟩
              case round =>
                clear HRW0 HB
                obtain ⟨i, hi, rfl, HR, HB⟩ := hrel
                by_cases hin : i < n
                · have ci := HR.out.cell hin
                  have ck := HR.out.cell hkn
                  rw [pas_here] at ci
                  rw [pas_k] at ck
                  have li := HLT.out i hin
                  have lk := HLT.out k hkn
                  have fi := HR.out.frozen i
                  have i1 : (0 : Int) ≤ (i : Int) := by omega
                  have i2 : (i : Int) < (n : Int) := by omega
                  have HNO := Lib.hid (fun h => pas_no (f := f) (k := k) (i := i) h)
                  have HYE := Lib.hid (fun h => pas_yes (f := f) (k := k) (i := i) h)
                  have HS := Lib.hid (HR.out.set hin (f i ||| f k))
                  have HB1 := Lib.hid (HB.out.setCell (p := ⟨B, i, none⟩) HNEW.out (.int .u64 ((f i ||| f k : Nat) : Int)))
                  obtain ⟨r, hr⟩ : ∃ r, r = f i := ⟨_, rfl⟩
                  obtain ⟨s, hs⟩ : ∃ s, s = f k := ⟨_, rfl⟩
                  rw [← hr] at ci li HNO HYE HS HB1
                  rw [← hs] at ck lk HYE HS HB1
                  clear hr hs
                  have hb1 := bit_one r k li
                  have hor := u64_or_nat r s li lk
                  cases e1 : r.testBit k with
                  | false =>
                    rw [e1] at hb1
                    have HS2 := Lib.hid (show Rw n cap wr B (pas f k (i + 1)) by rw [HNO.out e1]; exact HR.out)
                    clear e1 HR HS HB1 HNO HYE
                    go_wp2
                    go_roundw
                    case rel => exact ⟨i + 1, by omega, by go_num, HS2.out, HB.out⟩
                    case measure => simp [intOf]; omega
                  | true =>
                    rw [e1] at hb1
                    have HS2 := Lib.hid (show Rw n cap (wr.setCell ⟨B, i, none⟩ (.int .u64 ((r ||| s : Nat) : Int))) B (pas f k (i + 1)) by rw [HYE.out e1]; exact HS.out)
                    clear e1 HR HS HNO HYE HB
                    go_wp2_with fail
                    go_region
                    all_goals
                      go_wp2
                      go_roundw
                      case rel => exact ⟨i + 1, by omega, by go_num, HS2.out.drew, HB1.out.drew⟩
                      case measure => simp [intOf]; omega
                · obtain rfl : n = i := by omega
                  go_wp2
                  go_roundw
                  case rel => exact ⟨k + 1, _, by omega, by go_num, HWN.out, HR.out, HB.out⟩
                  case measure => simp [intOf]; omega
            · obtain rfl : n = k := by omega
              have HNU := Lib.hid (HRW.out.nums HWV.out.lt)
              have HCL := Lib.hid (HWV.out.cl HIR.out)
              have HAN := Lib.hid (fun h => HWV.out.anti HIR.out h)
              have HNA := Lib.hid (fun (i j : Nat) hi hj hne h1 h2 => HWV.out.not_anti (i := i) (j := j) hi hj hne h1 h2)
              clear HRW HWV
              go_wp2_with fail
              go_loop [13] (fun v => ∃ i : Nat, i ≤ n ∧ v = .int .u64 i ∧ Hid (Apr f n i)) (fun v => n - (intOf v).toNat)
              case atStart => exact ⟨0, by omega, rfl, fun a b h => by omega⟩
              case round =>
                obtain ⟨i, hi, rfl, HAP⟩ := hrel
                by_cases hin : i < n
                · have d3 : decide ((i : Int) < (n : Int)) = true := by simp; omega
                  go_wp2_with fail
                  go_loop [14] (fun v => ∃ j : Nat, j ≤ n ∧ v = .int .u64 j ∧ Hid (Aps f i j)) (fun v => n - (intOf v).toNat)
                  case atStart => exact ⟨0, by omega, rfl, fun b h => by omega⟩
                  case round =>
                    obtain ⟨j, hj, rfl, HAU⟩ := hrel
                    by_cases hjn : j < n
                    · have d4 : decide ((j : Int) < (n : Int)) = true := by simp; omega
                      have HN := Lib.hid (fun h => HAU.out.next (j := j) h)
                      by_cases hij : i = j
                      · subst hij
                        have d5 : ((i : Int) != (i : Int)) = false := by simp
                        go_wp2
                        go_round
                        case rel => exact ⟨i + 1, by omega, by go_num, HN.out (fun h => absurd rfl h)⟩
                        case measure => simp [intOf]; omega
                      · have d5 : ((i : Int) != (j : Int)) = true := by simp; omega
                        have HC1 := Lib.hid (refbelow_any (some ⟨B, 0, none⟩) n cap _ (by simp) (by omega) i j (by omega) (by omega) _ HNU.out)
                        have HC2 := Lib.hid (refbelow_any (some ⟨B, 0, none⟩) n cap _ (by simp) (by omega) j i (by omega) (by omega) _ HNU.out)
                        have HNA2 := Lib.hid (fun h1 h2 => HNA.out i j hin hjn hij h1 h2)
                        rw [rowB_map h64 hin hjn] at HC1
                        rw [rowB_map h64 hjn hin] at HC2
                        cases e1 : (f i).testBit j with
                        | false =>
                          rw [e1] at HC1 HN
                          clear HC2 HNA2 e1
                          go_wp2_with fail
                          refine HC1.out.mono ?_
                          rintro e w1 ⟨rfl, rfl⟩
                          go_wp2
                          go_round
                          case rel => exact ⟨j + 1, by omega, by go_num, HN.out (by simp)⟩
                          case measure => simp [intOf]; omega
                        | true =>
                          cases e2 : (f j).testBit i with
                          | false =>
                            rw [e1] at HC1
                            rw [e2] at HC2 HN
                            clear HNA2 e1 e2
                            go_wp2_with fail
                            refine HC1.out.mono ?_
                            rintro e w1 ⟨rfl, rfl⟩
                            go_wp2_with fail
                            refine HC2.out.mono ?_
                            rintro e w1 ⟨rfl, rfl⟩
                            go_wp2
                            go_round
                            case rel => exact ⟨j + 1, by omega, by go_num, HN.out (by simp)⟩
                            case measure => simp [intOf]; omega
                          | true =>
                            have HX := Lib.hid (HNA2.out e1 e2)
                            rw [e1] at HC1
                            rw [e2] at HC2
                            clear HNA2 e1 e2 HN
                            go_wp2_with fail
                            refine HC1.out.mono ?_
                            rintro e w1 ⟨rfl, rfl⟩
                            go_wp2_with fail
                            refine HC2.out.mono ?_
                            rintro e w1 ⟨rfl, rfl⟩
                            go_wp2
                            go_ret2
                            exact ⟨HB.out, .inr (.inl ⟨⟨by omega, by omega, HIR.out⟩, HX.out, rfl⟩)⟩
                    · obtain rfl : n = j := by omega
                      have d4 : decide ((n : Int) < (n : Int)) = false := by simp
                      go_wp2
                      go_round
                      case rel => exact ⟨i + 1, by omega, by go_num, HAP.out.next HAU.out⟩
                      case measure => simp [intOf]; omega
                · obtain rfl : n = i := by omega
                  have d3 : decide ((n : Int) < (n : Int)) = false := by simp
                  go_wp2_with fail
                  go_ret2
                  exact ⟨HB.out, .inr (.inr ⟨⟨by omega, by omega, HIR.out⟩, HAN.out HAP.out, B, cap, _, rfl, HCL.out, HNU.out⟩)⟩
end Go.Proofs.YtajilghlcfheiaaGreatDoor.Ord
