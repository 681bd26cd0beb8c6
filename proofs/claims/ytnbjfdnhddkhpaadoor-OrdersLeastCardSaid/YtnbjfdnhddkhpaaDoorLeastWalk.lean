/- Each two of an order have one least above both, and one greatest below both: the law's walk. -/
import Derived.Test.YtnbjfdnhddkhpaaDoorFine
import Derived.Test.YtnbjfdnhddkhpaaDoorOfWalk
import Derived.Deep.Cut
import Derived.Deep.CutRange
namespace Go.Proofs.YtnbjfdnhddkhpaaDoor
open Go.RowKit Go.Proofs.YtnbjfdnhddkhpaaDoorW.PrintWords
set_option maxRecDepth 100000 in
set_option maxHeartbeats 4000000 in
theorem least_walk (A : Option Addr) (n c : Nat) (zs : List Int) (w : World) (hr : IsRow .u64 w A n c zs) (_hn : n * 8 ≤ 140737488351232) (hT : Lib.TabIs Tryd.prog w "math/bits.deBruijn64tab" .u8 tab64) :
    Calls Tryd.prog 4 #[.slice A n c] w fun e w' => e = .returned (.bool true) ∧ Below w.heap.size w w' := by
  obtain ⟨rows, hlen, hI, hcap⟩ := hr.nums64
  have HT := Lib.hid (tab_of hT)
  have HI := Lib.hid hI
  have HN := Lib.hid hlen.symm
  have HX := Lib.hid hI.1
  clear hI hlen hT hr
  by_cases hbig : 64 < n
  · have d1 : decide (64 < (n : Int)) = true := by simp; omega
    go_enter Tryd.func4, Tryd.ntmps4
    go_wp2_with fail
    refine (alive_any _ HT.out).mono ?_
    rintro e w1 ⟨rfl, hb1⟩
    have HB1 := Lib.hid hb1
    clear hb1
    go_wp2
    go_ret
    exact ⟨rfl, HB1.out⟩
  have d1 : decide (64 < (n : Int)) = false := by simp; omega
  go_enter Tryd.func4, Tryd.ntmps4
  go_wp2_with fail
  refine (check_any A n c rows HN.out hcap w HI.out HT.out).mono ?_
  rintro e w1 ⟨rfl, hb1⟩
  have HB1 := Lib.hid hb1
  have HT1 := Lib.hid (HT.out.below hb1)
  have HI1 := Lib.hid (HI.out.below hb1)
  have HZ := Lib.hid (check_zero HX.out)
  generalize checkR rows = r at HZ
  clear hb1
  by_cases hr0 : r = 0
  · have HF := Lib.hid (HZ.out.1 hr0)
    subst hr0
    clear HZ
    have HA := Lib.hid (alive_any w1 HT1.out)
    go_wp2_with fail
    go_loop [4] (fun v => ∃ a : Nat, a ≤ n ∧ v = .int .u64 (a : Int)) (fun v => n - (intOf v).toNat)
    case atStart => exact ⟨0, by omega, rfl⟩
    case round =>
      obtain ⟨a, ha, rfl⟩ := hrel
      by_cases han : a < n
      · have da : decide ((a : Int) < (n : Int)) = true := by simp; omega
        go_wp2_with fail
        go_loop [5] (fun v => ∃ b : Nat, b ≤ n ∧ v = .int .u64 (b : Int)) (fun v => n - (intOf v).toNat)
        case atStart => exact ⟨0, by omega, rfl⟩
        case round =>
          obtain ⟨b, hb, rfl⟩ := hrel
          by_cases hbn : b < n
          · have db : decide ((b : Int) < (n : Int)) = true := by simp; omega
            have HONE := Lib.hid (one_least HF.out (a := a) (b := b) (by rw [← HN.out]; exact han) (by rw [← HN.out]; exact hbn))
            have HGRE := Lib.hid (one_greatest HF.out (a := a) (b := b) (by rw [← HN.out]; exact han) (by rw [← HN.out]; exact hbn))
            rw [← HN.out] at HONE HGRE
            go_wp2_with fail
            go_loop [6, 7, 8] (fun u d v => ∃ c : Nat, c ≤ n ∧ v = .int .u64 (c : Int) ∧ u = .int .i64 ((cnt (fun c => upTo rows a b c n) c : Nat) : Int) ∧ d = .int .i64 ((cnt (fun c => dnTo rows a b c n) c : Nat) : Int)) (fun _ _ v => n - (intOf v).toNat)
            case atStart => exact ⟨0, by omega, rfl, rfl, rfl⟩
            case round =>
              obtain ⟨c, hc, rfl, rfl, rfl⟩ := hrel
              by_cases hcn : c < n
              · have dc : decide ((c : Int) < (n : Int)) = true := by simp; omega
                have HU0 := Lib.hid (upTo_zero rows a b c)
                have HD0 := Lib.hid (dnTo_zero rows a b c)
                obtain ⟨q1, hq1⟩ : ∃ q, rowB rows a c = q := ⟨_, rfl⟩
                obtain ⟨q2, hq2⟩ : ∃ q, rowB rows b c = q := ⟨_, rfl⟩
                obtain ⟨q3, hq3⟩ : ∃ q, rowB rows c a = q := ⟨_, rfl⟩
                obtain ⟨q4, hq4⟩ : ∃ q, rowB rows c b = q := ⟨_, rfl⟩
                rw [hq1, hq2] at HU0
                rw [hq3, hq4] at HD0
                go_upto_region 15 with fail
                go_cut [9] from 39 to 48 (fun u wx => u = .bool (upTo rows a b c 0) ∧ w1 = wx)
                case first =>
                  clear HA
                  clear hq3 hq4
                  cases q1 <;> cases q2 <;> ((go_wp2_with (go_at_call 10; refine (below_any A n _ rows HN.out hcap _ _ (by omega) (by omega) w1 HI1.out).mono ?_; rintro e w' ⟨rfl, rfl⟩)); go_meet; exact ⟨by rw [HU0.out]; rfl, rfl⟩)
                case rest =>
                  obtain ⟨rfl, rfl⟩ := hcut
                  clear hq1 hq2
                  go_upto_region 16 with fail
                  go_cut [10] from 49 to 58 (fun u wx => u = .bool (dnTo rows a b c 0) ∧ w1 = wx)
                  case first =>
                    clear HA
                    cases q3 <;> cases q4 <;> ((go_wp2_with (go_at_call 10; refine (below_any A n _ rows HN.out hcap _ _ (by omega) (by omega) w1 HI1.out).mono ?_; rintro e w' ⟨rfl, rfl⟩)); go_meet; exact ⟨by rw [HD0.out]; rfl, rfl⟩)
                  case rest =>
                    obtain ⟨rfl, rfl⟩ := hcut
                    clear hq3 hq4 HU0 HD0
                    go_wp2_with fail
                    go_loop [9, 10, 11] (fun u v x => ∃ d : Nat, d ≤ n ∧ x = .int .u64 (d : Int) ∧ u = .bool (upTo rows a b c d) ∧ v = .bool (dnTo rows a b c d)) (fun _ _ x => n - (intOf x).toNat)
                    case atStart => exact ⟨0, by omega, rfl, rfl, rfl⟩
                    case round =>
                      obtain ⟨d, hd, rfl, rfl, rfl⟩ := hrel
                      have HUS := Lib.hid (upTo_succ rows a b c d)
                      have HDS := Lib.hid (dnTo_succ rows a b c d)
                      have HUN := Lib.hid (fun h => upTo_no (rows := rows) (a := a) (b := b) (c := c) (d := d) h n hd)
                      have HDN := Lib.hid (fun h => dnTo_no (rows := rows) (a := a) (b := b) (c := c) (d := d) h n hd)
                      obtain ⟨u, hu⟩ : ∃ u, u = upTo rows a b c d := ⟨_, rfl⟩
                      obtain ⟨v, hv⟩ : ∃ v, v = dnTo rows a b c d := ⟨_, rfl⟩
                      have HU1 := Lib.hid hu
                      have HV1 := Lib.hid hv
                      rw [← hu] at HUS HUN ⊢
                      rw [← hv] at HDS HDN ⊢
                      clear hu hv
                      by_cases hdn : d < n
                      · have dd : decide ((d : Int) < (n : Int)) = true := by simp; omega
                        by_cases huv : (u || v) = true
                        · obtain ⟨q1, hq1⟩ : ∃ q, rowB rows a d = q := ⟨_, rfl⟩
                          obtain ⟨q2, hq2⟩ : ∃ q, rowB rows b d = q := ⟨_, rfl⟩
                          obtain ⟨q3, hq3⟩ : ∃ q, rowB rows c d = q := ⟨_, rfl⟩
                          obtain ⟨r1, hr1⟩ : ∃ q, rowB rows d a = q := ⟨_, rfl⟩
                          obtain ⟨r2, hr2⟩ : ∃ q, rowB rows d b = q := ⟨_, rfl⟩
                          obtain ⟨r3, hr3⟩ : ∃ q, rowB rows d c = q := ⟨_, rfl⟩
                          rw [hq1, hq2, hq3] at HUS
                          rw [hr1, hr2, hr3] at HDS
                          rcases (show (u = true ∧ v = true) ∨ (u = true ∧ v = false) ∨ (u = false ∧ v = true) by revert huv; cases u <;> cases v <;> simp) with ⟨rfl, rfl⟩ | ⟨rfl, rfl⟩ | ⟨rfl, rfl⟩
                          all_goals
                            clear huv HUN HDN
                            go_upto_region 20 with fail
                            go_cut [9] from 70 to 90 (fun u wx => u = .bool (upTo rows a b c (d + 1)) ∧ w1 = wx)
                            case first =>
                              clear HA
                              clear hr1 hr2 hr3
                              cases q1 <;> cases q2 <;> cases q3 <;> ((go_wp2_with (go_at_call 10; refine (below_any A n _ rows HN.out hcap _ _ (by omega) (by omega) w1 HI1.out).mono ?_; rintro e w' ⟨rfl, rfl⟩)); go_meet; exact ⟨by rw [HUS.out]; rfl, rfl⟩)
                            case rest =>
                              obtain ⟨rfl, rfl⟩ := hcut
                              clear hq1 hq2 hq3
                              clear HA
                              cases r1 <;> cases r2 <;> cases r3
                              all_goals
                                go_wp2_with (go_at_call 10; refine (below_any A n _ rows HN.out hcap _ _ (by omega) (by omega) w1 HI1.out).mono ?_; rintro e w' ⟨rfl, rfl⟩)
                                go_round
                                case rel => exact ⟨d + 1, by omega, by go_num, rfl, by rw [HDS.out]; rfl⟩
                                case measure => simp [intOf]; omega
                        · have huF : u = false := by cases u <;> simp_all
                          have hvF : v = false := by cases v <;> simp_all
                          have hu2 : upTo rows a b c n = false := HUN.out huF
                          have hv2 : dnTo rows a b c n = false := HDN.out hvF
                          have HC1 := Lib.hid (show cnt (fun c => upTo rows a b c n) (c + 1) = cnt (fun c => upTo rows a b c n) c by rw [cnt, hu2]; rfl)
                          have HC2 := Lib.hid (show cnt (fun c => dnTo rows a b c n) (c + 1) = cnt (fun c => dnTo rows a b c n) c by rw [cnt, hv2]; rfl)
                          subst huF hvF
                          clear hu2 hv2 huv HUN HDN HUS HDS
                          go_wp2
                          go_round
                          case rel => exact ⟨c + 1, by omega, by go_num, by rw [HC1.out], by rw [HC2.out]⟩
                          case measure => simp [intOf]; omega
                      · obtain rfl : n = d := by omega
                        have dd : decide ((n : Int) < (n : Int)) = false := by simp
                        have HC1 := Lib.hid (show cnt (fun c => upTo rows a b c n) (c + 1) = cnt (fun c => upTo rows a b c n) c + (if u then 1 else 0) by rw [cnt, ← HU1.out])
                        have HC2 := Lib.hid (show cnt (fun c => dnTo rows a b c n) (c + 1) = cnt (fun c => dnTo rows a b c n) c + (if v then 1 else 0) by rw [cnt, ← HV1.out])
                        have l1 := cnt_le (fun c => upTo rows a b c n) c
                        have l2 := cnt_le (fun c => dnTo rows a b c n) c
                        generalize cnt (fun c => upTo rows a b c n) c = k1 at *
                        generalize cnt (fun c => dnTo rows a b c n) c = k2 at *
                        clear HUN HDN HUS HDS
                        cases u <;> cases v
                        all_goals
                          go_wp2
                          go_round
                          case rel => exact ⟨c + 1, by omega, by go_num, by rw [HC1.out]; simp, by rw [HC2.out]; simp⟩
                          case measure => simp [intOf]; omega
              · obtain rfl : n = c := by omega
                have dc : decide ((n : Int) < (n : Int)) = false := by simp
                rw [HONE.out, HGRE.out]
                go_wp2
                go_round
                case rel => exact ⟨b + 1, by omega, by go_num⟩
                case measure => simp [intOf]; omega
          · obtain rfl : n = b := by omega
            have db : decide ((n : Int) < (n : Int)) = false := by simp
            go_wp2
            go_round
            case rel => exact ⟨a + 1, by omega, by go_num⟩
            case measure => simp [intOf]; omega
      · obtain rfl : n = a := by omega
        have da : decide ((n : Int) < (n : Int)) = false := by simp
        go_wp2_with fail
        refine HA.out.mono ?_
        rintro e w2 ⟨rfl, hb2⟩
        have HB2 := Lib.hid (on HB1.out hb2)
        clear hb2
        go_wp2
        go_ret
        exact ⟨rfl, HB2.out⟩
  · have dr : ((r : Int) != 0) = true := by simp; omega
    clear HZ
    go_wp2_with fail
    refine (alive_any _ HT1.out).mono ?_
    rintro e w2 ⟨rfl, hb2⟩
    have HB2 := Lib.hid (on HB1.out hb2)
    clear hb2
    go_wp2
    go_ret
    exact ⟨rfl, HB2.out⟩
end Go.Proofs.YtnbjfdnhddkhpaaDoor
