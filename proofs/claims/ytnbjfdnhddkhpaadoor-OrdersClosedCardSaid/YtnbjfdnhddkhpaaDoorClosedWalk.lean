/- What Close tells is an order, has all pairs, and is the least that does: the law's walk. -/
import Derived.Test.YtnbjfdnhddkhpaaDoorClosedP
import Derived.Test.YtnbjfdnhddkhpaaDoorOfWalk
import Derived.Deep.Cut
import Derived.Deep.CutRange
namespace Go.Proofs.YtnbjfdnhddkhpaaDoor
open Go.RowKit Go.Proofs.YtnbjfdnhddkhpaaDoorW.PrintWords
theorem prs_at {w : World} {b o : Nat} {ps : List (Int × Int)} {k : Nat} (h : Prs w (some ⟨b, o, none⟩) ps) (hk : k < ps.length) {x y : Int} (e : ps[k] = (x, y)) : w.cell? ⟨b, o + k * 2, none⟩ = some (.int .i64 x) ∧ w.cell? ⟨b, o + k * 2 + 1, none⟩ = some (.int .i64 y) := by
  obtain ⟨b', o', e', c0, c1, _⟩ := h k hk
  obtain ⟨rfl, rfl⟩ : b = b' ∧ o = o' := by simpa using e'
  rw [e] at c0 c1
  exact ⟨c0, c1⟩
set_option maxRecDepth 100000 in
set_option maxHeartbeats 4000000 in
theorem closed_in (n : Int) (A : Option Addr) (m c : Nat) (ps : List (Int × Int)) (z0 z1 : Nat) (hm : m = ps.length) (hmm : m ≤ 9223372036854775807) (hz0 : z0 < 256) (hz1 : z1 < 256) (w : World) (hP : Prs w A ps) (hnil : A = none → c = 0) (hT : Tab w) :
    Calls Tryd.prog 5 #[.int .i64 n, .slice A m c, .agg #[.int .u8 (z0 : Int), .int .u8 (z1 : Int)]] w fun e w' => e = .returned (.bool true) ∧ Below w.heap.size w w' := by
  have HP := Lib.hid hP
  have HM := Lib.hid hm
  have HT := Lib.hid hT
  have HNIL := Lib.hid hnil
  clear hP hm hT hnil
  obtain ⟨O, hO⟩ : ∃ O, O = Obj.cells #[.int .u8 (z0 : Int), .int .u8 (z1 : Int)] 32 := ⟨_, rfl⟩
  have HB0 := Lib.hid ((Below.refl w.heap.size w).alloc (Nat.le_refl _) O)
  by_cases hbig : 300 < m
  · have d1 : decide (300 < (m : Int)) = true := by simp; omega
    go_enter Tryd.func5, Tryd.ntmps5
    go_wp2_with fail
    rw [← hO]
    refine (alive_any _ (HT.out.below HB0.out)).mono ?_
    rintro e w1 ⟨rfl, hb1⟩
    have HB1 := Lib.hid (on HB0.out hb1)
    clear hb1
    go_wp2
    go_ret
    exact ⟨rfl, HB1.out⟩
  have d1 : decide (300 < (m : Int)) = false := by simp; omega
  go_enter Tryd.func5, Tryd.ntmps5
  go_wp2_with fail
  rw [← hO]
  refine (close_all n A m c ps HM.out (by omega) _ (HP.out.below HB0.out)).mono ?_
  rintro e w1 ⟨hb1, hcase⟩
  have HB1 := Lib.hid (on HB0.out hb1)
  have HC0 := Lib.hid (hb1.block w.heap.size (by show _ < (w.heap.push O).size; rw [Array.size_push]; omega))
  clear hb1
  rcases hcase with ⟨_, rfl⟩ | ⟨_, _, rfl⟩ | ⟨⟨k1, k2, k3⟩, k4, B, rows, rfl, k5, k6, k7⟩
  · go_wp2_with fail
    refine (alive_any _ (HT.out.below HB1.out)).mono ?_
    rintro e w2 ⟨rfl, hb2⟩
    have HB2 := Lib.hid (on HB1.out hb2)
    clear hb2
    go_wp2
    go_ret
    exact ⟨rfl, HB2.out⟩
  · go_wp2_with fail
    refine (alive_any _ (HT.out.below HB1.out)).mono ?_
    rintro e w2 ⟨rfl, hb2⟩
    have HB2 := Lib.hid (on HB1.out hb2)
    clear hb2
    go_wp2
    go_ret
    exact ⟨rfl, HB2.out⟩
  · obtain ⟨N, rfl⟩ := Int.eq_ofNat_of_zero_le (show 0 ≤ n by omega)
    rw [Int.toNat_natCast] at k3 k4 k6
    have h1 : 1 ≤ N := by omega
    have h64 : N ≤ 64 := by omega
    have HIR := Lib.hid k3
    have HAN := Lib.hid k4
    have HCL := Lib.hid k6
    have HNU := Lib.hid (nums_cells k7 k6.lt)
    have HK7 := Lib.hid k7
    clear k1 k2 k3 k4 k5 k6 k7
    have HBEL := Lib.hid (fun (W : World) (x y : Nat) (hx : x < 18446744073709551616) (hy : y < 18446744073709551616) (h : Below w1.heap.size w1 W) => below_any (some ⟨B, 0, none⟩) N N rows HCL.out.len.symm (by omega) x y hx hy W (HNU.out.below h))
    have e0 : ((N : Int) != (N : Int)) = false := by simp
    have e1 : decide ((N : Int) < 1) = false := by simp; omega
    have e2 : decide (64 < (N : Int)) = false := by simp; omega
    rw [Int.toNat_natCast]
    go_wp2_with fail
    go_loopw [9] (fun v wr => ∃ k : Nat, k ≤ m ∧ v = .int .i64 k ∧ Hid (Below w1.heap.size w1 wr)) (fun v _ => m - (intOf v).toNat)
    case atStart => exact ⟨0, by omega, rfl, Below.refl _ _⟩
    case round =>
      obtain ⟨k, hk, rfl, HB⟩ := hrel
      by_cases hkm : k < m
      · have hkl : k < ps.length := by rw [← HM.out]; exact hkm
        have hmem := List.getElem_mem hkl
        obtain ⟨⟨x0, x1⟩, y0, y1⟩ := HIR.out _ hmem
        obtain ⟨x, hx⟩ := Int.eq_ofNat_of_zero_le x0
        obtain ⟨y, hy⟩ := Int.eq_ofNat_of_zero_le y0
        have hxy : ps[k] = ((x : Int), (y : Int)) := by rw [← hx, ← hy]
        rw [hx] at x1
        rw [hy] at y1
        have hbel := HCL.out.pair h64 (x := x) (y := y) (by omega) (by omega) (by rw [← hxy]; exact hmem)
        have HC1 := Lib.hid (fun W h => HBEL.out W x y (by omega) (by omega) h)
        rw [hbel] at HC1
        obtain ⟨b, o, rfl, _⟩ := HP.out k hkl
        obtain ⟨c0, c1⟩ := prs_at ((HP.out.below HB1.out).below HB.out) hkl hxy
        have u1 : IntKind.u64.wrap (x : Int) = (x : Int) := by rw [IntKind.wrap_u64]; omega
        have u2 : IntKind.u64.wrap (y : Int) = (y : Int) := by rw [IntKind.wrap_u64]; omega
        have i1 : (0 : Int) ≤ (k : Int) := by omega
        have i2 : (k : Int) < (m : Int) := by omega
        have f1 : decide ((x : Int) < 0) = false := by simp
        have f2 : decide ((y : Int) < 0) = false := by simp
        clear hxy hx hy hbel hmem x0 y0
        go_wp2_with fail
        go_quiet ((go_at_call 10; exact Calls.quiet_of_same ((HC1.out _ (pw_below_drewN HB.out _)).mono (fun e w' h => ⟨h.1, h.2.symm⟩))))
        go_wp2
        go_roundw
        case rel => exact ⟨k + 1, by omega, by go_num, pw_below_drewN HB.out _⟩
        case measure => simp [intOf]; omega
      · obtain rfl : m = k := by omega
        have HBL := Lib.hid (fun x y hx hy => HBEL.out wr x y hx hy HB.out)
        go_wp2_with fail
        go_loop [10] (fun v => ∃ a : Nat, a ≤ N ∧ v = .int .u64 (a : Int)) (fun v => N - (intOf v).toNat)
        case atStart => exact ⟨0, by omega, rfl⟩
        case round =>
          obtain ⟨a, ha, rfl⟩ := hrel
          by_cases haN : a < N
          · have da : decide ((a : Int) < (N : Int)) = true := by simp; omega
            go_wp2_with fail
            go_loop [11] (fun v => ∃ b : Nat, b ≤ N ∧ v = .int .u64 (b : Int)) (fun v => N - (intOf v).toNat)
            case atStart => exact ⟨0, by omega, rfl⟩
            case round =>
              obtain ⟨b, hb, rfl⟩ := hrel
              by_cases hbN : b < N
              · have db : decide ((b : Int) < (N : Int)) = true := by simp; omega
                have HQ1 := Lib.hid (HBL.out a b (by omega) (by omega))
                have HQ2 := Lib.hid (HBL.out b a (by omega) (by omega))
                have hboth := HCL.out.both HAN.out h64 haN hbN
                have HON := Lib.hid (fun (c : Nat) (hc : c < N) => HCL.out.on h64 haN hbN hc)
                obtain ⟨q1, hq1⟩ : ∃ q, q = rowB rows a b := ⟨_, rfl⟩
                obtain ⟨q2, hq2⟩ : ∃ q, q = rowB rows b a := ⟨_, rfl⟩
                rw [← hq1] at HQ1 hboth HON
                rw [← hq2] at HQ2 hboth
                have heq : ((a : Int) == (b : Int)) = (q1 && q2) := by
                  rw [hboth, Bool.eq_iff_iff]
                  simp
                  omega
                clear hq1 hq2 hboth
                cases q1 with
                | false =>
                  have e3 : ((a : Int) == (b : Int)) = false := heq
                  clear heq HON
                  go_wp2_with fail
                  refine HQ1.out.mono ?_
                  rintro e w2 ⟨rfl, rfl⟩
                  go_wp2_with fail
                  go_loop [12] (fun v => ∃ c : Nat, c ≤ N ∧ v = .int .u64 (c : Int)) (fun v => N - (intOf v).toNat)
                  case atStart => exact ⟨0, by omega, rfl⟩
                  case round =>
                    obtain ⟨c, hc, rfl⟩ := hrel
                    by_cases hcN : c < N
                    · have dc : decide ((c : Int) < (N : Int)) = true := by simp; omega
                      go_wp2_with fail
                      refine HQ1.out.mono ?_
                      rintro e w2 ⟨rfl, rfl⟩
                      go_wp2
                      go_round
                      case rel => exact ⟨c + 1, by omega, by go_num⟩
                      case measure => simp [intOf]; omega
                    · obtain rfl : N = c := by omega
                      have dc : decide ((N : Int) < (N : Int)) = false := by simp
                      go_wp2
                      go_round
                      case rel => exact ⟨b + 1, by omega, by go_num⟩
                      case measure => simp [intOf]; omega
                | true =>
                  cases q2
                  all_goals
                    first
                      | (have e3 : ((a : Int) == (b : Int)) = false := heq)
                      | (have e3 : ((a : Int) == (b : Int)) = true := heq)
                    clear heq
                    go_wp2_with fail
                    refine HQ1.out.mono ?_
                    rintro e w2 ⟨rfl, rfl⟩
                    go_wp2_with fail
                    refine HQ2.out.mono ?_
                    rintro e w2 ⟨rfl, rfl⟩
                    go_wp2_with fail
                    go_loop [12] (fun v => ∃ c : Nat, c ≤ N ∧ v = .int .u64 (c : Int)) (fun v => N - (intOf v).toNat)
                    case atStart => exact ⟨0, by omega, rfl⟩
                    case round =>
                      obtain ⟨c, hc, rfl⟩ := hrel
                      by_cases hcN : c < N
                      · have dc : decide ((c : Int) < (N : Int)) = true := by simp; omega
                        have HQ3 := Lib.hid (HBL.out b c (by omega) (by omega))
                        have HQ4 := Lib.hid (HBL.out a c (by omega) (by omega))
                        have HON1 := Lib.hid (fun h => HON.out c hcN (by first | rfl | trivial) h)
                        obtain ⟨q3, hq3⟩ : ∃ q, q = rowB rows b c := ⟨_, rfl⟩
                        rw [← hq3] at HQ3 HON1
                        clear hq3
                        cases q3 with
                        | false =>
                          go_wp2_with fail
                          refine HQ1.out.mono ?_
                          rintro e w2 ⟨rfl, rfl⟩
                          go_wp2_with fail
                          refine HQ3.out.mono ?_
                          rintro e w2 ⟨rfl, rfl⟩
                          go_wp2
                          go_round
                          case rel => exact ⟨c + 1, by omega, by go_num⟩
                          case measure => simp [intOf]; omega
                        | true =>
                          rw [HON1.out rfl] at HQ4
                          go_wp2_with fail
                          refine HQ1.out.mono ?_
                          rintro e w2 ⟨rfl, rfl⟩
                          go_wp2_with fail
                          refine HQ3.out.mono ?_
                          rintro e w2 ⟨rfl, rfl⟩
                          go_wp2_with fail
                          refine HQ4.out.mono ?_
                          rintro e w2 ⟨rfl, rfl⟩
                          go_wp2
                          go_round
                          case rel => exact ⟨c + 1, by omega, by go_num⟩
                          case measure => simp [intOf]; omega
                      · obtain rfl : N = c := by omega
                        have dc : decide ((N : Int) < (N : Int)) = false := by simp
                        go_wp2
                        go_round
                        case rel => exact ⟨b + 1, by omega, by go_num⟩
                        case measure => simp [intOf]; omega
              · obtain rfl : N = b := by omega
                have db : decide ((N : Int) < (N : Int)) = false := by simp
                go_wp2
                go_round
                case rel => exact ⟨a + 1, by omega, by go_num⟩
                case measure => simp [intOf]; omega
          · obtain rfl : N = a := by omega
            have da : decide ((N : Int) < (N : Int)) = false := by simp
            have hO2 : wr.heap[w.heap.size]? = some O := by
              rw [HB.out.block w.heap.size (Nat.lt_of_lt_of_le (Nat.lt_succ_self _) (by have h1 := HB0.out.size; have h2 := (Array.getElem?_eq_some_iff.1 (HC0.out.trans (heap_alloc_new w O))).1; omega)), HC0.out]
              exact heap_alloc_new w O
            rw [hO] at hO2
            have c0 : wr.cell? ⟨w.heap.size, 0, none⟩ = some (.int .u8 (z0 : Int)) := by rw [cell_of_row _ _ _ _ _ _ hO2]; rfl
            have c1 : wr.cell? ⟨w.heap.size, 1, none⟩ = some (.int .u8 (z1 : Int)) := by rw [cell_of_row _ _ _ _ _ _ hO2]; rfl
            have nz : ¬ N = 0 := by omega
            have nz2 : ¬ (N : Int) = 0 := by omega
            clear hO2
            go_upto_region 28 with fail
            obtain ⟨a, hza⟩ : ∃ a : Nat, a = z0 % N := ⟨_, rfl⟩
            obtain ⟨b, hzb⟩ : ∃ b : Nat, b = z1 % N := ⟨_, rfl⟩
            have haN : a < N := by rw [hza]; exact Nat.mod_lt _ (by omega)
            have hbN : b < N := by rw [hzb]; exact Nat.mod_lt _ (by omega)
            have ea : (z0 : Int) % (N : Int) = (a : Int) := by rw [hza]; rfl
            have eb : (z1 : Int) % (N : Int) = (b : Int) := by rw [hzb]; rfl
            rw [ea, eb]
            clear ea eb hza hzb c0 c1 nz nz2
            have HPR := Lib.hid ((HP.out.below HB1.out).below HB.out)
            go_wp2_with (first
              | (at_builtin; refine wpList_pown (w0 := wr) (base := wr.heap.size) rfl (.const (.slice none 0 0)) (.tmp 150) rfl rfl (POwn.nil _ _) A m c rfl HM.out HPR.out (fun h => ⟨rfl, HNIL.out h⟩) (by rw [← HM.out]; simp; omega) (Nat.le_refl _) (Below.refl _ _) ?_; intro v5 w5 ho5 hb5; have HO5 := Lib.hid ((show POwn wr.heap.size w5 v5 ps from ho5).below (lit_below w5 (.cells #[.int .i64 (a : Int), .int .i64 (b : Int)] 35))); have HB5 := Lib.hid (hb5.alloc hb5.size (.cells #[.int .i64 (a : Int), .int .i64 (b : Int)] 35)); have HL5 := Lib.hid (prs_lit w5 a b (by omega) (by omega)); clear ho5 hb5)
              | (at_builtin; refine wpList_pown (w0 := wr) (base := wr.heap.size) rfl (.tmp 151) (.tmp 155) rfl rfl HO5.out (some ⟨w5.heap.size, 0, none⟩) 1 1 rfl rfl HL5.out (fun h => by cases h) (by rw [← HM.out]; simp; omega) HB5.out.size HB5.out ?_; intro v6 w6 ho6 hb6; obtain ⟨A6, c6, rfl, hp6⟩ := ho6.prs; have hlen6 : (ps ++ [((a : Int), (b : Int))]).length = m + 1 := (by rw [List.length_append, ← HM.out, List.length_singleton]); rw [hlen6]; have HLEN6 := Lib.hid hlen6; have HP6 := Lib.hid hp6; have HB6 := Lib.hid hb6; clear ho6 hb6 hp6 hlen6 HO5 HB5 HL5)
              | fail)
            refine (close_all (N : Int) A6 (m + 1) c6 (ps ++ [((a : Int), (b : Int))]) HLEN6.out.symm (by omega) _ HP6.out).mono ?_
            rintro e w7 ⟨hb7, hcase⟩
            have HB7 := Lib.hid (on HB6.out hb7)
            have HBN := Lib.hid (on HB1.out (on HB.out HB7.out))
            have HBEL7 := Lib.hid (fun x y hx hy => HBEL.out w7 x y hx hy (on HB.out HB7.out))
            have HR1 := Lib.hid (HCL.out.row h64 haN hbN)
            have HR2 := Lib.hid (HCL.out.row h64 hbN haN)
            have HQ1 := Lib.hid (HBEL7.out a b (by omega) (by omega))
            have HQ2 := Lib.hid (HBEL7.out b a (by omega) (by omega))
            have HAL := Lib.hid (alive_any w7 (HT.out.below HBN.out))
            clear hb7 HB6 HBL
            obtain ⟨q1, hq1⟩ : ∃ q, q = rowB rows a b := ⟨_, rfl⟩
            obtain ⟨q2, hq2⟩ : ∃ q, q = rowB rows b a := ⟨_, rfl⟩
            rw [← hq1] at HQ1 HR1
            rw [← hq2] at HQ2 HR2
            clear hq1 hq2
            have u1 : IntKind.u64.wrap (a : Int) = (a : Int) := by rw [IntKind.wrap_u64]; omega
            have u2 : IntKind.u64.wrap (b : Int) = (b : Int) := by rw [IntKind.wrap_u64]; omega
            cases q1 with
            | true =>
              have HK := Lib.hid (HR1.out.1 rfl)
              have HNN := Lib.hid (HIR.out.more haN hbN)
              have HAA := Lib.hid (anti_known HK.out HAN.out)
              rcases hcase with ⟨h, _⟩ | ⟨_, h, _⟩ | ⟨_, _, B8, rows8, rfl, k5, k6, k7⟩
              · exfalso
                rcases h with h | h | h
                · omega
                · omega
                · rw [Int.toNat_natCast] at h
                  exact h HNN.out
              · exfalso
                rw [Int.toNat_natCast] at h
                exact h HAA.out
              · rw [Int.toNat_natCast] at k6
                rw [Int.toNat_natCast]
                have HE := Lib.hid ((k6.known HK.out).uniq HCL.out)
                rw [HE.out] at k7
                have HN8 := Lib.hid (nums_cells k7 HCL.out.lt)
                clear k5 k6 k7
                go_wp2_with fail
                refine HQ1.out.mono ?_
                rintro e w8 ⟨rfl, rfl⟩
                go_wp2_with fail
                refine HAL.out.mono ?_
                rintro e w9 ⟨rfl, hb9⟩
                have HB9 := Lib.hid hb9
                have HN9 := Lib.hid (HN8.out.below hb9)
                clear hb9
                go_wp2_with fail
                refine (same_nums (some ⟨B8, 0, none⟩) N N (some ⟨B, 0, none⟩) N N rows rows HCL.out.len.symm HCL.out.len.symm (by omega) (by omega) _ HN9.out (HNU.out.below (on (on HB.out HB7.out) HB9.out))).mono ?_
                rintro e w10 ⟨rfl, hb10⟩
                have HB10 := Lib.hid (on HBN.out (on HB9.out hb10))
                have hd : decide (rows = rows) = true := by simp
                rw [hd]
                clear hb10
                go_wp2
                go_ret
                exact ⟨rfl, HB10.out⟩
            | false =>
              have HNK := Lib.hid (show ¬ Rch ps a b from fun h => by have := HR1.out.2 h; cases this)
              have HNN := Lib.hid (HIR.out.more haN hbN)
              have HAM := Lib.hid (anti_more HNK.out haN hbN HAN.out)
              rcases hcase with ⟨h, _⟩ | ⟨_, h, rfl⟩ | ⟨_, h, B8, rows8, rfl, k5, k6, k7⟩
              · exfalso
                rcases h with h | h | h
                · omega
                · omega
                · rw [Int.toNat_natCast] at h
                  exact h HNN.out
              · rw [Int.toNat_natCast] at h
                have h2 : q2 = true := HR2.out.2 (Classical.byContradiction fun hc => h (HAM.out.2 hc))
                subst h2
                clear h
                go_wp2_with fail
                refine HQ1.out.mono ?_
                rintro e w8 ⟨rfl, rfl⟩
                go_wp2_with fail
                refine HQ2.out.mono ?_
                rintro e w8 ⟨rfl, rfl⟩
                go_wp2_with fail
                refine HAL.out.mono ?_
                rintro e w9 ⟨rfl, hb9⟩
                have HB9 := Lib.hid (on HBN.out hb9)
                clear hb9
                go_wp2
                go_ret
                exact ⟨rfl, HB9.out⟩
              · rw [Int.toNat_natCast] at h k6
                have h2 : q2 = false := by
                  cases q2 with
                  | false => rfl
                  | true => exact absurd (HR2.out.1 rfl) (HAM.out.1 h)
                subst h2
                rw [Int.toNat_natCast]
                have HN8 := Lib.hid (nums_cells k7 k6.lt)
                have hab := (k6.row h64 haN hbN).2 more_self
                have HBEL8 := Lib.hid (fun (W : World) (h : Below w7.heap.size w7 W) => below_any (some ⟨B8, 0, none⟩) N N rows8 k6.len.symm (by omega) a b (by omega) (by omega) W (HN8.out.below h))
                rw [hab] at HBEL8
                clear h k5 k6 k7 hab
                go_wp2_with fail
                refine HQ1.out.mono ?_
                rintro e w8 ⟨rfl, rfl⟩
                go_wp2_with fail
                refine HQ2.out.mono ?_
                rintro e w8 ⟨rfl, rfl⟩
                go_wp2_with fail
                refine HAL.out.mono ?_
                rintro e w9 ⟨rfl, hb9⟩
                have HB9 := Lib.hid (on HBN.out hb9)
                have HL9 := Lib.hid hb9
                clear hb9
                go_wp2_with fail
                refine (HBEL8.out _ HL9.out).mono ?_
                rintro e w10 ⟨rfl, rfl⟩
                go_wp2
                go_ret
                exact ⟨rfl, HB9.out⟩
theorem closed_walk {H : Type} {enc : TypeId × Value → H} {base : Nat} {r : Reach} {b0 : Nat} {sp : Nat → Bool} {held : Bool} {P P2 : Prop} (n : Int) (v : Value) (d : DataW H) (p : List MemPlace) (v2 : Value) (d2 : DataW H) (p2 : List MemPlace) (W : World) (_ : (Lit.int .i64 n).wf = true)
    (ho : Value.okWide Tryd.prog W r b0 31 v) (ht : DataW.Trod enc Tryd.prog W base sp held 31 v d p) (_ : P) (ho2 : Value.okWide Tryd.prog W r b0 32 v2) (ht2 : DataW.Trod enc Tryd.prog W base sp held 32 v2 d2 p2) (_ : P2) (hT : Lib.TabIs Tryd.prog W "math/bits.deBruijn64tab" .u8 tab64) :
    Calls Tryd.prog 5 #[.int .i64 n, v, v2] W fun e w' => e = .returned (.bool true) ∧ Below W.heap.size W w' := by
  obtain ⟨a, len, cap, L, rfl, hl, hm, hp, hnil⟩ := open_pairs ⟨_, _, ho⟩ ht
  obtain ⟨xs, rfl, hs⟩ := Go.WideMaps.okWide_arr (n := 2) (e := 5) ⟨Tryd.underlying32, by kernel_rfl, by kernel_rfl, by kernel_rfl⟩ ho2
  obtain ⟨v0, v1, rfl⟩ : ∃ a b, xs = #[a, b] := by
    rcases xs with ⟨l⟩
    simp at hs
    match l, hs with
    | [a, b], _ => exact ⟨a, b, rfl⟩
  obtain ⟨fuel, hf⟩ := ht2
  obtain ⟨y0, y1, m, _, h0, h1⟩ := trod_array2 (e := 5) Tryd.underlying32 (by kernel_rfl) (c0 := v0) (c1 := v1) hf
  obtain ⟨a0, e0, _, wa⟩ := Go.DataW.trod_int Tryd.underlying5 h0
  obtain ⟨a1, e1, _, wb⟩ := Go.DataW.trod_int Tryd.underlying5 h1
  cases e0
  cases e1
  obtain ⟨x, rfl, hx⟩ : ∃ x : Nat, a0 = (x : Int) ∧ x < 256 := by
    simp [Lit.wf, IntKind.min, IntKind.max, IntKind.signed, IntKind.bits] at wa
    exact ⟨a0.toNat, by omega, by omega⟩
  obtain ⟨y, rfl, hy⟩ : ∃ x : Nat, a1 = (x : Int) ∧ x < 256 := by
    simp [Lit.wf, IntKind.min, IntKind.max, IntKind.signed, IntKind.bits] at wb
    exact ⟨a1.toNat, by omega, by omega⟩
  exact closed_in n a len cap L x y hl.symm (by unfold maxLen at hm; omega) hx hy W hp hnil (tab_of hT)
end Go.Proofs.YtnbjfdnhddkhpaaDoor
