/- The document's Check. -/
import Derived.Test.YtajilghlcfheiaaGreatDoorBndLeast
import Derived.Test.YtajilghlcfheiaaGreatDoorBndCheckWalk
namespace Go.Proofs.YtajilghlcfheiaaGreatDoor.Bnd
set_option maxRecDepth 20000
open Go.RowKit Go.Proofs.YtajilghlcfheiaaGreatDoorW.PrintWords
def wideAt (rows : List Nat) (i : Nat) : Bool := decide (rows.length < 64) && (rows.getD i 0 / 2 ^ rows.length != 0)
def tri (rows : List Nat) (i j k : Nat) : Bool := rowB rows i j && rowB rows j k && !rowB rows i k
def jBad (rows : List Nat) (i j : Nat) : Bool := ((i != j) && rowB rows i j && rowB rows j i) || (List.range rows.length).any fun k => tri rows i j k
def iBad (rows : List Nat) (i : Nat) : Bool := !rowB rows i i || (List.range rows.length).any fun j => jBad rows i j
def upB (rows : List Nat) (i j : Nat) : Bool := someAll (fun x y => rowB rows x y) (thoseTo (fun x => rowB rows i x && rowB rows j x) rows.length)
def dnB (rows : List Nat) (i j : Nat) : Bool := someAll (fun x y => rowB rows y x) (thoseTo (fun x => rowB rows x i && rowB rows x j) rows.length)
def refR (rows : List Nat) : Nat :=
  if rows.length < 1 ∨ 64 < rows.length then 1
  else if ((List.range rows.length).any fun i => wideAt rows i) = true then 1
  else if ((List.range rows.length).any fun i => iBad rows i) = true then 9
  else if ((List.range rows.length).any fun i => (List.range rows.length).any fun j => !upB rows i j || !dnB rows i j) = true then 7
  else 0
theorem refR_small {rows : List Nat} (h : rows.length < 1 ∨ 64 < rows.length) : refR rows = 1 := by unfold refR; rw [if_pos h]
theorem refR_wide {rows : List Nat} (i : Nat) (hi : i < rows.length) (h : wideAt rows i = true) : refR rows = 1 := by
  unfold refR
  by_cases h1 : rows.length < 1 ∨ 64 < rows.length
  · rw [if_pos h1]
  · rw [if_neg h1, if_pos]
    rw [List.any_eq_true]
    exact ⟨i, List.mem_range.2 hi, h⟩
theorem refR_rest {rows : List Nat} (h1 : ¬ rows.length < 1) (h2 : rows.length ≤ 64) (h : ∀ i, i < rows.length → wideAt rows i = false) : refR rows = if ((List.range rows.length).any fun i => iBad rows i) = true then 9
  else if ((List.range rows.length).any fun i => (List.range rows.length).any fun j => !upB rows i j || !dnB rows i j) = true then 7
  else 0 := by
  unfold refR
  rw [if_neg (by omega), if_neg]
  rw [Bool.not_eq_true, List.any_eq_false]
  intro i hi
  rw [h i (List.mem_range.1 hi)]
  simp
theorem thoseTo_lt {p : Nat → Bool} {n x : Nat} (h : x ∈ thoseTo p n) : x < n := List.mem_range.1 (List.mem_filter.1 h).1
theorem any_no {n : Nat} {f : Nat → Bool} (h : ∀ i, i < n → f i = false) : ¬ ((List.range n).any f) = true := by
  rw [Bool.not_eq_true, List.any_eq_false]
  intro i hi
  rw [h i (List.mem_range.1 hi)]
  simp
theorem any_yes {n : Nat} {f : Nat → Bool} (i : Nat) (hi : i < n) (h : f i = true) : ((List.range n).any f) = true := by
  rw [List.any_eq_true]
  exact ⟨i, List.mem_range.2 hi, h⟩
theorem any_nof {n : Nat} {f : Nat → Bool} (h : ∀ i, i < n → f i = false) : ((List.range n).any f) = false := by
  have := any_no h
  simpa using this
theorem step_to {P : Nat → Prop} {i : Nat} (h : ∀ i', i' < i → P i') (hi : P i) : ∀ i', i' < i + 1 → P i' := fun i' h' => by
  by_cases e : i' = i
  · subst e
    exact hi
  · exact h i' (by omega)
set_option maxRecDepth 20000 in
set_option maxHeartbeats 8000000 in
theorem refcheck_any (A : Option Addr) (n c : Nat) (rows : List Nat) (hn : n = rows.length) (hmax : n ≤ 9223372036854775807) (w : World) (hI : Nums w A rows) : Calls Tryz.prog 120 #[.slice A n c] w fun e w' => e = .returned (.int .i64 ((refR rows : Nat) : Int)) ∧ Below w.heap.size w w' := by
  by_cases hs : n < 1 ∨ 64 < n
  · have HR := Lib.hid (refR_small (rows := rows) (by omega))
    by_cases h1 : n < 1
    · have d1 : decide ((n : Int) < 1) = true := by simp; omega
      clear hn hI
      go_enter Tryz.func120, Tryz.ntmps120
      go_wp2
      go_ret
      exact ⟨err_eq HR.out.symm, Below.refl _ _⟩
    · have d1 : decide ((n : Int) < 1) = false := by simp; omega
      have d2 : decide ((64 : Int) < (n : Int)) = true := by simp; omega
      clear hn hI
      go_enter Tryz.func120, Tryz.ntmps120
      go_wp2
      go_ret
      exact ⟨err_eq HR.out.symm, Below.refl _ _⟩
  · have d1 : decide ((n : Int) < 1) = false := by simp; omega
    have d2 : decide ((64 : Int) < (n : Int)) = false := by simp; omega
    have hn64 : n ≤ 64 := by omega
    obtain ⟨bb, off, rfl, _, hc⟩ := hI.2 (by omega)
    have HI := Lib.hid hI
    have HN := Lib.hid hn
    have HC := Lib.hid hc
    clear hI hn hc hmax
    go_enter Tryz.func120, Tryz.ntmps120
    go_wp2
    go_loop [4] (fun v => ∃ i : Nat, i ≤ n ∧ v = .int .i64 i ∧ Hid (∀ i', i' < i → wideAt rows i' = false)) (fun v => n - (intOf v).toNat)
    case atStart => exact ⟨0, by omega, rfl, fun i' h => by omega⟩
    case round =>
      obtain ⟨i, hi, rfl, H1⟩ := hrel
      by_cases hin : i < n
      · have hil : i < rows.length := by have := HN.out; omega
        have hck := HC.out i hil
        have hr := HI.out.1 rows[i] (List.getElem_mem hil)
        have hgd : rows.getD i 0 = rows[i] := by simp [List.getD, hil]
        generalize rows[i] = r at hck hr hgd
        have HW := Lib.hid (show wideAt rows i = (decide (n < 64) && (r / 2 ^ n != 0)) by unfold wideAt; rw [hgd, HN.out])
        have i1 : (0 : Int) ≤ (i : Int) := by omega
        have i2 : (i : Int) < (n : Int) := by omega
        by_cases h64 : n < 64
        · have d3 : decide ((n : Int) < 64) = true := by simp; omega
          have e1 : ((r : Int) / 2 ^ n != 0) = (r / 2 ^ n != 0) := by
            have e : (r : Int) / 2 ^ n = ((r / 2 ^ n : Nat) : Int) := by rw [Int.natCast_ediv, Int.natCast_pow]; rfl
            rw [e, Bool.eq_iff_iff]
            simp only [bne_iff_ne, ne_eq]
            generalize r / 2 ^ n = z
            omega
          obtain ⟨p, hp⟩ : ∃ p, p = (r / 2 ^ n != 0) := ⟨_, rfl⟩
          rw [← hp] at e1 HW
          clear hgd hp
          cases p with
          | false =>
            go_wp2
            go_round
            case rel => exact ⟨i + 1, by omega, by go_num, step_to H1.out (by rw [HW.out]; simp)⟩
            case measure => simp [intOf]; omega
          | true =>
            have HR := Lib.hid (refR_wide i hil (by rw [HW.out]; simp; omega))
            go_wp2
            go_ret
            exact ⟨err_eq HR.out.symm, Below.refl _ _⟩
        · have d3 : decide ((n : Int) < 64) = false := by simp; omega
          have HW2 := Lib.hid (show wideAt rows i = false by rw [HW.out]; simp; omega)
          clear hgd
          go_wp2
          go_round
          case rel => exact ⟨i + 1, by omega, by go_num, step_to H1.out HW2.out⟩
          case measure => simp [intOf]; omega
      · obtain rfl : i = n := by omega
        have HREST := Lib.hid (refR_rest (rows := rows) (by have := HN.out; omega) (by have := HN.out; omega) (fun i' h => H1.out i' (by have := HN.out; omega)))
        clear H1 HC
        generalize i = n at *
        have HRB := Lib.hid (fun x y (hx : x < 18446744073709551616) (hy : y < 18446744073709551616) => refbelow_any (some ⟨bb, off, none⟩) n c rows HN.out (by omega) x y hx hy w HI.out)
        go_wp2
        go_loop [5] (fun v => ∃ i : Nat, i ≤ n ∧ v = .int .u64 i ∧ Hid (∀ i', i' < i → iBad rows i' = false)) (fun v => n - (intOf v).toNat)
        case atStart => exact ⟨0, by omega, rfl, fun i' h => by omega⟩
        case round =>
          obtain ⟨i, hi, rfl, H1⟩ := hrel
          by_cases hin : i < n
          · have d3 : decide ((i : Int) < (n : Int)) = true := by simp; omega
            have HNO := Lib.hid (show iBad rows i = true → refR rows = 9 from fun h => by rw [HREST.out, if_pos (any_yes i (by have := HN.out; omega) h)])
            have HIB := Lib.hid (show iBad rows i = (!rowB rows i i || (List.range n).any fun j => jBad rows i j) by unfold iBad; rw [HN.out])
            have HC1 := Lib.hid (HRB.out i i (by omega) (by omega))
            obtain ⟨q1, hq1⟩ : ∃ q, q = rowB rows i i := ⟨_, rfl⟩
            rw [← hq1] at HC1 HIB
            clear hq1
            cases q1 with
            | false =>
              go_wp2_with fail
              refine HC1.out.mono ?_
              rintro e w1 ⟨rfl, rfl⟩
              go_wp2
              go_ret
              exact ⟨err_eq (HNO.out (by rw [HIB.out]; rfl)).symm, Below.refl _ _⟩
            | true =>
              go_wp2_with fail
              refine HC1.out.mono ?_
              rintro e w1 ⟨rfl, rfl⟩
              clear HC1
              go_wp2
              go_loop [6] (fun v => ∃ j : Nat, j ≤ n ∧ v = .int .u64 j ∧ Hid (∀ j', j' < j → jBad rows i j' = false)) (fun v => n - (intOf v).toNat)
              case atStart => exact ⟨0, by omega, rfl, fun i' h => by omega⟩
              case round =>
                obtain ⟨j, hj, rfl, H2⟩ := hrel
                by_cases hjn : j < n
                · have d4 : decide ((j : Int) < (n : Int)) = true := by simp; omega
                  have HNO2 := Lib.hid (show jBad rows i j = true → refR rows = 9 from fun h => HNO.out (by rw [HIB.out, any_yes j hjn h]; simp))
                  have HJB := Lib.hid (show jBad rows i j = (((i != j) && rowB rows i j && rowB rows j i) || (List.range n).any fun k => tri rows i j k) by unfold jBad; rw [HN.out])
                  have HC1 := Lib.hid (HRB.out i j (by omega) (by omega))
                  have HC2 := Lib.hid (HRB.out j i (by omega) (by omega))
                  have e1 : ((i : Int) != (j : Int)) = (i != j) := by
                    rw [Bool.eq_iff_iff]
                    simp
                    omega
                  obtain ⟨p1, hp1⟩ : ∃ p, p = (i != j) := ⟨_, rfl⟩
                  obtain ⟨p2, hp2⟩ : ∃ q, q = rowB rows i j := ⟨_, rfl⟩
                  obtain ⟨p3, hp3⟩ : ∃ q, q = rowB rows j i := ⟨_, rfl⟩
                  have HP2 := Lib.hid hp2
                  rw [← hp1] at e1 HJB
                  rw [← hp2] at HC1 HJB
                  rw [← hp3] at HC2 HJB
                  clear hp1 hp2 hp3
                  by_cases hbad : (p1 && p2 && p3) = true
                  · have HR := Lib.hid (HNO2.out (by rw [HJB.out, hbad]; rfl))
                    simp only [Bool.and_eq_true] at hbad
                    obtain ⟨⟨rfl, rfl⟩, rfl⟩ := hbad
                    go_wp2_with fail
                    refine HC1.out.mono ?_
                    rintro e w1 ⟨rfl, rfl⟩
                    go_wp2_with fail
                    refine HC2.out.mono ?_
                    rintro e w1 ⟨rfl, rfl⟩
                    go_wp2
                    go_ret
                    exact ⟨err_eq HR.out.symm, Below.refl _ _⟩
                  · have hbad2 : (p1 && p2 && p3) = false := by simpa using hbad
                    clear hbad HP2
                    cases p1 with
                    | false =>
                      clear HC1 HC2 hbad2
                      go_wp2
                      go_loop [7] (fun v => ∃ k : Nat, k ≤ n ∧ v = .int .u64 k ∧ Hid (∀ k', k' < k → tri rows i j k' = false)) (fun v => n - (intOf v).toNat)
                      case atStart => exact ⟨0, by omega, rfl, fun i' h => by omega⟩
                      case round =>
                        obtain ⟨k, hk, rfl, H3⟩ := hrel
                        by_cases hkn : k < n
                        · have d5 : decide ((k : Int) < (n : Int)) = true := by simp; omega
                          have HNO3 := Lib.hid (show tri rows i j k = true → refR rows = 9 from fun h => HNO2.out (by rw [HJB.out, any_yes k hkn h]; simp))
                          have HT := Lib.hid (show tri rows i j k = (rowB rows i j && rowB rows j k && !rowB rows i k) from rfl)
                          have HD1 := Lib.hid (HRB.out i j (by omega) (by omega))
                          have HD2 := Lib.hid (HRB.out j k (by omega) (by omega))
                          have HD3 := Lib.hid (HRB.out i k (by omega) (by omega))
                          obtain ⟨q1, hq1⟩ : ∃ q, q = rowB rows i j := ⟨_, rfl⟩
                          obtain ⟨q2, hq2⟩ : ∃ q, q = rowB rows j k := ⟨_, rfl⟩
                          obtain ⟨q3, hq3⟩ : ∃ q, q = rowB rows i k := ⟨_, rfl⟩
                          rw [← hq1] at HD1 HT
                          rw [← hq2] at HD2 HT
                          rw [← hq3] at HD3 HT
                          clear hq1 hq2 hq3
                          cases q1 with
                          | false =>
                            go_wp2_with fail
                            refine HD1.out.mono ?_
                            rintro e w1 ⟨rfl, rfl⟩
                            go_wp2
                            go_round
                            case rel => exact ⟨k + 1, by omega, by go_num, step_to H3.out (by rw [HT.out]; rfl)⟩
                            case measure => simp [intOf]; omega
                          | true =>
                            cases q2 with
                            | false =>
                              go_wp2_with fail
                              refine HD1.out.mono ?_
                              rintro e w1 ⟨rfl, rfl⟩
                              go_wp2_with fail
                              refine HD2.out.mono ?_
                              rintro e w1 ⟨rfl, rfl⟩
                              go_wp2
                              go_round
                              case rel => exact ⟨k + 1, by omega, by go_num, step_to H3.out (by rw [HT.out]; rfl)⟩
                              case measure => simp [intOf]; omega
                            | true =>
                              cases q3 with
                              | false =>
                                go_wp2_with fail
                                refine HD1.out.mono ?_
                                rintro e w1 ⟨rfl, rfl⟩
                                go_wp2_with fail
                                refine HD2.out.mono ?_
                                rintro e w1 ⟨rfl, rfl⟩
                                go_wp2_with fail
                                refine HD3.out.mono ?_
                                rintro e w1 ⟨rfl, rfl⟩
                                go_wp2
                                go_ret
                                exact ⟨err_eq (HNO3.out (by rw [HT.out]; rfl)).symm, Below.refl _ _⟩
                              | true =>
                                go_wp2_with fail
                                refine HD1.out.mono ?_
                                rintro e w1 ⟨rfl, rfl⟩
                                go_wp2_with fail
                                refine HD2.out.mono ?_
                                rintro e w1 ⟨rfl, rfl⟩
                                go_wp2_with fail
                                refine HD3.out.mono ?_
                                rintro e w1 ⟨rfl, rfl⟩
                                go_wp2
                                go_round
                                case rel => exact ⟨k + 1, by omega, by go_num, step_to H3.out (by rw [HT.out]; rfl)⟩
                                case measure => simp [intOf]; omega
                        · obtain rfl : k = n := by omega
                          have d5 : decide ((k : Int) < (k : Int)) = false := by simp
                          go_wp2
                          go_round
                          case rel => exact ⟨j + 1, by omega, by go_num, step_to H2.out (by rw [HJB.out, any_nof H3.out]; rfl)⟩
                          case measure => simp [intOf]; omega
                    | true =>
                      cases p2 with
                      | false =>
                        go_wp2_with fail
                        refine HC1.out.mono ?_
                        rintro e w1 ⟨rfl, rfl⟩
                        clear HC1 HC2 hbad2
                        go_wp2
                        go_loop [7] (fun v => ∃ k : Nat, k ≤ n ∧ v = .int .u64 k ∧ Hid (∀ k', k' < k → tri rows i j k' = false)) (fun v => n - (intOf v).toNat)
                        case atStart => exact ⟨0, by omega, rfl, fun i' h => by omega⟩
                        case round =>
                          obtain ⟨k, hk, rfl, H3⟩ := hrel
                          by_cases hkn : k < n
                          · have d5 : decide ((k : Int) < (n : Int)) = true := by simp; omega
                            have HNO3 := Lib.hid (show tri rows i j k = true → refR rows = 9 from fun h => HNO2.out (by rw [HJB.out, any_yes k hkn h]; simp))
                            have HT := Lib.hid (show tri rows i j k = (rowB rows i j && rowB rows j k && !rowB rows i k) from rfl)
                            have HD1 := Lib.hid (HRB.out i j (by omega) (by omega))
                            have HD2 := Lib.hid (HRB.out j k (by omega) (by omega))
                            have HD3 := Lib.hid (HRB.out i k (by omega) (by omega))
                            obtain ⟨q1, hq1⟩ : ∃ q, q = rowB rows i j := ⟨_, rfl⟩
                            obtain ⟨q2, hq2⟩ : ∃ q, q = rowB rows j k := ⟨_, rfl⟩
                            obtain ⟨q3, hq3⟩ : ∃ q, q = rowB rows i k := ⟨_, rfl⟩
                            rw [← hq1] at HD1 HT
                            rw [← hq2] at HD2 HT
                            rw [← hq3] at HD3 HT
                            clear hq1 hq2 hq3
                            cases q1 with
                            | false =>
                              go_wp2_with fail
                              refine HD1.out.mono ?_
                              rintro e w1 ⟨rfl, rfl⟩
                              go_wp2
                              go_round
                              case rel => exact ⟨k + 1, by omega, by go_num, step_to H3.out (by rw [HT.out]; rfl)⟩
                              case measure => simp [intOf]; omega
                            | true =>
                              cases q2 with
                              | false =>
                                go_wp2_with fail
                                refine HD1.out.mono ?_
                                rintro e w1 ⟨rfl, rfl⟩
                                go_wp2_with fail
                                refine HD2.out.mono ?_
                                rintro e w1 ⟨rfl, rfl⟩
                                go_wp2
                                go_round
                                case rel => exact ⟨k + 1, by omega, by go_num, step_to H3.out (by rw [HT.out]; rfl)⟩
                                case measure => simp [intOf]; omega
                              | true =>
                                cases q3 with
                                | false =>
                                  go_wp2_with fail
                                  refine HD1.out.mono ?_
                                  rintro e w1 ⟨rfl, rfl⟩
                                  go_wp2_with fail
                                  refine HD2.out.mono ?_
                                  rintro e w1 ⟨rfl, rfl⟩
                                  go_wp2_with fail
                                  refine HD3.out.mono ?_
                                  rintro e w1 ⟨rfl, rfl⟩
                                  go_wp2
                                  go_ret
                                  exact ⟨err_eq (HNO3.out (by rw [HT.out]; rfl)).symm, Below.refl _ _⟩
                                | true =>
                                  go_wp2_with fail
                                  refine HD1.out.mono ?_
                                  rintro e w1 ⟨rfl, rfl⟩
                                  go_wp2_with fail
                                  refine HD2.out.mono ?_
                                  rintro e w1 ⟨rfl, rfl⟩
                                  go_wp2_with fail
                                  refine HD3.out.mono ?_
                                  rintro e w1 ⟨rfl, rfl⟩
                                  go_wp2
                                  go_round
                                  case rel => exact ⟨k + 1, by omega, by go_num, step_to H3.out (by rw [HT.out]; rfl)⟩
                                  case measure => simp [intOf]; omega
                          · obtain rfl : k = n := by omega
                            have d5 : decide ((k : Int) < (k : Int)) = false := by simp
                            go_wp2
                            go_round
                            case rel => exact ⟨j + 1, by omega, by go_num, step_to H2.out (by rw [HJB.out, any_nof H3.out]; rfl)⟩
                            case measure => simp [intOf]; omega
                      | true =>
                        cases p3 with
                        | false =>
                          go_wp2_with fail
                          refine HC1.out.mono ?_
                          rintro e w1 ⟨rfl, rfl⟩
                          go_wp2_with fail
                          refine HC2.out.mono ?_
                          rintro e w1 ⟨rfl, rfl⟩
                          clear HC1 HC2 hbad2
                          go_wp2
                          go_loop [7] (fun v => ∃ k : Nat, k ≤ n ∧ v = .int .u64 k ∧ Hid (∀ k', k' < k → tri rows i j k' = false)) (fun v => n - (intOf v).toNat)
                          case atStart => exact ⟨0, by omega, rfl, fun i' h => by omega⟩
                          case round =>
                            obtain ⟨k, hk, rfl, H3⟩ := hrel
                            by_cases hkn : k < n
                            · have d5 : decide ((k : Int) < (n : Int)) = true := by simp; omega
                              have HNO3 := Lib.hid (show tri rows i j k = true → refR rows = 9 from fun h => HNO2.out (by rw [HJB.out, any_yes k hkn h]; simp))
                              have HT := Lib.hid (show tri rows i j k = (rowB rows i j && rowB rows j k && !rowB rows i k) from rfl)
                              have HD1 := Lib.hid (HRB.out i j (by omega) (by omega))
                              have HD2 := Lib.hid (HRB.out j k (by omega) (by omega))
                              have HD3 := Lib.hid (HRB.out i k (by omega) (by omega))
                              obtain ⟨q1, hq1⟩ : ∃ q, q = rowB rows i j := ⟨_, rfl⟩
                              obtain ⟨q2, hq2⟩ : ∃ q, q = rowB rows j k := ⟨_, rfl⟩
                              obtain ⟨q3, hq3⟩ : ∃ q, q = rowB rows i k := ⟨_, rfl⟩
                              rw [← hq1] at HD1 HT
                              rw [← hq2] at HD2 HT
                              rw [← hq3] at HD3 HT
                              clear hq1 hq2 hq3
                              cases q1 with
                              | false =>
                                go_wp2_with fail
                                refine HD1.out.mono ?_
                                rintro e w1 ⟨rfl, rfl⟩
                                go_wp2
                                go_round
                                case rel => exact ⟨k + 1, by omega, by go_num, step_to H3.out (by rw [HT.out]; rfl)⟩
                                case measure => simp [intOf]; omega
                              | true =>
                                cases q2 with
                                | false =>
                                  go_wp2_with fail
                                  refine HD1.out.mono ?_
                                  rintro e w1 ⟨rfl, rfl⟩
                                  go_wp2_with fail
                                  refine HD2.out.mono ?_
                                  rintro e w1 ⟨rfl, rfl⟩
                                  go_wp2
                                  go_round
                                  case rel => exact ⟨k + 1, by omega, by go_num, step_to H3.out (by rw [HT.out]; rfl)⟩
                                  case measure => simp [intOf]; omega
                                | true =>
                                  cases q3 with
                                  | false =>
                                    go_wp2_with fail
                                    refine HD1.out.mono ?_
                                    rintro e w1 ⟨rfl, rfl⟩
                                    go_wp2_with fail
                                    refine HD2.out.mono ?_
                                    rintro e w1 ⟨rfl, rfl⟩
                                    go_wp2_with fail
                                    refine HD3.out.mono ?_
                                    rintro e w1 ⟨rfl, rfl⟩
                                    go_wp2
                                    go_ret
                                    exact ⟨err_eq (HNO3.out (by rw [HT.out]; rfl)).symm, Below.refl _ _⟩
                                  | true =>
                                    go_wp2_with fail
                                    refine HD1.out.mono ?_
                                    rintro e w1 ⟨rfl, rfl⟩
                                    go_wp2_with fail
                                    refine HD2.out.mono ?_
                                    rintro e w1 ⟨rfl, rfl⟩
                                    go_wp2_with fail
                                    refine HD3.out.mono ?_
                                    rintro e w1 ⟨rfl, rfl⟩
                                    go_wp2
                                    go_round
                                    case rel => exact ⟨k + 1, by omega, by go_num, step_to H3.out (by rw [HT.out]; rfl)⟩
                                    case measure => simp [intOf]; omega
                            · obtain rfl : k = n := by omega
                              have d5 : decide ((k : Int) < (k : Int)) = false := by simp
                              go_wp2
                              go_round
                              case rel => exact ⟨j + 1, by omega, by go_num, step_to H2.out (by rw [HJB.out, any_nof H3.out]; rfl)⟩
                              case measure => simp [intOf]; omega
                        | true => simp at hbad2
                · obtain rfl : j = n := by omega
                  have d4 : decide ((j : Int) < (j : Int)) = false := by simp
                  go_wp2
                  go_round
                  case rel => exact ⟨i + 1, by omega, by go_num, step_to H1.out (by rw [HIB.out, any_nof H2.out]; rfl)⟩
                  case measure => simp [intOf]; omega
          · obtain rfl : i = n := by omega
            have d3 : decide ((i : Int) < (i : Int)) = false := by simp
            have HREST2 := Lib.hid (HREST.out.trans (if_neg (any_no (fun i' h => H1.out i' (by have := HN.out; omega)))))
            clear HREST HRB
            go_wp2
            go_loopw [8] (fun v W => ∃ i' : Nat, i' ≤ i ∧ v = .int .u64 i' ∧ Hid (∀ i2, i2 < i' → ((List.range rows.length).any fun j => !upB rows i2 j || !dnB rows i2 j) = false) ∧ Hid (Below w.heap.size w W)) (fun v _ => i - (intOf v).toNat)
            case atStart => exact ⟨0, by omega, rfl, fun i' h => by omega, Below.refl _ w⟩
            case round =>
              clear H1
              generalize i = n at *
              obtain ⟨i, hi, rfl, H1, HB⟩ := hrel
              by_cases hin : i < n
              · have d4 : decide ((i : Int) < (n : Int)) = true := by simp; omega
                have HBO := HB
                clear HB
                go_wp2
                go_loopw [9] (fun v W => ∃ j : Nat, j ≤ n ∧ v = .int .u64 j ∧ Hid (∀ j', j' < j → (!upB rows i j' || !dnB rows i j') = false) ∧ Hid (Below w.heap.size w W)) (fun v _ => n - (intOf v).toNat)
                case atStart => exact ⟨0, by omega, rfl, fun i' h => by omega, HBO⟩
                case round =>
                  clear HBO
                  obtain ⟨j, hj, rfl, H2, HB⟩ := hrel
                  by_cases hjn : j < n
                  · have d5 : decide ((j : Int) < (n : Int)) = true := by simp; omega
                    have HNO := Lib.hid (show (!upB rows i j || !dnB rows i j) = true → refR rows = 7 from fun h => by rw [HREST2.out, if_pos (any_yes i (by have := HN.out; omega) (any_yes j (by have := HN.out; omega) h))])
                    have HU := Lib.hid (show someAll (fun x y => rowB rows x y) (thoseTo (fun x => rowB rows i x && rowB rows j x) n) = upB rows i j by unfold upB; rw [HN.out])
                    have HV := Lib.hid (show someAll (fun x y => rowB rows y x) (thoseTo (fun x => rowB rows x i && rowB rows x j) n) = dnB rows i j by unfold dnB; rw [HN.out])
                    obtain ⟨q1, hq1⟩ : ∃ q, q = upB rows i j := ⟨_, rfl⟩
                    obtain ⟨q2, hq2⟩ : ∃ q, q = dnB rows i j := ⟨_, rfl⟩
                    rw [← hq1] at HNO HU
                    rw [← hq2] at HNO HV
                    have HU1 := Lib.hid hq1.symm
                    have HV1 := Lib.hid hq2.symm
                    clear hq1 hq2
                    have HS1 := Lib.hid (fun x (h : x ∈ thoseTo (fun x => rowB rows i x && rowB rows j x) n) => thoseTo_lt h)
                    have HS2 := Lib.hid (fun x (h : x ∈ thoseTo (fun x => rowB rows x i && rowB rows x j) n) => thoseTo_lt h)
                    have HL1 := Lib.hid (thoseTo_length (fun x => rowB rows i x && rowB rows j x) n)
                    have HL2 := Lib.hid (thoseTo_length (fun x => rowB rows x i && rowB rows x j) n)
                    go_wp2_with fail
                    refine (above_any (some ⟨bb, off, none⟩) n c rows HN.out hn64 i j (by omega) (by omega) _ (HI.out.below HB.out)).mono ?_
                    rintro e w2 ⟨⟨v, rfl, hr⟩, hb2⟩
                    obtain ⟨S1, hw1⟩ : ∃ S, S = thoseTo (fun x => rowB rows i x && rowB rows j x) n := ⟨_, rfl⟩
                    obtain ⟨S2, hw2⟩ : ∃ S, S = thoseTo (fun x => rowB rows x i && rowB rows x j) n := ⟨_, rfl⟩
                    rw [← hw1] at HU HS1 HL1 hr
                    rw [← hw2] at HV HS2 HL2
                    have HW2 := Lib.hid hw2.symm
                    clear hw1 hw2
                    obtain ⟨A3, c3, rfl, _, hJ⟩ := hr.nums (fun x hx => by have := HS1.out x hx; omega)
                    have HJ := Lib.hid hJ
                    have HB2 := Lib.hid (on HB.out hb2)
                    clear hr hb2 hJ HB
                    obtain ⟨m, hm⟩ : ∃ m, m = S1.length := ⟨_, rfl⟩
                    rw [← hm]
                    have HM := Lib.hid hm
                    clear hm
                    go_wp2_with fail
                    refine (least_any (some ⟨bb, off, none⟩) n c rows HN.out hn64 A3 m c3 S1 HM.out (by have := HL1.out; have := HM.out; omega) w2 (HI.out.below HB2.out) HJ.out).mono ?_
                    rintro e w3 ⟨⟨x, he⟩, hb3⟩
                    rw [HU.out] at he
                    subst he
                    have HB3 := Lib.hid (on HB2.out hb3)
                    clear hb3 HJ HM
                    go_wp2_with fail
                    refine (under_any (some ⟨bb, off, none⟩) n c rows HN.out hn64 i j (by omega) (by omega) _ (HI.out.below HB3.out)).mono ?_
                    rintro e w4 ⟨⟨v, rfl, hr⟩, hb4⟩
                    rw [HW2.out] at hr
                    obtain ⟨A4, c4, rfl, _, hJ⟩ := hr.nums (fun x hx => by have := HS2.out x hx; omega)
                    have HJ := Lib.hid hJ
                    have HB4 := Lib.hid (on HB3.out hb4)
                    clear hr hb4 hJ HB3
                    obtain ⟨m2, hm2⟩ : ∃ m, m = S2.length := ⟨_, rfl⟩
                    rw [← hm2]
                    have HM := Lib.hid hm2
                    clear hm2
                    go_wp2_with fail
                    refine (greatest_any (some ⟨bb, off, none⟩) n c rows HN.out hn64 A4 m2 c4 S2 HM.out (by have := HL2.out; have := HM.out; omega) w4 (HI.out.below HB4.out) HJ.out).mono ?_
                    rintro e w5 ⟨⟨x2, he⟩, hb5⟩
                    rw [HV.out] at he
                    subst he
                    have HB5 := Lib.hid (on HB4.out hb5)
                    clear hb5 HJ HM
                    by_cases hq : (!q1 || !q2) = true
                    · have HR := Lib.hid (HNO.out hq)
                      cases q1 with
                      | false =>
                        go_wp2
                        go_ret
                        exact ⟨err_eq HR.out.symm, HB5.out⟩
                      | true =>
                        cases q2 with
                        | false =>
                          go_wp2
                          go_ret
                          exact ⟨err_eq HR.out.symm, HB5.out⟩
                        | true => simp at hq
                    · cases q1 with
                      | false => simp at hq
                      | true =>
                        cases q2 with
                        | false => simp at hq
                        | true =>
                          go_wp2
                          go_roundw
                          case rel => exact ⟨j + 1, by omega, by go_num, step_to H2.out (by rw [HU1.out, HV1.out]; rfl), HB5.out⟩
                          case measure => simp [intOf]; omega
                  · obtain rfl : j = n := by omega
                    have d5 : decide ((j : Int) < (j : Int)) = false := by simp
                    go_wp2
                    go_roundw
                    case rel => exact ⟨i + 1, by omega, by go_num, step_to H1.out (by rw [← HN.out]; exact any_nof H2.out), HB⟩
                    case measure => simp [intOf]; omega
              · obtain rfl : i = n := by omega
                have d4 : decide ((i : Int) < (i : Int)) = false := by simp
                have HR := Lib.hid (show refR rows = 0 by rw [HREST2.out, if_neg (any_no (fun i' h => H1.out i' (by have := HN.out; omega)))])
                go_wp2
                go_ret
                exact ⟨err_eq HR.out.symm, HB.out⟩
end Go.Proofs.YtajilghlcfheiaaGreatDoor.Bnd
