/- orders.Check, walked. -/
import Derived.Test.YtajilghlcfheiaaGreatDoorBndCheck
namespace Go.Proofs.YtajilghlcfheiaaGreatDoor.Bnd
set_option maxRecDepth 20000
open Go.RowKit Go.Proofs.YtajilghlcfheiaaGreatDoorW.PrintWords
theorem err_eq {a b : Nat} (h : a = b) : Ending.returned (.int .i64 (a : Int)) = .returned (.int .i64 (b : Int)) := by rw [h]
theorem checkR_small {rows : List Nat} (h : rows.length < 1 ∨ 64 < rows.length) : checkR rows = 1 := by unfold checkR; rw [if_pos h]
theorem checkR_wide {rows : List Nat} (i : Nat) (hi : i < rows.length) (h : diff (rows.getD i 0) (2 ^ rows.length - 1) ≠ 0) : checkR rows = 1 := by
  unfold checkR
  by_cases h1 : rows.length < 1 ∨ 64 < rows.length
  · rw [if_pos h1]
  · rw [if_neg h1, if_pos]
    rw [List.all_eq_false]
    exact ⟨rows[i], List.getElem_mem hi, by simpa [List.getD, hi] using h⟩
theorem checkR_rest {rows : List Nat} (h1 : ¬ rows.length < 1) (h2 : rows.length ≤ 64) (h : ∀ i, i < rows.length → diff (rows.getD i 0) (2 ^ rows.length - 1) = 0) : checkR rows = if ordB rows = false then 9
  else if ((List.range rows.length).all fun i => (List.range i).all fun j => pairs rows i j) = false then 7
  else 0 := by
  unfold checkR
  rw [if_neg (by omega), if_neg]
  rw [Bool.not_eq_false, List.all_eq_true]
  intro r hr
  obtain ⟨i, hi, rfl⟩ := List.getElem_of_mem hr
  have := h i hi
  simp only [List.getD, List.getElem?_eq_getElem hi, Option.getD_some] at this
  rw [this]
  rfl
set_option maxRecDepth 20000 in
set_option maxHeartbeats 8000000 in
theorem check_any (A : Option Addr) (n c : Nat) (rows : List Nat) (hn : n = rows.length) (hmax : n ≤ 9223372036854775807) (w : World) (hI : Nums w A rows) (hT : Tab w) : Calls Tryz.prog 119 #[.slice A n c] w fun e w' => e = .returned (.int .i64 ((checkR rows : Nat) : Int)) ∧ Below w.heap.size w w' := by
  by_cases hs : n < 1 ∨ 64 < n
  · have HR := Lib.hid (checkR_small (rows := rows) (by omega))
    by_cases h1 : n < 1
    · have d1 : decide ((n : Int) < 1) = true := by simp; omega
      clear hn hI hT
      go_enter Tryz.func119, Tryz.ntmps119
      go_wp2
      go_ret
      exact ⟨err_eq HR.out.symm, Below.refl _ _⟩
    · have d1 : decide ((n : Int) < 1) = false := by simp; omega
      have d2 : decide ((64 : Int) < (n : Int)) = true := by simp; omega
      clear hn hI hT
      go_enter Tryz.func119, Tryz.ntmps119
      go_wp2
      go_ret
      exact ⟨err_eq HR.out.symm, Below.refl _ _⟩
  · have d1 : decide ((n : Int) < 1) = false := by simp; omega
    have d2 : decide ((64 : Int) < (n : Int)) = false := by simp; omega
    have hn64 : n ≤ 64 := by omega
    obtain ⟨bb, off, rfl, _, hc⟩ := hI.2 (by omega)
    have HI := Lib.hid hI
    have HN := Lib.hid hn
    have HT := Lib.hid hT
    have HC := Lib.hid hc
    clear hI hn hT hc hmax
    go_enter Tryz.func119, Tryz.ntmps119
    go_wp2
    go_loop [19] (fun v => ∃ i : Nat, i ≤ n ∧ v = .int .i64 i ∧ Hid (∀ i', i' < i → diff (rows.getD i' 0) (2 ^ rows.length - 1) = 0)) (fun v => n - (intOf v).toNat)
    case atStart => exact ⟨0, by omega, rfl, fun i' h => by omega⟩
    case round =>
      obtain ⟨i, hi, rfl, H1⟩ := hrel
      by_cases hin : i < n
      · have hil : i < rows.length := by have := HN.out; omega
        have hck := HC.out i hil
        have hr := HI.out.1 rows[i] (List.getElem_mem hil)
        have hgd : rows.getD i 0 = rows[i] := by simp [List.getD, hil]
        generalize rows[i] = r at hck hr hgd
        have hp : 0 < 2 ^ n := Nat.pow_pos (by omega)
        have hle : 2 ^ n ≤ 2 ^ 64 := Nat.pow_le_pow_right (by omega) hn64
        rw [show (2 : Nat) ^ 64 = 18446744073709551616 from rfl] at hle
        have hdf : bits .andNot .u64 (r : Int) ((2 ^ n - 1 : Nat) : Int) = ((diff r (2 ^ n - 1) : Nat) : Int) := u64_andNot_nat r (2 ^ n - 1) hr (by omega)
        have HD := Lib.hid (show diff r (2 ^ n - 1) = diff (rows.getD i 0) (2 ^ rows.length - 1) by rw [hgd, HN.out])
        have HA := Lib.hid (all_any n hn64 w)
        obtain ⟨a, ha⟩ : ∃ a, a = 2 ^ n - 1 := ⟨_, rfl⟩
        rw [← ha] at hdf HD HA
        obtain ⟨q, hq⟩ : ∃ q, q = diff r a := ⟨_, rfl⟩
        rw [← hq] at hdf HD
        have i1 : (0 : Int) ≤ (i : Int) := by omega
        have i2 : (i : Int) < (n : Int) := by omega
        clear hgd hp hle ha hq
        by_cases hq0 : q = 0
        · have e2 : ((q : Int) != 0) = false := by simp; omega
          have H2 := Lib.hid (show ∀ i', i' < i + 1 → diff (rows.getD i' 0) (2 ^ rows.length - 1) = 0 from fun i' h => by
            by_cases e : i' = i
            · subst e
              rw [← HD.out]
              exact hq0
            · exact H1.out i' (by omega))
          clear hq0
          go_wp2_with fail
          refine HA.out.mono ?_
          rintro e w1 ⟨rfl, rfl⟩
          go_wp2
          go_round
          case rel => exact ⟨i + 1, by omega, by go_num, H2⟩
          case measure => simp [intOf]; omega
        · have e2 : ((q : Int) != 0) = true := by simp; omega
          have HR := Lib.hid (checkR_wide i hil (by rw [← HD.out]; exact hq0))
          clear hq0
          go_wp2_with fail
          refine HA.out.mono ?_
          rintro e w1 ⟨rfl, rfl⟩
          go_wp2
          go_ret
          exact ⟨err_eq HR.out.symm, Below.refl _ _⟩
      · obtain rfl : i = n := by omega
        have HREST := Lib.hid (checkR_rest (rows := rows) (by have := HN.out; omega) (by have := HN.out; omega) (fun i' h => H1.out i' (by have := HN.out; omega)))
        have HFIT := Lib.hid (show ∀ i' j, (rows.getD i' 0).testBit j = true → j < i from fun i' j h => by
          have e := HN.out
          by_cases hi' : i' < rows.length
          · have h1 := H1.out i' (by omega)
            have h2 : rows.getD i' 0 < 18446744073709551616 := by
              rw [show rows.getD i' 0 = rows[i'] by simp [List.getD, hi']]
              exact HI.out.1 _ (List.getElem_mem hi')
            have := diff_zero h2 (by omega) h1 j h
            omega
          · rw [show rows.getD i' 0 = 0 by simp [List.getD, hi']] at h
            simp at h)
        clear H1
        have HO := Lib.hid (ordered_any (some ⟨bb, off, none⟩) i c rows HN.out hn64 w HI.out)
        have HTU := Lib.hid (turned_any (some ⟨bb, off, none⟩) i c rows HN.out hn64 w HI.out)
        generalize i = n at *
        cases ho : ordB rows with
        | false =>
          rw [ho] at HO HREST
          clear ho
          go_wp2_with fail
          refine HO.out.mono ?_
          rintro e w1 ⟨rfl, rfl⟩
          go_wp2
          go_ret
          exact ⟨err_eq HREST.out.symm, Below.refl _ _⟩
        | true =>
          rw [ho] at HO HREST
          have HREST2 := Lib.hid (HREST.out.trans (if_neg (by simp)))
          clear ho HREST
          go_wp2_with fail
          refine HO.out.mono ?_
          rintro e w1 ⟨rfl, rfl⟩
          go_wp2_with fail
          refine HTU.out.mono ?_
          rintro e w1 ⟨rfl, hrow, hb1⟩
          have HROW := Lib.hid hrow
          have HB1 := Lib.hid hb1
          clear hrow hb1 HO HTU
          have HDN := Lib.hid (downs_nums HN.out hn64 HROW.out)
          obtain ⟨B, hB⟩ : ∃ B, B = w.heap.size := ⟨_, rfl⟩
          rw [← hB] at HROW HDN ⊢
          clear hB HROW
          go_wp2
          go_loopw [35] (fun v W => ∃ i : Nat, i ≤ n ∧ v = .int .i64 i ∧ Hid (∀ i', i' < i → ∀ j, j < i' → pairs rows i' j = true) ∧ Hid (Below w1.heap.size w1 W)) (fun v _ => n - (intOf v).toNat)
          case atStart => exact ⟨0, by omega, rfl, fun i' h => by omega, Below.refl _ _⟩
          case round =>
            obtain ⟨i, hi, rfl, H1, HB⟩ := hrel
            by_cases hin : i < n
            · have hil : i < rows.length := by have := HN.out; omega
              have i1 : (0 : Int) ≤ (i : Int) := by omega
              have i2 : (i : Int) < (n : Int) := by omega
              have HBO := HB
              clear HB
              go_wp2
              go_loopw [39] (fun v W => ∃ (j : Nat) (W' : World), W' = W ∧ j ≤ i ∧ v = .int .i64 j ∧ Hid (∀ j', j' < j → pairs rows i j' = true) ∧ Hid (Below w1.heap.size w1 W)) (fun v _ => i - (intOf v).toNat)
              case atStart => exact ⟨0, _, rfl, by omega, rfl, fun i' h => by omega, HBO⟩
              case round =>
                clear HBO
                obtain ⟨j, wd, rfl, hj, rfl, H2, HB⟩ := hrel
                by_cases hjn : j < i
                · have hjl : j < rows.length := by omega
                  have HIq := Lib.hid (HI.out.below (on HB1.out HB.out))
                  have HTq := Lib.hid (HT.out.below (on HB1.out HB.out))
                  have HDq := Lib.hid (HDN.out.below HB.out)
                  obtain ⟨_, _, e, _, hc⟩ := HIq.out.2 (by omega)
                  obtain ⟨rfl, rfl, _⟩ := Addr.mk.inj (Option.some.inj e)
                  have ci := hc i hil
                  have cj := hc j hjl
                  have hri := HIq.out.1 rows[i] (List.getElem_mem hil)
                  have hrj := HIq.out.1 rows[j] (List.getElem_mem hjl)
                  have hgi : rows.getD i 0 = rows[i] := by simp [List.getD, hil]
                  have hgj : rows.getD j 0 = rows[j] := by simp [List.getD, hjl]
                  generalize rows[i] = ri at ci hri hgi
                  generalize rows[j] = rj at cj hrj hgj
                  have hdl : (downs rows).length = rows.length := downs_length rows
                  have hdi : i < (downs rows).length := by omega
                  have hdj : j < (downs rows).length := by omega
                  obtain ⟨_, _, e2, _, hc2⟩ := HDq.out.2 (by omega)
                  obtain ⟨rfl, rfl, _⟩ := Addr.mk.inj (Option.some.inj e2)
                  have ei := hc2 i hdi
                  have ej := hc2 j hdj
                  rw [Nat.zero_add] at ei ej
                  have hrdi := HDq.out.1 (downs rows)[i] (List.getElem_mem hdi)
                  have hrdj := HDq.out.1 (downs rows)[j] (List.getElem_mem hdj)
                  have hgdi : (downs rows).getD i 0 = (downs rows)[i] := by simp [List.getD, hdi]
                  have hgdj : (downs rows).getD j 0 = (downs rows)[j] := by simp [List.getD, hdj]
                  have HFD := Lib.hid (show ∀ j', ((downs rows)[i]).testBit j' = true → j' < n from fun j' h => by rw [← hgdi] at h; have := downs_bits rows i j' h; have := HN.out; omega)
                  generalize (downs rows)[i] = di at ei hrdi hgdi HFD
                  generalize (downs rows)[j] = dj at ej hrdj hgdj
                  have hs1 := and_nat ri rj hri hrj
                  have hs2 := and_nat di dj hrdi hrdj
                  have HP := Lib.hid (show pairs rows i j = (oneB rows (ri &&& rj) && oneB (downs rows) (di &&& dj)) by unfold pairs; rw [hgi, hgj, hgdi, hgdj])
                  have HO1 := Lib.hid (fun W (h : Below wd.heap.size wd W) => one_any (some ⟨bb, off, none⟩) n c rows HN.out (by omega) (ri &&& rj) (Nat.lt_of_le_of_lt Nat.and_le_left hri) (fun j' h => HFIT.out i j' (by rw [hgi]; rw [Nat.testBit_and, Bool.and_eq_true] at h; exact h.1)) W (HIq.out.below h) (HTq.out.below h))
                  have HO2 := Lib.hid (fun W (h : Below wd.heap.size wd W) => one_any (some ⟨B, 0, none⟩) n n (downs rows) (by rw [hdl]; exact HN.out) (by omega) (di &&& dj) (Nat.lt_of_le_of_lt Nat.and_le_left hrdi) (fun j' h => HFD.out j' (by rw [Nat.testBit_and, Bool.and_eq_true] at h; exact h.1)) W (HDq.out.below h) (HTq.out.below h))
                  obtain ⟨s1, hs1'⟩ : ∃ s1, s1 = ri &&& rj := ⟨_, rfl⟩
                  obtain ⟨s2, hs2'⟩ : ∃ s2, s2 = di &&& dj := ⟨_, rfl⟩
                  rw [← hs1'] at hs1 HO1 HP
                  rw [← hs2'] at hs2 HO2 HP
                  have j1 : (0 : Int) ≤ (j : Int) := by omega
                  have j2 : (j : Int) < (n : Int) := by omega
                  have j3 : (j : Int) < (i : Int) := by omega
                  obtain ⟨p1, hp1⟩ : ∃ p, p = oneB rows s1 := ⟨_, rfl⟩
                  obtain ⟨p2, hp2⟩ : ∃ p, p = oneB (downs rows) s2 := ⟨_, rfl⟩
                  rw [← hp1] at HO1 HP
                  rw [← hp2] at HO2 HP
                  clear hgi hgj hgdi hgdj hs1' hs2' hp1 hp2 HFD e e2 hc hc2 hdi hdj hdl hri hrj hrdi hrdj
                  cases p1 with
                  | false =>
                    have HR := Lib.hid (show (if ((List.range rows.length).all fun i => (List.range i).all fun j => pairs rows i j) = false then 7 else 0) = 7 from if_pos (by
                      rw [List.all_eq_false]
                      refine ⟨i, List.mem_range.2 hil, ?_⟩
                      rw [Bool.not_eq_true, List.all_eq_false]
                      exact ⟨j, List.mem_range.2 hjn, by rw [HP.out]; simp⟩))
                    go_wp2
                    refine wp_region_held (S := fun W => Below wd.heap.size wd W) (by kernel_rfl) ?_
                    generalize hA0 : Act.mk _ _ = a0
                    have hF := Fr.nil (n := 70) (a := a0) (by rw [← hA0]; rfl)
                    replace hF := Fr.cons hF 8 (.int .i64 j) (by rw [← hA0]; rfl)
                    replace hF := Fr.cons hF 7 (.int .i64 i) (by rw [← hA0]; rfl)
                    replace hF := Fr.cons hF 6 (.slice (some ⟨B, 0, none⟩) n n) (by rw [← hA0]; rfl)
                    replace hF := Fr.cons hF 0 (.slice (some ⟨bb, off, none⟩) n c) (by rw [← hA0]; rfl)
                    have hS : Below wd.heap.size wd (World.drew _) := (Below.refl _ wd).drew
                    change wpAnyH _ _ _ _ _ _ _ _ (World.drew _)
                    refine tk (i := 0) (d := 42) (v := .slice (some ⟨bb, off, none⟩) n c) hF rfl rfl (by kernel_rfl) (by kernel_rfl) (by kernel_rfl) (fun _ _ _ h => h) (yi_go rfl (fun W hW => ex_move W rfl (fr_at hF 0 rfl))) hS rfl (by decide) (fun a1 hA1 hF' => ?_)
                    replace hF := hF'; clear hF'
                    refine tk (i := 1) (d := 43) (v := .int .i64 i) hF rfl rfl (by kernel_rfl) (by kernel_rfl) (by kernel_rfl) (fun _ _ _ h => h) (yi_go rfl (fun W hW => ex_move W rfl (fr_at hF 3 rfl))) hS rfl (by decide) (fun a2 hA2 hF' => ?_)
                    replace hF := hF'; clear hF'
                    refine tk (i := 2) (d := 44) (v := .pointer (some ⟨bb, off + i, none⟩)) hF rfl rfl (by kernel_rfl) (by kernel_rfl) (by kernel_rfl) (fun _ _ _ h => h) (yi_go rfl (fun W hW => by have f42 := fr_at hF 1 rfl; have f43 := fr_at hF 0 rfl; go_simp)) hS rfl (by decide) (fun a3 hA3 hF' => ?_)
                    replace hF := hF'; clear hF'
                    refine tk (i := 3) (d := 45) (v := .int .u64 (ri : Int)) hF rfl rfl (by kernel_rfl) (by kernel_rfl) (by kernel_rfl) (fun _ _ _ h => h) (yi_go rfl (fun W hW => by replace ci := (hW.cell (p := ⟨bb, off + i, none⟩) (World.block_lt_of_cell? _ _ ci)).trans ci; have f44 := fr_at hF 0 rfl; go_simp)) hS rfl (by decide) (fun a4 hA4 hF' => ?_)
                    replace hF := hF'; clear hF'
                    refine tk (i := 4) (d := 46) (v := .slice (some ⟨bb, off, none⟩) n c) hF rfl rfl (by kernel_rfl) (by kernel_rfl) (by kernel_rfl) (fun _ _ _ h => h) (yi_go rfl (fun W hW => ex_move W rfl (fr_at hF 4 rfl))) hS rfl (by decide) (fun a5 hA5 hF' => ?_)
                    replace hF := hF'; clear hF'
                    refine tk (i := 5) (d := 47) (v := .int .i64 j) hF rfl rfl (by kernel_rfl) (by kernel_rfl) (by kernel_rfl) (fun _ _ _ h => h) (yi_go rfl (fun W hW => ex_move W rfl (fr_at hF 8 rfl))) hS rfl (by decide) (fun a6 hA6 hF' => ?_)
                    replace hF := hF'; clear hF'
                    refine tk (i := 6) (d := 48) (v := .pointer (some ⟨bb, off + j, none⟩)) hF rfl rfl (by kernel_rfl) (by kernel_rfl) (by kernel_rfl) (fun _ _ _ h => h) (yi_go rfl (fun W hW => by have f46 := fr_at hF 1 rfl; have f47 := fr_at hF 0 rfl; go_simp)) hS rfl (by decide) (fun a7 hA7 hF' => ?_)
                    replace hF := hF'; clear hF'
                    refine tk (i := 7) (d := 49) (v := .int .u64 (rj : Int)) hF rfl rfl (by kernel_rfl) (by kernel_rfl) (by kernel_rfl) (fun _ _ _ h => h) (yi_go rfl (fun W hW => by replace cj := (hW.cell (p := ⟨bb, off + j, none⟩) (World.block_lt_of_cell? _ _ cj)).trans cj; have f48 := fr_at hF 0 rfl; go_simp)) hS rfl (by decide) (fun a8 hA8 hF' => ?_)
                    replace hF := hF'; clear hF'
                    refine tk (i := 8) (d := 50) (v := .int .u64 (s1 : Int)) hF rfl rfl (by kernel_rfl) (by kernel_rfl) (by kernel_rfl) (fun _ _ _ h => h) (yi_go rfl (fun W hW => by have f45 := fr_at hF 4 rfl; have f49 := fr_at hF 0 rfl; go_simp)) hS rfl (by decide) (fun a9 hA9 hF' => ?_)
                    replace hF := hF'; clear hF'
                    refine tk (i := 9) (d := 51) (v := .slice (some ⟨bb, off, none⟩) n c) hF rfl rfl (by kernel_rfl) (by kernel_rfl) (by kernel_rfl) (fun _ _ _ h => h) (yi_go rfl (fun W hW => ex_move W rfl (fr_at hF 9 rfl))) hS rfl (by decide) (fun a10 hA10 hF' => ?_)
                    replace hF := hF'; clear hF'
                    refine wpAnyH_ready (rs := [10]) (by kernel_rfl) (by simp) ?_
                    refine AllReadyH.cons rfl (fun K hK => ?_) AllReadyH.nil
                    have f50 := fr_at hF 1 rfl
                    have f51 := fr_at hF 0 rfl
                    go_simp
                    clear f50 f51
                    go_at_call 167
                    refine (HO1.out _ hS).mono ?_
                    rintro e wa ⟨rfl, rfl⟩
                    go_wp2_with fail
                    refine hK.out _ _ (hS) (fun _ => ?_)
                    replace hS := hS
                    clear hK K
                    change wpAnyH _ _ _ _ _ _ _ (a10.put (some 52) (.bool false)) _
                    have hF' := fr_put hF 52 (.bool false) rfl (by decide)
                    generalize hA11 : Act.put a10 (some 52) (.bool false) = a11 at hF' ⊢
                    replace hF := hF'; clear hF'
                    refine tk (i := 11) (d := 53) (v := .bool true) hF rfl rfl (by kernel_rfl) (by kernel_rfl) (by kernel_rfl) (fun _ _ _ h => h) (yi_go rfl (fun W hW => by have f52 := fr_at hF 0 rfl; go_simp)) hS rfl (by decide) (fun a12 hA12 hF' => ?_)
                    replace hF := hF'; clear hF'
                    refine tk (i := 12) (d := 54) (v := .bool true) hF rfl rfl (by kernel_rfl) (by kernel_rfl) (by kernel_rfl) (fun _ _ _ h => h) (yi_go rfl (fun W hW => ex_move W rfl (fr_at hF 0 rfl))) hS rfl (by decide) (fun a13 hA13 hF' => ?_)
                    replace hF := hF'; clear hF'
                    refine tk (i := 13) (d := 55) (v := undef) hF rfl rfl (by kernel_rfl) (by kernel_rfl) (by kernel_rfl) (fun _ _ _ h => h) (yi_skip rfl rfl (fr_at hF 0 rfl)) hS rfl (by decide) (fun a14 hA14 hF' => ?_)
                    replace hF := hF'; clear hF'
                    refine tk (i := 14) (d := 56) (v := undef) hF rfl rfl (by kernel_rfl) (by kernel_rfl) (by kernel_rfl) (fun _ _ _ h => h) (yi_skip rfl rfl (fr_at hF 1 rfl)) hS rfl (by decide) (fun a15 hA15 hF' => ?_)
                    replace hF := hF'; clear hF'
                    refine tk (i := 15) (d := 57) (v := undef) hF rfl rfl (by kernel_rfl) (by kernel_rfl) (by kernel_rfl) (fun _ _ _ h => h) (yi_skip rfl rfl (fr_at hF 2 rfl)) hS rfl (by decide) (fun a16 hA16 hF' => ?_)
                    replace hF := hF'; clear hF'
                    refine tk (i := 16) (d := 58) (v := undef) hF rfl rfl (by kernel_rfl) (by kernel_rfl) (by kernel_rfl) (fun _ _ _ h => h) (yi_skip rfl rfl (fr_at hF 3 rfl)) hS rfl (by decide) (fun a17 hA17 hF' => ?_)
                    replace hF := hF'; clear hF'
                    refine tk (i := 17) (d := 59) (v := undef) hF rfl rfl (by kernel_rfl) (by kernel_rfl) (by kernel_rfl) (fun _ _ _ h => h) (yi_skip rfl rfl (fr_at hF 4 rfl)) hS rfl (by decide) (fun a18 hA18 hF' => ?_)
                    replace hF := hF'; clear hF'
                    refine tk (i := 18) (d := 60) (v := undef) hF rfl rfl (by kernel_rfl) (by kernel_rfl) (by kernel_rfl) (fun _ _ _ h => h) (yi_skip rfl rfl (fr_at hF 5 rfl)) hS rfl (by decide) (fun a19 hA19 hF' => ?_)
                    replace hF := hF'; clear hF'
                    refine tk (i := 19) (d := 61) (v := undef) hF rfl rfl (by kernel_rfl) (by kernel_rfl) (by kernel_rfl) (fun _ _ _ h => h) (yi_skip rfl rfl (fr_at hF 6 rfl)) hS rfl (by decide) (fun a20 hA20 hF' => ?_)
                    replace hF := hF'; clear hF'
                    refine tk (i := 20) (d := 62) (v := undef) hF rfl rfl (by kernel_rfl) (by kernel_rfl) (by kernel_rfl) (fun _ _ _ h => h) (yi_skip rfl rfl (fr_at hF 7 rfl)) hS rfl (by decide) (fun a21 hA21 hF' => ?_)
                    replace hF := hF'; clear hF'
                    refine tk (i := 21) (d := 63) (v := undef) hF rfl rfl (by kernel_rfl) (by kernel_rfl) (by kernel_rfl) (fun _ _ _ h => h) (yi_skip rfl rfl (fr_at hF 8 rfl)) hS rfl (by decide) (fun a22 hA22 hF' => ?_)
                    replace hF := hF'; clear hF'
                    refine tk (i := 22) (d := 64) (v := undef) hF rfl rfl (by kernel_rfl) (by kernel_rfl) (by kernel_rfl) (fun _ _ _ h => h) (yi_skip rfl rfl (fr_at hF 9 rfl)) hS rfl (by decide) (fun a23 hA23 hF' => ?_)
                    replace hF := hF'; clear hF'
                    refine tk (i := 23) (d := 65) (v := undef) hF rfl rfl (by kernel_rfl) (by kernel_rfl) (by kernel_rfl) (fun _ _ _ h => h) (yi_skip rfl rfl (fr_at hF 10 rfl)) hS rfl (by decide) (fun a24 hA24 hF' => ?_)
                    replace hF := hF'; clear hF'
                    refine tk (i := 24) (d := 66) (v := undef) hF rfl rfl (by kernel_rfl) (by kernel_rfl) (by kernel_rfl) (fun _ _ _ h => h) (yi_skip rfl rfl (fr_at hF 11 rfl)) hS rfl (by decide) (fun a25 hA25 hF' => ?_)
                    replace hF := hF'; clear hF'
                    refine tk (i := 25) (d := 67) (v := .bool true) hF rfl rfl (by kernel_rfl) (by kernel_rfl) (by kernel_rfl) (fun _ _ _ h => h) (yi_go rfl (fun W hW => by have f54 := fr_at hF 12 rfl; have f66 := fr_at hF 0 rfl; go_simp)) hS rfl (by decide) (fun a26 hA26 hF' => ?_)
                    replace hF := hF'; clear hF'
                    refine wpAnyH_done (by kernel_rfl) ?_ _
                    rw [← hA26, ← hA25, ← hA24, ← hA23, ← hA22, ← hA21, ← hA20, ← hA19, ← hA18, ← hA17, ← hA16, ← hA15, ← hA14, ← hA13, ← hA12, ← hA11, ← hA10, ← hA9, ← hA8, ← hA7, ← hA6, ← hA5, ← hA4, ← hA3, ← hA2, ← hA1, ← hA0]
                    simp only [Act.put, List.setIfInBounds_toArray, List.set_cons_zero, List.set_cons_succ]
                    clear hF
                    go_wp2
                    go_ret
                    exact ⟨err_eq (by rw [HREST2.out, HR.out]), on (on HB1.out HB.out) hS⟩
                  | true =>
                    cases p2 with
                    | false =>
                      have HR := Lib.hid (show (if ((List.range rows.length).all fun i => (List.range i).all fun j => pairs rows i j) = false then 7 else 0) = 7 from if_pos (by
                        rw [List.all_eq_false]
                        refine ⟨i, List.mem_range.2 hil, ?_⟩
                        rw [Bool.not_eq_true, List.all_eq_false]
                        exact ⟨j, List.mem_range.2 hjn, by rw [HP.out]; simp⟩))
                      go_wp2
                      refine wp_region_held (S := fun W => Below wd.heap.size wd W) (by kernel_rfl) ?_
                      generalize hA0 : Act.mk _ _ = a0
                      have hF := Fr.nil (n := 70) (a := a0) (by rw [← hA0]; rfl)
                      replace hF := Fr.cons hF 8 (.int .i64 j) (by rw [← hA0]; rfl)
                      replace hF := Fr.cons hF 7 (.int .i64 i) (by rw [← hA0]; rfl)
                      replace hF := Fr.cons hF 6 (.slice (some ⟨B, 0, none⟩) n n) (by rw [← hA0]; rfl)
                      replace hF := Fr.cons hF 0 (.slice (some ⟨bb, off, none⟩) n c) (by rw [← hA0]; rfl)
                      have hS : Below wd.heap.size wd (World.drew _) := (Below.refl _ wd).drew
                      change wpAnyH _ _ _ _ _ _ _ _ (World.drew _)
                      refine tk (i := 0) (d := 42) (v := .slice (some ⟨bb, off, none⟩) n c) hF rfl rfl (by kernel_rfl) (by kernel_rfl) (by kernel_rfl) (fun _ _ _ h => h) (yi_go rfl (fun W hW => ex_move W rfl (fr_at hF 0 rfl))) hS rfl (by decide) (fun a1 hA1 hF' => ?_)
                      replace hF := hF'; clear hF'
                      refine tk (i := 1) (d := 43) (v := .int .i64 i) hF rfl rfl (by kernel_rfl) (by kernel_rfl) (by kernel_rfl) (fun _ _ _ h => h) (yi_go rfl (fun W hW => ex_move W rfl (fr_at hF 3 rfl))) hS rfl (by decide) (fun a2 hA2 hF' => ?_)
                      replace hF := hF'; clear hF'
                      refine tk (i := 2) (d := 44) (v := .pointer (some ⟨bb, off + i, none⟩)) hF rfl rfl (by kernel_rfl) (by kernel_rfl) (by kernel_rfl) (fun _ _ _ h => h) (yi_go rfl (fun W hW => by have f42 := fr_at hF 1 rfl; have f43 := fr_at hF 0 rfl; go_simp)) hS rfl (by decide) (fun a3 hA3 hF' => ?_)
                      replace hF := hF'; clear hF'
                      refine tk (i := 3) (d := 45) (v := .int .u64 (ri : Int)) hF rfl rfl (by kernel_rfl) (by kernel_rfl) (by kernel_rfl) (fun _ _ _ h => h) (yi_go rfl (fun W hW => by replace ci := (hW.cell (p := ⟨bb, off + i, none⟩) (World.block_lt_of_cell? _ _ ci)).trans ci; have f44 := fr_at hF 0 rfl; go_simp)) hS rfl (by decide) (fun a4 hA4 hF' => ?_)
                      replace hF := hF'; clear hF'
                      refine tk (i := 4) (d := 46) (v := .slice (some ⟨bb, off, none⟩) n c) hF rfl rfl (by kernel_rfl) (by kernel_rfl) (by kernel_rfl) (fun _ _ _ h => h) (yi_go rfl (fun W hW => ex_move W rfl (fr_at hF 4 rfl))) hS rfl (by decide) (fun a5 hA5 hF' => ?_)
                      replace hF := hF'; clear hF'
                      refine tk (i := 5) (d := 47) (v := .int .i64 j) hF rfl rfl (by kernel_rfl) (by kernel_rfl) (by kernel_rfl) (fun _ _ _ h => h) (yi_go rfl (fun W hW => ex_move W rfl (fr_at hF 8 rfl))) hS rfl (by decide) (fun a6 hA6 hF' => ?_)
                      replace hF := hF'; clear hF'
                      refine tk (i := 6) (d := 48) (v := .pointer (some ⟨bb, off + j, none⟩)) hF rfl rfl (by kernel_rfl) (by kernel_rfl) (by kernel_rfl) (fun _ _ _ h => h) (yi_go rfl (fun W hW => by have f46 := fr_at hF 1 rfl; have f47 := fr_at hF 0 rfl; go_simp)) hS rfl (by decide) (fun a7 hA7 hF' => ?_)
                      replace hF := hF'; clear hF'
                      refine tk (i := 7) (d := 49) (v := .int .u64 (rj : Int)) hF rfl rfl (by kernel_rfl) (by kernel_rfl) (by kernel_rfl) (fun _ _ _ h => h) (yi_go rfl (fun W hW => by replace cj := (hW.cell (p := ⟨bb, off + j, none⟩) (World.block_lt_of_cell? _ _ cj)).trans cj; have f48 := fr_at hF 0 rfl; go_simp)) hS rfl (by decide) (fun a8 hA8 hF' => ?_)
                      replace hF := hF'; clear hF'
                      refine tk (i := 8) (d := 50) (v := .int .u64 (s1 : Int)) hF rfl rfl (by kernel_rfl) (by kernel_rfl) (by kernel_rfl) (fun _ _ _ h => h) (yi_go rfl (fun W hW => by have f45 := fr_at hF 4 rfl; have f49 := fr_at hF 0 rfl; go_simp)) hS rfl (by decide) (fun a9 hA9 hF' => ?_)
                      replace hF := hF'; clear hF'
                      refine tk (i := 9) (d := 51) (v := .slice (some ⟨bb, off, none⟩) n c) hF rfl rfl (by kernel_rfl) (by kernel_rfl) (by kernel_rfl) (fun _ _ _ h => h) (yi_go rfl (fun W hW => ex_move W rfl (fr_at hF 9 rfl))) hS rfl (by decide) (fun a10 hA10 hF' => ?_)
                      replace hF := hF'; clear hF'
                      refine wpAnyH_ready (rs := [10]) (by kernel_rfl) (by simp) ?_
                      refine AllReadyH.cons rfl (fun K hK => ?_) AllReadyH.nil
                      have f50 := fr_at hF 1 rfl
                      have f51 := fr_at hF 0 rfl
                      go_simp
                      clear f50 f51
                      go_at_call 167
                      refine (HO1.out _ hS).mono ?_
                      rintro e wa ⟨rfl, rfl⟩
                      go_wp2_with fail
                      refine hK.out _ _ (hS) (fun _ => ?_)
                      replace hS := hS
                      clear hK K
                      change wpAnyH _ _ _ _ _ _ _ (a10.put (some 52) (.bool true)) _
                      have hF' := fr_put hF 52 (.bool true) rfl (by decide)
                      generalize hA11 : Act.put a10 (some 52) (.bool true) = a11 at hF' ⊢
                      replace hF := hF'; clear hF'
                      refine tk (i := 11) (d := 53) (v := .bool false) hF rfl rfl (by kernel_rfl) (by kernel_rfl) (by kernel_rfl) (fun _ _ _ h => h) (yi_go rfl (fun W hW => by have f52 := fr_at hF 0 rfl; go_simp)) hS rfl (by decide) (fun a12 hA12 hF' => ?_)
                      replace hF := hF'; clear hF'
                      refine tk (i := 12) (d := 54) (v := .bool false) hF rfl rfl (by kernel_rfl) (by kernel_rfl) (by kernel_rfl) (fun _ _ _ h => h) (yi_go rfl (fun W hW => ex_move W rfl (fr_at hF 0 rfl))) hS rfl (by decide) (fun a13 hA13 hF' => ?_)
                      replace hF := hF'; clear hF'
                      refine tk (i := 13) (d := 55) (v := .slice (some ⟨B, 0, none⟩) n n) hF rfl rfl (by kernel_rfl) (by kernel_rfl) (by kernel_rfl) (fun _ _ _ h => h) (yi_want rfl rfl (fr_at hF 0 rfl) (fun W hW => ex_move W rfl (fr_at hF 14 rfl))) hS rfl (by decide) (fun a14 hA14 hF' => ?_)
                      replace hF := hF'; clear hF'
                      refine tk (i := 14) (d := 56) (v := .int .i64 i) hF rfl rfl (by kernel_rfl) (by kernel_rfl) (by kernel_rfl) (fun _ _ _ h => h) (yi_want rfl rfl (fr_at hF 1 rfl) (fun W hW => ex_move W rfl (fr_at hF 16 rfl))) hS rfl (by decide) (fun a15 hA15 hF' => ?_)
                      replace hF := hF'; clear hF'
                      refine tk (i := 15) (d := 57) (v := .pointer (some ⟨B, i, none⟩)) hF rfl rfl (by kernel_rfl) (by kernel_rfl) (by kernel_rfl) (fun _ _ _ h => h) (yi_want rfl rfl (fr_at hF 2 rfl) (fun W hW => by have f55 := fr_at hF 1 rfl; have f56 := fr_at hF 0 rfl; go_simp)) hS rfl (by decide) (fun a16 hA16 hF' => ?_)
                      replace hF := hF'; clear hF'
                      refine tk (i := 16) (d := 58) (v := .int .u64 (di : Int)) hF rfl rfl (by kernel_rfl) (by kernel_rfl) (by kernel_rfl) (fun _ _ _ h => h) (yi_want rfl rfl (fr_at hF 3 rfl) (fun W hW => by replace ei := (hW.cell (p := ⟨B, i, none⟩) (World.block_lt_of_cell? _ _ ei)).trans ei; have f57 := fr_at hF 0 rfl; go_simp)) hS rfl (by decide) (fun a17 hA17 hF' => ?_)
                      replace hF := hF'; clear hF'
                      refine tk (i := 17) (d := 59) (v := .slice (some ⟨B, 0, none⟩) n n) hF rfl rfl (by kernel_rfl) (by kernel_rfl) (by kernel_rfl) (fun _ _ _ h => h) (yi_want rfl rfl (fr_at hF 4 rfl) (fun W hW => ex_move W rfl (fr_at hF 18 rfl))) hS rfl (by decide) (fun a18 hA18 hF' => ?_)
                      replace hF := hF'; clear hF'
                      refine tk (i := 18) (d := 60) (v := .int .i64 j) hF rfl rfl (by kernel_rfl) (by kernel_rfl) (by kernel_rfl) (fun _ _ _ h => h) (yi_want rfl rfl (fr_at hF 5 rfl) (fun W hW => ex_move W rfl (fr_at hF 21 rfl))) hS rfl (by decide) (fun a19 hA19 hF' => ?_)
                      replace hF := hF'; clear hF'
                      refine tk (i := 19) (d := 61) (v := .pointer (some ⟨B, j, none⟩)) hF rfl rfl (by kernel_rfl) (by kernel_rfl) (by kernel_rfl) (fun _ _ _ h => h) (yi_want rfl rfl (fr_at hF 6 rfl) (fun W hW => by have f59 := fr_at hF 1 rfl; have f60 := fr_at hF 0 rfl; go_simp)) hS rfl (by decide) (fun a20 hA20 hF' => ?_)
                      replace hF := hF'; clear hF'
                      refine tk (i := 20) (d := 62) (v := .int .u64 (dj : Int)) hF rfl rfl (by kernel_rfl) (by kernel_rfl) (by kernel_rfl) (fun _ _ _ h => h) (yi_want rfl rfl (fr_at hF 7 rfl) (fun W hW => by replace ej := (hW.cell (p := ⟨B, j, none⟩) (World.block_lt_of_cell? _ _ ej)).trans ej; have f61 := fr_at hF 0 rfl; go_simp)) hS rfl (by decide) (fun a21 hA21 hF' => ?_)
                      replace hF := hF'; clear hF'
                      refine tk (i := 21) (d := 63) (v := .int .u64 (s2 : Int)) hF rfl rfl (by kernel_rfl) (by kernel_rfl) (by kernel_rfl) (fun _ _ _ h => h) (yi_want rfl rfl (fr_at hF 8 rfl) (fun W hW => by have f58 := fr_at hF 4 rfl; have f62 := fr_at hF 0 rfl; go_simp)) hS rfl (by decide) (fun a22 hA22 hF' => ?_)
                      replace hF := hF'; clear hF'
                      refine tk (i := 22) (d := 64) (v := .slice (some ⟨B, 0, none⟩) n n) hF rfl rfl (by kernel_rfl) (by kernel_rfl) (by kernel_rfl) (fun _ _ _ h => h) (yi_want rfl rfl (fr_at hF 9 rfl) (fun W hW => ex_move W rfl (fr_at hF 23 rfl))) hS rfl (by decide) (fun a23 hA23 hF' => ?_)
                      replace hF := hF'; clear hF'
                      refine wpAnyH_ready (rs := [23]) (by kernel_rfl) (by simp) ?_
                      refine AllReadyH.cons rfl (fun K hK => ?_) AllReadyH.nil
                      rw [if_pos (by rw [guard_at rfl rfl (fr_at hF 10 rfl)]; rfl)]
                      have f63 := fr_at hF 1 rfl
                      have f64 := fr_at hF 0 rfl
                      go_simp
                      clear f63 f64
                      go_at_call 167
                      refine (HO2.out _ hS).mono ?_
                      rintro e wb ⟨rfl, rfl⟩
                      go_wp2_with fail
                      refine hK.out _ _ (hS) (fun _ => ?_)
                      replace hS := hS
                      clear hK K
                      change wpAnyH _ _ _ _ _ _ _ (a23.put (some 65) (.bool false)) _
                      have hF' := fr_put hF 65 (.bool false) rfl (by decide)
                      generalize hA24 : Act.put a23 (some 65) (.bool false) = a24 at hF' ⊢
                      replace hF := hF'; clear hF'
                      refine tk (i := 24) (d := 66) (v := .bool true) hF rfl rfl (by kernel_rfl) (by kernel_rfl) (by kernel_rfl) (fun _ _ _ h => h) (yi_want rfl rfl (fr_at hF 11 rfl) (fun W hW => by have f65 := fr_at hF 0 rfl; go_simp)) hS rfl (by decide) (fun a25 hA25 hF' => ?_)
                      replace hF := hF'; clear hF'
                      refine tk (i := 25) (d := 67) (v := .bool true) hF rfl rfl (by kernel_rfl) (by kernel_rfl) (by kernel_rfl) (fun _ _ _ h => h) (yi_go rfl (fun W hW => by have f54 := fr_at hF 12 rfl; have f66 := fr_at hF 0 rfl; go_simp)) hS rfl (by decide) (fun a26 hA26 hF' => ?_)
                      replace hF := hF'; clear hF'
                      refine wpAnyH_done (by kernel_rfl) ?_ _
                      rw [← hA26, ← hA25, ← hA24, ← hA23, ← hA22, ← hA21, ← hA20, ← hA19, ← hA18, ← hA17, ← hA16, ← hA15, ← hA14, ← hA13, ← hA12, ← hA11, ← hA10, ← hA9, ← hA8, ← hA7, ← hA6, ← hA5, ← hA4, ← hA3, ← hA2, ← hA1, ← hA0]
                      simp only [Act.put, List.setIfInBounds_toArray, List.set_cons_zero, List.set_cons_succ]
                      clear hF
                      go_wp2
                      go_ret
                      exact ⟨err_eq (by rw [HREST2.out, HR.out]), on (on HB1.out HB.out) hS⟩
                    | true =>
                      go_wp2
                      refine wp_region_held (S := fun W => Below wd.heap.size wd W) (by kernel_rfl) ?_
                      generalize hA0 : Act.mk _ _ = a0
                      have hF := Fr.nil (n := 70) (a := a0) (by rw [← hA0]; rfl)
                      replace hF := Fr.cons hF 8 (.int .i64 j) (by rw [← hA0]; rfl)
                      replace hF := Fr.cons hF 7 (.int .i64 i) (by rw [← hA0]; rfl)
                      replace hF := Fr.cons hF 6 (.slice (some ⟨B, 0, none⟩) n n) (by rw [← hA0]; rfl)
                      replace hF := Fr.cons hF 0 (.slice (some ⟨bb, off, none⟩) n c) (by rw [← hA0]; rfl)
                      have hS : Below wd.heap.size wd (World.drew _) := (Below.refl _ wd).drew
                      change wpAnyH _ _ _ _ _ _ _ _ (World.drew _)
                      refine tk (i := 0) (d := 42) (v := .slice (some ⟨bb, off, none⟩) n c) hF rfl rfl (by kernel_rfl) (by kernel_rfl) (by kernel_rfl) (fun _ _ _ h => h) (yi_go rfl (fun W hW => ex_move W rfl (fr_at hF 0 rfl))) hS rfl (by decide) (fun a1 hA1 hF' => ?_)
                      replace hF := hF'; clear hF'
                      refine tk (i := 1) (d := 43) (v := .int .i64 i) hF rfl rfl (by kernel_rfl) (by kernel_rfl) (by kernel_rfl) (fun _ _ _ h => h) (yi_go rfl (fun W hW => ex_move W rfl (fr_at hF 3 rfl))) hS rfl (by decide) (fun a2 hA2 hF' => ?_)
                      replace hF := hF'; clear hF'
                      refine tk (i := 2) (d := 44) (v := .pointer (some ⟨bb, off + i, none⟩)) hF rfl rfl (by kernel_rfl) (by kernel_rfl) (by kernel_rfl) (fun _ _ _ h => h) (yi_go rfl (fun W hW => by have f42 := fr_at hF 1 rfl; have f43 := fr_at hF 0 rfl; go_simp)) hS rfl (by decide) (fun a3 hA3 hF' => ?_)
                      replace hF := hF'; clear hF'
                      refine tk (i := 3) (d := 45) (v := .int .u64 (ri : Int)) hF rfl rfl (by kernel_rfl) (by kernel_rfl) (by kernel_rfl) (fun _ _ _ h => h) (yi_go rfl (fun W hW => by replace ci := (hW.cell (p := ⟨bb, off + i, none⟩) (World.block_lt_of_cell? _ _ ci)).trans ci; have f44 := fr_at hF 0 rfl; go_simp)) hS rfl (by decide) (fun a4 hA4 hF' => ?_)
                      replace hF := hF'; clear hF'
                      refine tk (i := 4) (d := 46) (v := .slice (some ⟨bb, off, none⟩) n c) hF rfl rfl (by kernel_rfl) (by kernel_rfl) (by kernel_rfl) (fun _ _ _ h => h) (yi_go rfl (fun W hW => ex_move W rfl (fr_at hF 4 rfl))) hS rfl (by decide) (fun a5 hA5 hF' => ?_)
                      replace hF := hF'; clear hF'
                      refine tk (i := 5) (d := 47) (v := .int .i64 j) hF rfl rfl (by kernel_rfl) (by kernel_rfl) (by kernel_rfl) (fun _ _ _ h => h) (yi_go rfl (fun W hW => ex_move W rfl (fr_at hF 8 rfl))) hS rfl (by decide) (fun a6 hA6 hF' => ?_)
                      replace hF := hF'; clear hF'
                      refine tk (i := 6) (d := 48) (v := .pointer (some ⟨bb, off + j, none⟩)) hF rfl rfl (by kernel_rfl) (by kernel_rfl) (by kernel_rfl) (fun _ _ _ h => h) (yi_go rfl (fun W hW => by have f46 := fr_at hF 1 rfl; have f47 := fr_at hF 0 rfl; go_simp)) hS rfl (by decide) (fun a7 hA7 hF' => ?_)
                      replace hF := hF'; clear hF'
                      refine tk (i := 7) (d := 49) (v := .int .u64 (rj : Int)) hF rfl rfl (by kernel_rfl) (by kernel_rfl) (by kernel_rfl) (fun _ _ _ h => h) (yi_go rfl (fun W hW => by replace cj := (hW.cell (p := ⟨bb, off + j, none⟩) (World.block_lt_of_cell? _ _ cj)).trans cj; have f48 := fr_at hF 0 rfl; go_simp)) hS rfl (by decide) (fun a8 hA8 hF' => ?_)
                      replace hF := hF'; clear hF'
                      refine tk (i := 8) (d := 50) (v := .int .u64 (s1 : Int)) hF rfl rfl (by kernel_rfl) (by kernel_rfl) (by kernel_rfl) (fun _ _ _ h => h) (yi_go rfl (fun W hW => by have f45 := fr_at hF 4 rfl; have f49 := fr_at hF 0 rfl; go_simp)) hS rfl (by decide) (fun a9 hA9 hF' => ?_)
                      replace hF := hF'; clear hF'
                      refine tk (i := 9) (d := 51) (v := .slice (some ⟨bb, off, none⟩) n c) hF rfl rfl (by kernel_rfl) (by kernel_rfl) (by kernel_rfl) (fun _ _ _ h => h) (yi_go rfl (fun W hW => ex_move W rfl (fr_at hF 9 rfl))) hS rfl (by decide) (fun a10 hA10 hF' => ?_)
                      replace hF := hF'; clear hF'
                      refine wpAnyH_ready (rs := [10]) (by kernel_rfl) (by simp) ?_
                      refine AllReadyH.cons rfl (fun K hK => ?_) AllReadyH.nil
                      have f50 := fr_at hF 1 rfl
                      have f51 := fr_at hF 0 rfl
                      go_simp
                      clear f50 f51
                      go_at_call 167
                      refine (HO1.out _ hS).mono ?_
                      rintro e wa ⟨rfl, rfl⟩
                      go_wp2_with fail
                      refine hK.out _ _ (hS) (fun _ => ?_)
                      replace hS := hS
                      clear hK K
                      change wpAnyH _ _ _ _ _ _ _ (a10.put (some 52) (.bool true)) _
                      have hF' := fr_put hF 52 (.bool true) rfl (by decide)
                      generalize hA11 : Act.put a10 (some 52) (.bool true) = a11 at hF' ⊢
                      replace hF := hF'; clear hF'
                      refine tk (i := 11) (d := 53) (v := .bool false) hF rfl rfl (by kernel_rfl) (by kernel_rfl) (by kernel_rfl) (fun _ _ _ h => h) (yi_go rfl (fun W hW => by have f52 := fr_at hF 0 rfl; go_simp)) hS rfl (by decide) (fun a12 hA12 hF' => ?_)
                      replace hF := hF'; clear hF'
                      refine tk (i := 12) (d := 54) (v := .bool false) hF rfl rfl (by kernel_rfl) (by kernel_rfl) (by kernel_rfl) (fun _ _ _ h => h) (yi_go rfl (fun W hW => ex_move W rfl (fr_at hF 0 rfl))) hS rfl (by decide) (fun a13 hA13 hF' => ?_)
                      replace hF := hF'; clear hF'
                      refine tk (i := 13) (d := 55) (v := .slice (some ⟨B, 0, none⟩) n n) hF rfl rfl (by kernel_rfl) (by kernel_rfl) (by kernel_rfl) (fun _ _ _ h => h) (yi_want rfl rfl (fr_at hF 0 rfl) (fun W hW => ex_move W rfl (fr_at hF 14 rfl))) hS rfl (by decide) (fun a14 hA14 hF' => ?_)
                      replace hF := hF'; clear hF'
                      refine tk (i := 14) (d := 56) (v := .int .i64 i) hF rfl rfl (by kernel_rfl) (by kernel_rfl) (by kernel_rfl) (fun _ _ _ h => h) (yi_want rfl rfl (fr_at hF 1 rfl) (fun W hW => ex_move W rfl (fr_at hF 16 rfl))) hS rfl (by decide) (fun a15 hA15 hF' => ?_)
                      replace hF := hF'; clear hF'
                      refine tk (i := 15) (d := 57) (v := .pointer (some ⟨B, i, none⟩)) hF rfl rfl (by kernel_rfl) (by kernel_rfl) (by kernel_rfl) (fun _ _ _ h => h) (yi_want rfl rfl (fr_at hF 2 rfl) (fun W hW => by have f55 := fr_at hF 1 rfl; have f56 := fr_at hF 0 rfl; go_simp)) hS rfl (by decide) (fun a16 hA16 hF' => ?_)
                      replace hF := hF'; clear hF'
                      refine tk (i := 16) (d := 58) (v := .int .u64 (di : Int)) hF rfl rfl (by kernel_rfl) (by kernel_rfl) (by kernel_rfl) (fun _ _ _ h => h) (yi_want rfl rfl (fr_at hF 3 rfl) (fun W hW => by replace ei := (hW.cell (p := ⟨B, i, none⟩) (World.block_lt_of_cell? _ _ ei)).trans ei; have f57 := fr_at hF 0 rfl; go_simp)) hS rfl (by decide) (fun a17 hA17 hF' => ?_)
                      replace hF := hF'; clear hF'
                      refine tk (i := 17) (d := 59) (v := .slice (some ⟨B, 0, none⟩) n n) hF rfl rfl (by kernel_rfl) (by kernel_rfl) (by kernel_rfl) (fun _ _ _ h => h) (yi_want rfl rfl (fr_at hF 4 rfl) (fun W hW => ex_move W rfl (fr_at hF 18 rfl))) hS rfl (by decide) (fun a18 hA18 hF' => ?_)
                      replace hF := hF'; clear hF'
                      refine tk (i := 18) (d := 60) (v := .int .i64 j) hF rfl rfl (by kernel_rfl) (by kernel_rfl) (by kernel_rfl) (fun _ _ _ h => h) (yi_want rfl rfl (fr_at hF 5 rfl) (fun W hW => ex_move W rfl (fr_at hF 21 rfl))) hS rfl (by decide) (fun a19 hA19 hF' => ?_)
                      replace hF := hF'; clear hF'
                      refine tk (i := 19) (d := 61) (v := .pointer (some ⟨B, j, none⟩)) hF rfl rfl (by kernel_rfl) (by kernel_rfl) (by kernel_rfl) (fun _ _ _ h => h) (yi_want rfl rfl (fr_at hF 6 rfl) (fun W hW => by have f59 := fr_at hF 1 rfl; have f60 := fr_at hF 0 rfl; go_simp)) hS rfl (by decide) (fun a20 hA20 hF' => ?_)
                      replace hF := hF'; clear hF'
                      refine tk (i := 20) (d := 62) (v := .int .u64 (dj : Int)) hF rfl rfl (by kernel_rfl) (by kernel_rfl) (by kernel_rfl) (fun _ _ _ h => h) (yi_want rfl rfl (fr_at hF 7 rfl) (fun W hW => by replace ej := (hW.cell (p := ⟨B, j, none⟩) (World.block_lt_of_cell? _ _ ej)).trans ej; have f61 := fr_at hF 0 rfl; go_simp)) hS rfl (by decide) (fun a21 hA21 hF' => ?_)
                      replace hF := hF'; clear hF'
                      refine tk (i := 21) (d := 63) (v := .int .u64 (s2 : Int)) hF rfl rfl (by kernel_rfl) (by kernel_rfl) (by kernel_rfl) (fun _ _ _ h => h) (yi_want rfl rfl (fr_at hF 8 rfl) (fun W hW => by have f58 := fr_at hF 4 rfl; have f62 := fr_at hF 0 rfl; go_simp)) hS rfl (by decide) (fun a22 hA22 hF' => ?_)
                      replace hF := hF'; clear hF'
                      refine tk (i := 22) (d := 64) (v := .slice (some ⟨B, 0, none⟩) n n) hF rfl rfl (by kernel_rfl) (by kernel_rfl) (by kernel_rfl) (fun _ _ _ h => h) (yi_want rfl rfl (fr_at hF 9 rfl) (fun W hW => ex_move W rfl (fr_at hF 23 rfl))) hS rfl (by decide) (fun a23 hA23 hF' => ?_)
                      replace hF := hF'; clear hF'
                      refine wpAnyH_ready (rs := [23]) (by kernel_rfl) (by simp) ?_
                      refine AllReadyH.cons rfl (fun K hK => ?_) AllReadyH.nil
                      rw [if_pos (by rw [guard_at rfl rfl (fr_at hF 10 rfl)]; rfl)]
                      have f63 := fr_at hF 1 rfl
                      have f64 := fr_at hF 0 rfl
                      go_simp
                      clear f63 f64
                      go_at_call 167
                      refine (HO2.out _ hS).mono ?_
                      rintro e wb ⟨rfl, rfl⟩
                      go_wp2_with fail
                      refine hK.out _ _ (hS) (fun _ => ?_)
                      replace hS := hS
                      clear hK K
                      change wpAnyH _ _ _ _ _ _ _ (a23.put (some 65) (.bool true)) _
                      have hF' := fr_put hF 65 (.bool true) rfl (by decide)
                      generalize hA24 : Act.put a23 (some 65) (.bool true) = a24 at hF' ⊢
                      replace hF := hF'; clear hF'
                      refine tk (i := 24) (d := 66) (v := .bool false) hF rfl rfl (by kernel_rfl) (by kernel_rfl) (by kernel_rfl) (fun _ _ _ h => h) (yi_want rfl rfl (fr_at hF 11 rfl) (fun W hW => by have f65 := fr_at hF 0 rfl; go_simp)) hS rfl (by decide) (fun a25 hA25 hF' => ?_)
                      replace hF := hF'; clear hF'
                      refine tk (i := 25) (d := 67) (v := .bool false) hF rfl rfl (by kernel_rfl) (by kernel_rfl) (by kernel_rfl) (fun _ _ _ h => h) (yi_go rfl (fun W hW => by have f54 := fr_at hF 12 rfl; have f66 := fr_at hF 0 rfl; go_simp)) hS rfl (by decide) (fun a26 hA26 hF' => ?_)
                      replace hF := hF'; clear hF'
                      refine wpAnyH_done (by kernel_rfl) ?_ _
                      rw [← hA26, ← hA25, ← hA24, ← hA23, ← hA22, ← hA21, ← hA20, ← hA19, ← hA18, ← hA17, ← hA16, ← hA15, ← hA14, ← hA13, ← hA12, ← hA11, ← hA10, ← hA9, ← hA8, ← hA7, ← hA6, ← hA5, ← hA4, ← hA3, ← hA2, ← hA1, ← hA0]
                      simp only [Act.put, List.setIfInBounds_toArray, List.set_cons_zero, List.set_cons_succ]
                      clear hF
                      go_wp2
                      go_roundw
                      case rel => exact ⟨j + 1, _, rfl, by omega, by go_num, fun j' h => by
                        by_cases e : j' = j
                        · subst e
                          rw [HP.out]
                          rfl
                        · exact H2.out j' (by omega), on HB.out hS⟩
                      case measure => simp [intOf]; omega
                · obtain rfl : j = i := by omega
                  go_wp2
                  go_roundw
                  case rel => exact ⟨j + 1, by omega, by go_num, fun j' h => by
                    by_cases e : j' = j
                    · subst e
                      exact H2.out
                    · exact H1.out j' (by omega), HB⟩
                  case measure => simp [intOf]; omega
            · obtain rfl : i = n := by omega
              have HR := Lib.hid (show (if ((List.range rows.length).all fun i => (List.range i).all fun j => pairs rows i j) = false then 7 else 0) = 0 from if_neg (by
                rw [Bool.not_eq_false, List.all_eq_true]
                intro i' hi'
                rw [List.all_eq_true]
                intro j' hj'
                exact H1.out i' (by have := List.mem_range.1 hi'; have := HN.out; omega) j' (List.mem_range.1 hj')))
              go_wp2
              go_ret
              exact ⟨err_eq (by rw [HREST2.out, HR.out]), on HB1.out HB.out⟩
end Go.Proofs.YtajilghlcfheiaaGreatDoor.Bnd
