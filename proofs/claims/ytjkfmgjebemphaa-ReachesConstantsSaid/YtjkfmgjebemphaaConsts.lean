/- ReachesConstants. -/
import Derived.Test.YtjkfmgjebemphaaAlive
import Derived.Test.YtjkfmgjebemphaaApp2
import Derived.Test.YtjkfmgjebemphaaTake
import Derived.Deep.QuietTactic
import Derived.BigQuiet
namespace Go.Proofs.Ytjkfmgjebemphaa
open Go.RowKit
theorem sameM_self (n : Nat) (M : Nat → Nat → Bool) : sameM n M M = true := sameM_yes fun _ _ => same_yes fun _ _ => rfl
set_option maxRecDepth 20000 in
set_option maxHeartbeats 2000000 in
theorem consts_lim (a : Option Addr) (cap m : Nat) (n : Int) (f : Int) (h : n < 0 ∨ 64 < n ∨ 256 < m) (hm : (m : Int) ≤ 9223372036854775807) (w : World) : Calls Try.prog 4 #[.int .i64 n, .slice a m cap, .int .u8 f] w fun e w' => e = .returned (.bool true) ∧ Below w.heap.size w w' := by
  have HF := Lib.hid (of_lim a cap m n h hm w)
  clear h
  go_enter Try.func4, Try.ntmps4
  go_wp2_with fail
  refine HF.out.mono ?_
  rintro e w1 ⟨rfl, hb1⟩
  have HB := Lib.hid hb1
  clear hb1
  go_wp2_with fail
  refine (alive_any _).mono ?_
  rintro e w6 ⟨rfl, hb6⟩
  have HB6 := Lib.hid (on HB.out hb6)
  clear hb6
  go_wp2
  go_ret
  exact ⟨rfl, HB6.out⟩
set_option maxRecDepth 20000 in
set_option maxHeartbeats 2000000 in
theorem consts_bad (a : Option Addr) (cap : Nat) (L : List Bd) (n m : Nat) (f : Int) (hn : n ≤ 64) (hm : m = L.length) (hm' : m ≤ 256) (ho : L.all (·.ok n) = false) (w : World) (hL : Bds w a L) : Calls Try.prog 4 #[.int .i64 (n : Int), .slice a m cap, .int .u8 f] w fun e w' => e = .returned (.bool true) ∧ Below w.heap.size w w' := by
  have HF := Lib.hid (of_bad a cap L n m hn hm hm' ho w hL)
  clear hm hn ho hL
  go_enter Try.func4, Try.ntmps4
  go_wp2_with fail
  refine HF.out.mono ?_
  rintro e w1 ⟨hb1, rfl⟩
  have HB := Lib.hid hb1
  clear hb1
  go_wp2_with fail
  refine (alive_any _).mono ?_
  rintro e w6 ⟨rfl, hb6⟩
  have HB6 := Lib.hid (on HB.out hb6)
  clear hb6
  go_wp2
  go_ret
  exact ⟨rfl, HB6.out⟩
set_option maxRecDepth 20000 in
set_option maxHeartbeats 2000000 in
theorem consts_none (a : Option Addr) (cap : Nat) (n : Nat) (f : Int) (hn : n ≤ 64) (w : World) : Calls Try.prog 4 #[.int .i64 (n : Int), .slice a (0 : Nat) cap, .int .u8 f] w fun e w' => e = .returned (.bool true) ∧ Below w.heap.size w w' := by
  have HF := Lib.hid (of_ok a cap [] n 0 hn rfl (by omega) rfl w (fun k hk => by simp at hk))
  go_enter Try.func4, Try.ntmps4
  go_wp2_with fail
  refine HF.out.mono ?_
  rintro e w1 ⟨hb1, ax, rfl, hx⟩
  have HB := Lib.hid hb1
  clear hb1 hx
  go_wp2_with fail
  refine (alive_any _).mono ?_
  rintro e w6 ⟨rfl, hb6⟩
  have HB6 := Lib.hid (on HB.out hb6)
  clear hb6
  go_wp2
  go_ret
  exact ⟨rfl, HB6.out⟩
set_option maxRecDepth 20000 in
set_option maxHeartbeats 4000000 in
theorem consts_ok (bb oo cap : Nat) (L : List Bd) (n m q : Nat) (hn : n ≤ 64) (hm : m = L.length) (hm1 : 1 ≤ m) (hm' : m ≤ 256) (hcap : m ≤ cap) (hq : q < 256) (ho : L.all (·.ok n) = true) (w : World) (hL : Bds w (some ⟨bb, oo, none⟩) L) : Calls Try.prog 4 #[.int .i64 (n : Int), .slice (some ⟨bb, oo, none⟩) m cap, .int .u8 (q : Int)] w fun e w' => e = .returned (.bool true) ∧ Below w.heap.size w w' := by
  have HF := Lib.hid (of_ok (some ⟨bb, oo, none⟩) cap L n m hn hm hm' ho w hL)
  have HL0 := Lib.hid hL
  have HO := Lib.hid ho
  have HM := Lib.hid hm
  have d0 : decide (300 < (m : Int)) = false := by simp; omega
  have d1 : ((m : Int) == 0) = false := by rw [beq_eq_false_iff_ne]; omega
  have d2 : (m == 0) = false := by rw [beq_eq_false_iff_ne]; omega
  have d3 : ¬ m = 0 := by omega
  have d4 : ¬ (m : Int) = 0 := by omega
  obtain ⟨k, hk⟩ : ∃ k, k = q % m := ⟨_, rfl⟩
  have hkm : k < m := by rw [hk]; exact Nat.mod_lt _ (by omega)
  have r1 : Int.tmod (q : Int) (m : Int) = (k : Int) := by rw [hk, Int.tmod_eq_emod_of_nonneg (by omega)]; rfl
  have r2 : IntKind.i64.wrap (k : Int) = (k : Int) := by rw [IntKind.wrap_i64]; omega
  have r3 : IntKind.i64.wrap (q : Int) = (q : Int) := by rw [IntKind.wrap_i64]; omega
  have s1 : k ≤ m := by omega
  have s2 : ¬ cap = k := by omega
  have s3 : ¬ cap < k := by omega
  have s4 : k ≤ cap := by omega
  clear hm ho hL hk
  go_enter Try.func4, Try.ntmps4
  go_wp2_with fail
  refine HF.out.mono ?_
  rintro e w1 ⟨hb1, ax, rfl, hx⟩
  have HX1 := Lib.hid hx
  have HB1 := Lib.hid hb1
  have HL := Lib.hid (HL0.out.below hb1)
  clear hb1 hx HL0
  go_wp2_with fail
  refine wp_region_held (S := fun W => Below w1.heap.size w1 W) (by kernel_rfl) ?_
  generalize hA0 : Act.mk _ _ = a0
  have hF := Fr.nil (n := 107) (a := a0) (by rw [← hA0]; rfl)
  replace hF := Fr.cons hF 9 (.int .i64 k) (by rw [← hA0]; rfl)
  replace hF := Fr.cons hF 1 (.slice (some ⟨bb, oo, none⟩) m cap) (by rw [← hA0]; rfl)
  have hS : Below w1.heap.size w1 w1.drew := (Below.refl _ w1).drew
  change wpAnyH _ _ _ _ _ _ _ _ (World.drew _)
  refine tk (i := 0) (d := 41) (v := .slice (some ⟨bb, oo, none⟩) m cap) hF rfl rfl (by kernel_rfl) (by kernel_rfl) (by kernel_rfl) (fun _ _ _ h => h) (yi_go rfl (fun W hW => ex_move W rfl (fr_at hF 0 rfl))) hS rfl (by decide) (fun a1 hA1 hF' => ?_)
  replace hF := hF'; clear hF'
  refine tk (i := 1) (d := 42) (v := .int .i64 k) hF rfl rfl (by kernel_rfl) (by kernel_rfl) (by kernel_rfl) (fun _ _ _ h => h) (yi_go rfl (fun W hW => ex_move W rfl (fr_at hF 2 rfl))) hS rfl (by decide) (fun a2 hA2 hF' => ?_)
  replace hF := hF'; clear hF'
  refine tk (i := 2) (d := 43) (v := .slice (some ⟨bb, oo + k * 4, none⟩) (m - k) (cap - k)) hF rfl rfl (by kernel_rfl) (by kernel_rfl) (by kernel_rfl) (fun _ _ _ h => h) (yi_go rfl (fun W hW => by have f41 := fr_at hF 1 rfl; have f42 := fr_at hF 0 rfl; go_simp)) hS rfl (by decide) (fun a3 hA3 hF' => ?_)
  replace hF := hF'; clear hF'
  refine tk (i := 4) (d := 45) (v := .slice (some ⟨bb, oo, none⟩) m cap) hF rfl rfl (by kernel_rfl) (by kernel_rfl) (by kernel_rfl) (fun _ _ _ h => h) (yi_go rfl (fun W hW => ex_move W rfl (fr_at hF 3 rfl))) hS rfl (by decide) (fun a4 hA4 hF' => ?_)
  replace hF := hF'; clear hF'
  refine tk (i := 5) (d := 46) (v := .int .i64 k) hF rfl rfl (by kernel_rfl) (by kernel_rfl) (by kernel_rfl) (fun _ _ _ h => h) (yi_go rfl (fun W hW => ex_move W rfl (fr_at hF 5 rfl))) hS rfl (by decide) (fun a5 hA5 hF' => ?_)
  replace hF := hF'; clear hF'
  refine tk (i := 6) (d := 47) (v := .slice (some ⟨bb, oo, none⟩) k cap) hF rfl rfl (by kernel_rfl) (by kernel_rfl) (by kernel_rfl) (fun _ _ _ h => h) (yi_go rfl (fun W hW => by have f45 := fr_at hF 1 rfl; have f46 := fr_at hF 0 rfl; go_simp)) hS rfl (by decide) (fun a6 hA6 hF' => ?_)
  replace hF := hF'; clear hF'
  refine wpAnyH_ready (rs := [3]) (by kernel_rfl) (by simp) ?_
  refine AllReadyH.cons rfl (fun K hK => ?_) AllReadyH.nil
  refine step_own rfl (.const (.slice none 0 0)) (.tmp 43) rfl rfl (Own.nil w1.heap.size _) (some ⟨bb, oo + k * 4, none⟩) (m - k) (cap - k) (ev_tmp (fr_at hF 3 rfl)) (by rw [List.length_drop]; have := HM.out; omega) (Bds.drop (HL.out.below hS) k) (fun h => by cases h) (by simp; have := HM.out; omega) hS.size ?_
  intro v1 w2 ho1 hg1
  rw [List.nil_append] at ho1
  have hb1 : Below w1.heap.size w1 w2 := hS.grown hg1 hS.size (fun k hk => by cases hk)
  refine hK.out _ _ hb1 (fun _ => ?_)
  clear hK K
  replace hS := hb1
  change wpAnyH _ _ _ _ _ _ _ (a6.put (some 44) (v1)) _
  have hF' := fr_put hF 44 (v1) rfl (by decide)
  generalize hA7 : Act.put a6 (some 44) (v1) = a7 at hF' ⊢
  replace hF := hF'; clear hF'
  refine wpAnyH_ready (rs := [7]) (by kernel_rfl) (by simp) ?_
  refine AllReadyH.cons rfl (fun K hK => ?_) AllReadyH.nil
  refine step_own rfl (.tmp 44) (.tmp 47) rfl (ev_tmp (fr_at hF 0 rfl)) ho1 (some ⟨bb, oo, none⟩) k cap (ev_tmp (fr_at hF 1 rfl)) (by rw [List.length_take]; have := HM.out; omega) (Bds.take (HL.out.below hS) k) (fun h => by cases h) (by rw [List.length_drop, List.length_take]; have := HM.out; omega) hS.size ?_
  intro v2 w4 ho2 hg2
  have hb4 : Below w1.heap.size w1 w4 := hS.grown hg2 hS.size (fun k hk => (ho1.1.lt k hk).1)
  refine hK.out _ _ hb4 (fun _ => ?_)
  clear hK K
  replace hS := hb4
  obtain ⟨a2, cap2, rfl, hL2, _⟩ := ho2.bds
  have hm2 : (L.drop k ++ L.take k).length = m := by rw [List.length_append, List.length_drop, List.length_take]; have := HM.out; omega
  rw [hm2]
  have HL2 := Lib.hid hL2
  clear ho2 hL2 hg2 ho1 hb4 hg1 hb1
  change wpAnyH _ _ _ _ _ _ _ (a7.put (some 48) (.slice a2 m cap2)) _
  have hF' := fr_put hF 48 (.slice a2 m cap2) rfl (by decide)
  generalize hA8 : Act.put a7 (some 48) (.slice a2 m cap2) = a8 at hF' ⊢
  replace hF := hF'; clear hF'
  refine tk (i := 8) (d := 10) (v := .slice a2 m cap2) hF rfl rfl (by kernel_rfl) (by kernel_rfl) (by kernel_rfl) (fun _ _ _ h => h) (yi_go rfl (fun W hW => ex_assign W rfl (fr_at hF 0 rfl))) hS rfl (by decide) (fun a9 hA9 hF' => ?_)
  replace hF := hF'; clear hF'
  refine wpAnyH_done (by kernel_rfl) ?_ _
  rw [← hA9, ← hA8, ← hA7, ← hA6, ← hA5, ← hA4, ← hA3, ← hA2, ← hA1, ← hA0]
  simp only [Act.put, List.setIfInBounds_toArray, List.set_cons_zero, List.set_cons_succ]
  clear hF
  obtain ⟨MV, hMV⟩ : ∃ MV, MV = L.drop k ++ L.take k := ⟨_, rfl⟩
  rw [← hMV] at HL2 hm2
  have HMM := Lib.hid (show ∀ b, b ∈ L ↔ b ∈ MV from fun b => by rw [hMV, List.mem_append, or_comm, ← List.mem_append, List.take_append_drop])
  have HM2 := Lib.hid hm2
  have HB4 := Lib.hid (on HB1.out hS)
  have HX4 := Lib.hid (HX1.out.below hS)
  have HOV := Lib.hid (show ∀ b ∈ MV, b.ok n = true from fun b hb => List.all_eq_true.1 HO.out b ((HMM.out b).2 hb))
  clear hMV hm2 hS HL HX1 HB1 HF
  go_wp2
  go_loopw [11, 12] (fun v i wr => ∃ k1 : Nat, k1 ≤ m ∧ i = .int .i64 k1 ∧ Hid (Own w4.heap.size wr v (filt (MV.take k1))) ∧ Hid (Below w4.heap.size w4 wr)) (fun _ i _ => m - (intOf i).toNat)
  case atStart => exact ⟨0, by omega, rfl, Own.nil _ _, Below.refl _ w4⟩
  case round =>
    obtain ⟨k1, hk1, rfl, HO1, HW⟩ := hrel
    by_cases hlt : k1 < m
    · have hk1L : k1 < MV.length := by rw [HM2.out]; exact hlt
      obtain ⟨bx, ox, rfl, c0, c1, c2, c3, l1, l2⟩ := (HL2.out.below HW.out) k1 hk1L
      have ht := filt_take MV k1 hk1L
      obtain ⟨va, hva⟩ : ∃ va, va = MV[k1].av := ⟨_, rfl⟩
      obtain ⟨na, hna⟩ : ∃ na, na = MV[k1].an := ⟨_, rfl⟩
      obtain ⟨vb, hvb⟩ : ∃ vb, vb = MV[k1].bv := ⟨_, rfl⟩
      obtain ⟨nb, hnb⟩ : ∃ nb, nb = MV[k1].bn := ⟨_, rfl⟩
      have hbd : MV[k1] = ⟨va, na, vb, nb⟩ := by rw [hva, hna, hvb, hnb]
      rw [← hva, ← hvb] at ht
      rw [← hva] at c0
      rw [← hna] at c1 l1
      rw [← hvb] at c2
      rw [← hnb] at c3 l2
      clear hva hna hvb hnb
      rw [hbd] at ht
      have HT := Lib.hid ht
      have HL1 := Lib.hid (And.intro l1 l2)
      have i1 : (0 : Int) ≤ (k1 : Int) := by omega
      have i2 : (k1 : Int) < (m : Int) := by omega
      have i3 : decide ((k1 : Int) < (m : Int)) = true := by simp; omega
      clear hbd ht l1 l2
      cases va with
      | false =>
        have HO2 := Lib.hid (show Own w4.heap.size wr _ (filt (MV.take (k1 + 1))) by rw [HT.out]; simpa using HO1.out)
        clear HT HO1
        go_wp2
        go_roundw
        case rel => exact ⟨k1 + 1, by omega, by go_num, HO2, HW.out⟩
        case measure => simp [intOf]; omega
      | true =>
        cases vb with
        | false =>
          have HO2 := Lib.hid (show Own w4.heap.size wr _ (filt (MV.take (k1 + 1))) by rw [HT.out]; simpa using HO1.out)
          clear HT HO1
          go_wp2
          go_roundw
          case rel => exact ⟨k1 + 1, by omega, by go_num, HO2, HW.out⟩
          case measure => simp [intOf]; omega
        | true =>
          have HBB := Lib.hid ((Below.refl wr.heap.size wr).alloc (Nat.le_refl _) (.cells #[.bool true, .int .u64 (na : Int), .bool true, .int .u64 (nb : Int)] 33))
          have HOB := Lib.hid (bds_one wr ⟨true, na, true, nb⟩ HL1.out.1 HL1.out.2)
          have hlen : (filt (MV.take k1)).length ≤ 256 := Nat.le_trans (filt_length _) (by rw [List.length_take]; omega)
          have HLE := Lib.hid hlen
          have HSZ := Lib.hid HW.out.size
          clear hlen
          go_wp2_with (at_builtin; refine wpList_own (base := w4.heap.size) rfl (.tmp 69) (.tmp 74) rfl rfl (HO1.out.below HBB.out) (some ⟨wr.heap.size, 0, none⟩) 1 1 rfl rfl HOB.out (fun h => by cases h) (by have := HLE.out; simp; omega) (Nat.le_trans HSZ.out HBB.out.size) ?_; intro v' w' ho hg; have HO2 := Lib.hid ho; have HW2 := Lib.hid ((HW.out.trans (HBB.out.mono HSZ.out)).grown hg (Nat.le_trans HSZ.out HBB.out.size) (fun k hk => ((HO1.out.below HBB.out).1.lt k hk).1)); clear ho hg)
          go_roundw
          case rel => exact ⟨k1 + 1, by omega, by go_num, by rw [HT.out]; exact HO2, HW2⟩
          case measure => simp [intOf]; omega
    · obtain rfl : k1 = m := by omega
      have hfin : MV.take k1 = MV := List.take_of_length_le (by rw [HM2.out]; omega)
      rw [hfin] at HO1
      obtain ⟨a3, cap3, rfl, hL3, _⟩ := HO1.out.bds
      have HL3 := Lib.hid hL3
      have hf3 : (filt MV).length ≤ k1 := by have := filt_length MV; rw [HM2.out] at this; exact this
      have HF3 := Lib.hid hf3
      have HBW := Lib.hid (on HB4.out HW.out)
      have HXW := Lib.hid (HX4.out.below HW.out)
      have HLW := Lib.hid (HL2.out.below HW.out)
      have HQ1 := Lib.hid (reach_congr n (L := MV) (K := L) (fun b _ _ => (HMM.out b).symm))
      have HQ2 := Lib.hid (reach_congr n (L := filt MV) (K := L) (fun b h1 h2 => by rw [HMM.out b]; simp [filt, h1, h2]))
      clear hL3 hf3 hfin HO1 HX4 HB4 HW
      go_wp2_with fail
      refine (of_ok a2 cap2 MV n k1 hn HM2.out.symm (by omega) (by rw [List.all_eq_true]; exact HOV.out) _ HLW.out).mono ?_
      rintro e w5 ⟨hb5, ay, rfl, hy⟩
      have HX5 := Lib.hid (HXW.out.below hb5)
      have HY5 := Lib.hid hy
      have HL5 := Lib.hid (HL3.out.below hb5)
      have HB5 := Lib.hid (on HBW.out hb5)
      clear hb5 hy HXW HBW HL3 HLW
      rw [HQ1.out] at HY5
      go_wp2_with fail
      refine (of_ok a3 cap3 (filt MV) n _ hn rfl (by have := HF3.out; omega) (by rw [List.all_eq_true]; exact fun b hb => HOV.out b (List.mem_filter.1 hb).1) _ HL5.out).mono ?_
      rintro e w6 ⟨hb6, az, rfl, hz⟩
      have HX6 := Lib.hid (HX5.out.below hb6)
      have HY6 := Lib.hid (HY5.out.below hb6)
      have HZ6 := Lib.hid hz
      have HB6 := Lib.hid (on HB5.out hb6)
      clear hb6 hz HX5 HY5 HB5 HL5
      rw [HQ2.out] at HZ6
      go_wp2_with fail
      refine (alive_any _).mono ?_
      rintro e w7 ⟨rfl, hb7⟩
      have HX7 := Lib.hid (HX6.out.below hb7)
      have HY7 := Lib.hid (HY6.out.below hb7)
      have HZ7 := Lib.hid (HZ6.out.below hb7)
      have HB7 := Lib.hid (on HB6.out hb7)
      clear hb7 HX6 HY6 HZ6 HB6
      go_wp2_with fail
      refine (lists_any _ _ n hn (reach n L) (reach n L) _ HX7.out HY7.out).mono ?_
      rintro e w8 ⟨rfl, hb8⟩
      have HX8 := Lib.hid (HX7.out.below hb8)
      have HZ8 := Lib.hid (HZ7.out.below hb8)
      have HB8 := Lib.hid (on HB7.out hb8)
      clear hb8 HX7 HY7 HZ7 HB7
      rw [sameM_self]
      go_wp2_with fail
      refine (lists_any _ _ n hn (reach n L) (reach n L) _ HX8.out HZ8.out).mono ?_
      rintro e w9 ⟨rfl, hb9⟩
      have HB9 := Lib.hid (on HB8.out hb9)
      clear hb9
      rw [sameM_self]
      go_wp2
      go_ret
      exact ⟨rfl, HB9.out⟩
end Go.Proofs.Ytjkfmgjebemphaa
