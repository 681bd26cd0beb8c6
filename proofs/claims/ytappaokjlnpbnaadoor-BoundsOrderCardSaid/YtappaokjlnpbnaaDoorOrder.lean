/- BoundsOrder: the walk. -/
import Derived.Test.YtappaokjlnpbnaaDoorSix
import Derived.Test.YtappaokjlnpbnaaDoorAns
import Derived.Test.YtappaokjlnpbnaaDoorRea
namespace Go.Proofs.YtappaokjlnpbnaaDoor
open Go.RowKit Go.Proofs.YtappaokjlnpbnaaDoorW.PrintWords
set_option linter.unusedVariables false
set_option maxRecDepth 100000 in
set_option maxHeartbeats 4000000 in
theorem order_in (A1 : Option Addr) (n1 c1 : Nat) (rows : List Nat) (s : Bool) (ef vr : Int) (A2 : Option Addr) (m c2 : Nat) (L : List Rea.Bd) (A3 : Option Addr) (k c3 : Nat) (vals : List Nat) (q : Nat) (hq : q < 256)
    (h1 : n1 = rows.length) (hm1 : n1 ≤ 9223372036854775807) (h2 : m = L.length) (hm2 : m ≤ 9223372036854775807) (hcm : m ≤ c2) (h3 : k = vals.length) (hm3 : k ≤ c3) (hc3 : c3 ≤ 9223372036854775807) (w : World) (hR : Nums w A1 rows) (hL : Rea.Bds w A2 L) (hV : Nums w A3 vals) (hT : Tab w) :
    Calls Tryd.prog 12 #[.agg #[.slice A1 n1 c1, .bool s, .int .i64 ef, .int .i64 vr, .slice A2 m c2, .slice A3 k c3], .int .u8 (q : Int)] w fun e w' => e = .returned (.bool true) ∧ Below w.heap.size w w' := by
  have HR := Lib.hid hR
  have HL := Lib.hid hL
  have HV := Lib.hid hV
  have HT := Lib.hid hT
  have H1 := Lib.hid h1
  have H2 := Lib.hid h2
  have H3 := Lib.hid h3
  clear hR hL hV hT h1 h2 h3
  have HZ := Lib.hid (six_cells w (.slice A1 n1 c1) (.bool s) (.int .i64 ef) (.int .i64 vr) (.slice A2 m c2) (.slice A3 k c3) 53)
  have HB0 := Lib.hid (lit_below w (.cells #[.slice A1 n1 c1, .bool s, .int .i64 ef, .int .i64 vr, .slice A2 m c2, .slice A3 k c3] 53))
  obtain ⟨z0, z1, z2, z3, z4, z5⟩ := HZ.out
  have HGR := Lib.hid (fun W => great_any A1 n1 c1 s ef vr A2 m c2 A3 k c3 W)
  have HGK := Lib.hid (show greatB n1 m k = false → m ≤ 300 ∧ k ≤ 200 from fun h => by unfold greatB at h; simp at h; omega)
  have HSO := Lib.hid (fun W (h : Below w.heap.size w W) => sort_any A1 n1 c1 s ef vr A2 m c2 A3 k c3 rows H1.out hm1 W (HR.out.below h) (HT.out.below h))
  generalize greatB n1 m k = gr at HGR HGK
  go_enter Tryd.func12, Tryd.ntmps12
  go_wp2_with fail
  obtain ⟨BZ, hBZ⟩ : ∃ B, B = w.heap.size := ⟨_, rfl⟩
  rw [← hBZ] at HZ ⊢
  clear hBZ z0 z1 z2 z3 z4 z5
  generalize hw1 : w.alloc _ = w1 at *
  clear hw1
  refine (HGR.out _).mono ?_
  rintro e w2 ⟨rfl, hb⟩
  obtain ⟨z0, z1, z2, z3, z4, z5⟩ := six_on HZ.out hb
  replace HZ := Lib.hid (six_on HZ.out hb)
  have HB2 := Lib.hid (on HB0.out hb)
  clear hb HB0 HGR
  cases gr with
  | true =>
    go_wp2_with fail
    refine (alive10_any _ (HT.out.below HB2.out)).mono ?_
    rintro e wz ⟨rfl, hb⟩
    have HBz := Lib.hid (on HB2.out hb)
    clear hb
    go_wp2_with fail
    go_ret
    exact ⟨rfl, HBz.out⟩
  | false =>
    clear HGK
    by_cases h0 : m = 0
    · have d0 : ((m : Int) == 0) = true := by simp; omega
      have d1 : (m == 0) = true := by simp; omega
      go_wp2_with fail
      refine (alive10_any _ (HT.out.below HB2.out)).mono ?_
      rintro e wz ⟨rfl, hb⟩
      have HBz := Lib.hid (on HB2.out hb)
      clear hb
      go_wp2_with fail
      go_ret
      exact ⟨rfl, HBz.out⟩
    · by_cases h128 : 128 < m
      · have d0 : ((m : Int) == 0) = false := by simp; omega
        have d1 : (m == 0) = false := by simp; omega
        have d2 : decide (128 < (m : Int)) = true := by simp; omega
        have d3 : decide (128 < m) = true := by simp; omega
        clear h0 h128
        go_wp2_with fail
        refine (alive10_any _ (HT.out.below HB2.out)).mono ?_
        rintro e wz ⟨rfl, hb⟩
        have HBz := Lib.hid (on HB2.out hb)
        clear hb
        go_wp2_with fail
        go_ret
        exact ⟨rfl, HBz.out⟩
      · have d0 : ((m : Int) == 0) = false := by simp; omega
        have d1 : (m == 0) = false := by simp; omega
        have d2 : decide (128 < (m : Int)) = false := by simp; omega
        have d3 : decide (128 < m) = false := by simp; omega
        have d4 : ¬ (m : Int) = 0 := by omega
        obtain ⟨p, hp⟩ : ∃ p, p = q % m := ⟨_, rfl⟩
        have hpm : p < m := by rw [hp]; exact Nat.mod_lt _ (by omega)
        have r1 : Int.tmod (q : Int) (m : Int) = (p : Int) := by rw [hp, Int.tmod_eq_emod_of_nonneg (by omega)]; rfl
        have r2 : IntKind.i64.wrap (p : Int) = (p : Int) := by rw [IntKind.wrap_i64]; omega
        have r3 : IntKind.i64.wrap (q : Int) = (q : Int) := by rw [IntKind.wrap_i64]; omega
        have s1 : p ≤ m := by omega
        have s2 : ¬ c2 = p := by omega
        have s3 : ¬ c2 < p := by omega
        have s4 : p ≤ c2 := by omega
        obtain ⟨bb, oo, eA, hrest⟩ := HL.out 0 (by rw [← H2.out]; omega)
        subst eA
        clear hp hrest
        go_wp2_with fail
        refine (HSO.out _ HB2.out).mono ?_
        rintro e wr ⟨⟨v, rfl, hv, hs⟩, hb⟩
        obtain ⟨z0, z1, z2, z3, z4, z5⟩ := six_on HZ.out hb
        replace HZ := Lib.hid (six_on HZ.out hb)
        have HB3 := Lib.hid (on HB2.out hb)
        have HLr := Lib.hid (HL.out.below HB3.out)
        generalize sortS rows s ef = S at hs
        have HS := Lib.hid hs
        obtain ⟨t, pv, rfl, hsc, hfn⟩ := hs
        clear hb hv hsc hfn HSO HB2
        go_wp2_with fail
        refine wp_region_held (S := fun W => Below wr.heap.size wr W) (by kernel_rfl) ?_
        generalize hA0 : Act.mk _ _ = a0
        have hF := Fr.nil (n := 88) (a := a0) (by rw [← hA0]; rfl)
        replace hF := Fr.cons hF 6 (.int .i64 (p : Int)) (by rw [← hA0]; rfl)
        replace hF := Fr.cons hF 2 (.pointer (some ⟨BZ, 0, none⟩)) (by rw [← hA0]; rfl)
        have hS : Below wr.heap.size wr (World.drew _) := (Below.refl _ wr).drew
        change wpAnyH _ _ _ _ _ _ _ _ (World.drew _)
        refine tk (i := 0) (d := 40) (v := .pointer (some ⟨BZ, 4, none⟩)) hF rfl rfl (by kernel_rfl) (by kernel_rfl) (by kernel_rfl) (fun _ _ _ h => h) (yi_go rfl (fun W hW => by have f2 := fr_at hF 0 rfl; go_simp)) hS rfl (by decide) (fun a1 hA1 hF' => ?_)
        replace hF := hF'; clear hF'
        refine tk (i := 1) (d := 41) (v := .slice (some ⟨bb, oo, none⟩) m c2) hF rfl rfl (by kernel_rfl) (by kernel_rfl) (by kernel_rfl) (fun _ _ _ h => h) (yi_go rfl (fun W hW => by replace z4 := (hW.cell (p := ⟨BZ, 4, none⟩) (World.block_lt_of_cell? _ _ z4)).trans z4; have f40 := fr_at hF 0 rfl; go_simp)) hS rfl (by decide) (fun a2 hA2 hF' => ?_)
        replace hF := hF'; clear hF'
        refine tk (i := 2) (d := 42) (v := .int .i64 (p : Int)) hF rfl rfl (by kernel_rfl) (by kernel_rfl) (by kernel_rfl) (fun _ _ _ h => h) (yi_go rfl (fun W hW => ex_move W rfl (fr_at hF 3 rfl))) hS rfl (by decide) (fun a3 hA3 hF' => ?_)
        replace hF := hF'; clear hF'
        refine tk (i := 3) (d := 43) (v := .slice (some ⟨bb, oo + p * 4, none⟩) (m - p) (c2 - p)) hF rfl rfl (by kernel_rfl) (by kernel_rfl) (by kernel_rfl) (fun _ _ _ h => h) (yi_go rfl (fun W hW => by have f41 := fr_at hF 1 rfl; have f42 := fr_at hF 0 rfl; go_simp)) hS rfl (by decide) (fun a4 hA4 hF' => ?_)
        replace hF := hF'; clear hF'
        refine tk (i := 5) (d := 45) (v := .pointer (some ⟨BZ, 4, none⟩)) hF rfl rfl (by kernel_rfl) (by kernel_rfl) (by kernel_rfl) (fun _ _ _ h => h) (yi_go rfl (fun W hW => by have f2 := fr_at hF 4 rfl; go_simp)) hS rfl (by decide) (fun a5 hA5 hF' => ?_)
        replace hF := hF'; clear hF'
        refine tk (i := 6) (d := 46) (v := .slice (some ⟨bb, oo, none⟩) m c2) hF rfl rfl (by kernel_rfl) (by kernel_rfl) (by kernel_rfl) (fun _ _ _ h => h) (yi_go rfl (fun W hW => by replace z4 := (hW.cell (p := ⟨BZ, 4, none⟩) (World.block_lt_of_cell? _ _ z4)).trans z4; have f45 := fr_at hF 0 rfl; go_simp)) hS rfl (by decide) (fun a6 hA6 hF' => ?_)
        replace hF := hF'; clear hF'
        refine tk (i := 7) (d := 47) (v := .int .i64 (p : Int)) hF rfl rfl (by kernel_rfl) (by kernel_rfl) (by kernel_rfl) (fun _ _ _ h => h) (yi_go rfl (fun W hW => ex_move W rfl (fr_at hF 7 rfl))) hS rfl (by decide) (fun a7 hA7 hF' => ?_)
        replace hF := hF'; clear hF'
        refine tk (i := 8) (d := 48) (v := .slice (some ⟨bb, oo, none⟩) p c2) hF rfl rfl (by kernel_rfl) (by kernel_rfl) (by kernel_rfl) (fun _ _ _ h => h) (yi_go rfl (fun W hW => by have f46 := fr_at hF 1 rfl; have f47 := fr_at hF 0 rfl; go_simp)) hS rfl (by decide) (fun a8 hA8 hF' => ?_)
        replace hF := hF'; clear hF'
        refine tk (i := 10) (d := 50) (v := .pointer (some ⟨BZ, 4, none⟩)) hF rfl rfl (by kernel_rfl) (by kernel_rfl) (by kernel_rfl) (fun _ _ _ h => h) (yi_go rfl (fun W hW => by have f2 := fr_at hF 8 rfl; go_simp)) hS rfl (by decide) (fun a9 hA9 hF' => ?_)
        replace hF := hF'; clear hF'
        refine tk (i := 11) (d := 51) (v := .slice (some ⟨bb, oo, none⟩) m c2) hF rfl rfl (by kernel_rfl) (by kernel_rfl) (by kernel_rfl) (fun _ _ _ h => h) (yi_go rfl (fun W hW => by replace z4 := (hW.cell (p := ⟨BZ, 4, none⟩) (World.block_lt_of_cell? _ _ z4)).trans z4; have f50 := fr_at hF 0 rfl; go_simp)) hS rfl (by decide) (fun a10 hA10 hF' => ?_)
        replace hF := hF'; clear hF'
        refine wpAnyH_ready (rs := [4]) (by kernel_rfl) (by simp) ?_
        refine AllReadyH.cons rfl (fun K hK => ?_) AllReadyH.nil
        refine Rea.step_own2 rfl (.const (.slice none 0 0)) (.tmp 43) rfl rfl (Rea.Own.nil wr.heap.size _) (some ⟨bb, oo + p * 4, none⟩) (m - p) (c2 - p) (ev_tmp (fr_at hF 6 rfl)) (by rw [List.length_drop]; have := H2.out; omega) (Rea.Bds.drop (HLr.out.below hS) p) (by simp; have := H2.out; omega) hS.size ?_
        intro v1 wq1 ho1 hg1
        rw [List.nil_append] at ho1
        have hb1 : Below wr.heap.size wr wq1 := hS.grown hg1 hS.size (fun k hk => by cases hk)
        refine hK.out _ _ hb1 (fun _ => ?_)
        clear hK K
        replace hS := hb1
        change wpAnyH _ _ _ _ _ _ _ (a10.put (some 44) (v1)) _
        have hF' := fr_put hF 44 (v1) rfl (by decide)
        generalize hA11 : Act.put a10 (some 44) (v1) = a11 at hF' ⊢
        replace hF := hF'; clear hF'
        refine wpAnyH_ready (rs := [9]) (by kernel_rfl) (by simp) ?_
        refine AllReadyH.cons rfl (fun K hK => ?_) AllReadyH.nil
        refine Rea.step_own2 rfl (.tmp 44) (.tmp 48) rfl (ev_tmp (fr_at hF 0 rfl)) ho1 (some ⟨bb, oo, none⟩) p c2 (ev_tmp (fr_at hF 3 rfl)) (by rw [List.length_take]; have := H2.out; omega) (Rea.Bds.take (HLr.out.below hS) p) (by rw [List.length_drop, List.length_take]; have := H2.out; omega) hS.size ?_
        intro v2 wq2 ho2 hg2
        have hb2 : Below wr.heap.size wr wq2 := hS.grown hg2 hS.size (fun k hk => (ho1.1.lt k hk).1)
        refine hK.out _ _ hb2 (fun _ => ?_)
        clear hK K
        replace hS := hb2
        change wpAnyH _ _ _ _ _ _ _ (a11.put (some 49) (v2)) _
        have hF' := fr_put hF 49 (v2) rfl (by decide)
        generalize hA12 : Act.put a11 (some 49) (v2) = a12 at hF' ⊢
        replace hF := hF'; clear hF'
        refine wpAnyH_ready (rs := [12]) (by kernel_rfl) (by simp) ?_
        refine AllReadyH.cons rfl (fun K hK => ?_) AllReadyH.nil
        refine Rea.step_own2 rfl (.tmp 49) (.tmp 51) rfl (ev_tmp (fr_at hF 0 rfl)) ho2 (some ⟨bb, oo, none⟩) m c2 (ev_tmp (fr_at hF 2 rfl)) H2.out (HLr.out.below hS) (by rw [List.length_append, List.length_drop, List.length_take]; have := H2.out; omega) hS.size ?_
        intro v3 wq3 ho3 hg3
        have hb3 : Below wr.heap.size wr wq3 := hS.grown hg3 hS.size (fun k hk => (ho2.1.lt k hk).1)
        refine hK.out _ _ hb3 (fun _ => ?_)
        clear hK K
        replace hS := hb3
        change wpAnyH _ _ _ _ _ _ _ (a12.put (some 52) (v3)) _
        have hF' := fr_put hF 52 (v3) rfl (by decide)
        generalize hA13 : Act.put a12 (some 52) (v3) = a13 at hF' ⊢
        replace hF := hF'; clear hF'
        refine tk (i := 13) (d := 7) (v := v3) hF rfl rfl (by kernel_rfl) (by kernel_rfl) (by kernel_rfl) (fun _ _ _ h => h) (yi_go rfl (fun W hW => ex_assign W rfl (fr_at hF 0 rfl))) hS rfl (by decide) (fun a14 hA14 hF' => ?_)
        replace hF := hF'; clear hF'
        refine wpAnyH_done (by kernel_rfl) ?_ _
        rw [← hA14, ← hA13, ← hA12, ← hA11, ← hA10, ← hA9, ← hA8, ← hA7, ← hA6, ← hA5, ← hA4, ← hA3, ← hA2, ← hA1, ← hA0]
        simp only [Act.put, List.setIfInBounds_toArray, List.set_cons_zero, List.set_cons_succ]
        clear hF
        obtain ⟨MV, hMV⟩ : ∃ MV, MV = L.drop p ++ L.take p ++ L := ⟨_, rfl⟩
        have HMM := Lib.hid (show ∀ b, b ∈ L ↔ b ∈ MV from fun b => by rw [hMV, List.mem_append]; exact ⟨.inr, fun h => h.elim (fun h => (List.mem_append.1 h).elim List.mem_of_mem_drop List.mem_of_mem_take) id⟩)
        have HLM := Lib.hid (show MV.length ≤ 256 by rw [hMV]; simp; have := H2.out; omega)
        have HLL := Lib.hid (show L.length ≤ 256 by have := H2.out; omega)
        rw [← hMV] at ho3
        obtain ⟨a3, cap3, rfl, hL3, _⟩ := ho3.bds
        obtain ⟨m3, hm3⟩ : ∃ m3, m3 = MV.length := ⟨_, rfl⟩
        rw [← hm3]
        have HM3 := Lib.hid hm3
        have HL3 := Lib.hid hL3
        obtain ⟨z0, z1, z2, z3, z4, z5⟩ := six_on HZ.out hS
        replace HZ := Lib.hid (six_on HZ.out hS)
        have HB4 := Lib.hid (on HB3.out hS)
        have HS4 := Lib.hid (HS.out.below hS)
        have HL4 := Lib.hid (HLr.out.below hS)
        clear hMV hm3 hL3 ho1 ho2 ho3 hg1 hg2 hg3 hb1 hb2 hb3 hS HLr HB3
        go_wp2_with fail
        refine (solve_ans (.iface t pv) S HS.out.fn vr (some ⟨bb, oo, none⟩) m c2 L H2.out _ HS4.out.n HL4.out).mono ?_
        rintro e w5 ⟨hb, A, B, ca, xs, ys, e1, rfl, hans, hc1, hc2, hc64, hn1, hn2⟩
        obtain ⟨z0, z1, z2, z3, z4, z5⟩ := six_on HZ.out hb
        replace HZ := Lib.hid (six_on HZ.out hb)
        have HB5 := Lib.hid (on HB4.out hb)
        have HS5 := Lib.hid (HS4.out.below hb)
        have HL5 := Lib.hid (HL3.out.below hb)
        have HA1 := Lib.hid hans
        have HC1 := Lib.hid hc1
        have HC2 := Lib.hid hc2
        have HN1 := Lib.hid hn1
        have HN2 := Lib.hid hn2
        clear hb hans hc1 hc2 hn1 hn2 HB4 HS4 HL3 HL4
        go_wp2_with fail
        refine (solve_ans (.iface t pv) S HS.out.fn vr a3 m3 cap3 MV HM3.out _ HS5.out.n HL5.out).mono ?_
        rintro e w6 ⟨hb, A', B', ca', xs', ys', e2, rfl, hans, hc1, hc2, hc64', hn1, hn2⟩
        obtain ⟨rfl, rfl, rfl⟩ := ans_same HS.out.fn HA1.out hans (chk_mem HMM.out HLL.out HLM.out) (sol_mem HMM.out)
        have HB6 := Lib.hid (on HB5.out hb)
        have HN1' := Lib.hid (HN1.out.below hb)
        have HN2' := Lib.hid (HN2.out.below hb)
        have HC3 := Lib.hid hc1
        have HC4 := Lib.hid hc2
        have HN3 := Lib.hid hn1
        have HN4 := Lib.hid hn2
        clear hb hans hc1 hc2 hn1 hn2 HB5 HS5 HL5 HN1 HN2 z0 z1 z2 z3 z4 z5
        go_wp2_with fail
        refine (alive10_any _ (HT.out.below HB6.out)).mono ?_
        rintro e w7 ⟨rfl, hb⟩
        have HB7 := Lib.hid hb
        clear hb
        have de : ((e1 : Int) == (e1 : Int)) = true := by simp
        go_wp2_with fail
        refine (same_nums A ca ca A' ca' ca' xs xs HC1.out HC3.out (by omega) (by omega) _ (HN1'.out.below HB7.out) (HN3.out.below HB7.out)).mono ?_
        rintro e w8 ⟨rfl, hb⟩
        have HB8 := Lib.hid (on HB7.out hb)
        clear hb
        have dx : decide (xs = xs) = true := by simp
        rw [dx]
        go_wp2_with fail
        refine (same_nums B ca ca B' ca' ca' ys ys HC2.out HC4.out (by omega) (by omega) _ (HN2'.out.below HB8.out) (HN4.out.below HB8.out)).mono ?_
        rintro e w9 ⟨rfl, hb⟩
        have HB9 := Lib.hid (on HB6.out (on HB8.out hb))
        clear hb
        have dy : decide (ys = ys) = true := by simp
        rw [dy]
        go_wp2_with fail
        go_ret
        exact ⟨rfl, HB9.out⟩
end Go.Proofs.YtappaokjlnpbnaaDoor
