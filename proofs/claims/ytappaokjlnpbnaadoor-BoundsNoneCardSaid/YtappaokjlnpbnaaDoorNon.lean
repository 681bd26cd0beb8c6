/- BoundsNone: the walk. -/
import Derived.Test.YtappaokjlnpbnaaDoorSix
import Derived.Test.YtappaokjlnpbnaaDoorAns
import Derived.Test.YtappaokjlnpbnaaDoorRefK
import Derived.Test.YtappaokjlnpbnaaDoorLatWalk
namespace Go.Proofs.YtappaokjlnpbnaaDoor
open Go.RowKit Go.Proofs.YtappaokjlnpbnaaDoorW.PrintWords
set_option linter.unusedVariables false
theorem sortn_below {w w' : World} {v : Value} {S : SI} (h : SortN w v S) (hb : Below w.heap.size w w') : SortN w' v S := by
  rcases h with h | ⟨t, p, e, h⟩
  · exact .inl h
  · exact .inr ⟨t, p, e, h.on hb⟩
/-- what Solve answers where there are no values. -/
theorem void_ans {vars : Int} {L : List Rea.Bd} {xs ys : List Nat} {e : Nat} (h : Ans2 voidS vars L xs ys e) : (chkF voidS vars L ≠ 0 → e = chkF voidS vars L) ∧ (chkF voidS vars L = 0 → vars = 0 → e = 0) ∧ (chkF voidS vars L = 0 → vars ≠ 0 → e = 10) := by
  rcases h with ⟨h1, _, _, h2, h3⟩ | ⟨rfl, h1, f, g, hf, _⟩
  · refine ⟨fun hc => by rw [if_neg hc] at h2; exact h2, fun hc hv => ?_, fun hc _ => by rw [if_pos hc] at h2; exact h2⟩
    exfalso
    subst hv
    obtain ⟨_, _, _, hok⟩ := chk_vars hc
    refine h3 hc ⟨fun _ => 0, fun i hi => absurd hi (Nat.not_lt_zero i), fun b hb => ?_⟩
    have h0 := ok_a (hok b hb)
    cases hv : b.av with
    | true => exact absurd (ok_var h0 hv) (Nat.not_lt_zero _)
    | false =>
      have := ok_con h0 hv
      cases this
  · refine ⟨fun hc => absurd h1 hc, fun _ _ => rfl, fun _ hv => ?_⟩
    obtain ⟨k1, _⟩ := chk_vars h1
    have := hf.1.1 0 (by omega)
    cases this
theorem void_solve (v : Value) (vars : Int) (A2 : Option Addr) (m c2 : Nat) (L : List Rea.Bd) (hm : m = L.length) (w : World) (hS : SortN w v voidS) (hL : Rea.Bds w A2 L) :
    Calls Tryd.prog 38 #[v, .int .i64 vars, .slice A2 m c2] w fun e w' => Below w.heap.size w w' ∧ ∃ A B ca e', e = .returned (.tuple #[.slice A ca ca, .slice B ca ca, .int .i64 ((e' : Nat) : Int)]) ∧ ((chkF voidS vars L ≠ 0 → e' = chkF voidS vars L) ∧ (chkF voidS vars L = 0 → vars = 0 → e' = 0) ∧ (chkF voidS vars L = 0 → vars ≠ 0 → e' = 10)) := by
  refine (solve_ans v voidS (.inr void_none) vars A2 m c2 L hm w hS hL).mono ?_
  rintro e w' ⟨hb, A, B, ca, xs, ys, e', rfl, hans, _⟩
  exact ⟨hb, A, B, ca, e', rfl, void_ans hans⟩
theorem void_hold (vals : List Nat) (L : List Rea.Bd) : holdF voidS vals L = decide (L.length = 0) := by
  cases L with
  | nil => rfl
  | cons b L =>
    have e : oneH voidS vals b = false := by
      unfold oneH
      show (_ && false) = false
      simp
    simp [holdF, e]
theorem five_cells (w : World) (a b c d e : Value) (ty : TypeId) (j : Nat) (hj : j < 5) (v : Value) (hv : [a, b, c, d, e][j]? = some v) : (w.alloc (.cells #[a, b, c, d, e] ty)).cell? ⟨w.heap.size, j, none⟩ = some v := by
  have k := heap_alloc_new w (.cells #[a, b, c, d, e] ty)
  rw [cell_of_row _ _ _ _ _ _ k]
  simpa using hv
theorem void_rows : sortS [] false 0 = voidS := by
  unfold sortS
  rw [if_neg (by decide), if_neg (by decide)]
theorem void_sets : sortS [] true (-1) = voidS := by
  unfold sortS
  rw [if_pos rfl, if_pos (by decide)]
set_option maxRecDepth 100000 in
set_option maxHeartbeats 16000000 in
theorem non_in (A1 : Option Addr) (n1 c1 : Nat) (rows : List Nat) (s : Bool) (ef vr : Int) (A2 : Option Addr) (m c2 : Nat) (L : List Rea.Bd) (A3 : Option Addr) (k c3 : Nat) (vals : List Nat)
    (h1 : n1 = rows.length) (hm1 : n1 ≤ 9223372036854775807) (h2 : m = L.length) (hm2 : m ≤ 9223372036854775807) (h3 : k = vals.length) (hm3 : k ≤ c3) (hc3 : c3 ≤ 9223372036854775807) (w : World) (hR : Nums w A1 rows) (hL : Rea.Bds w A2 L) (hV : Nums w A3 vals) (hT : Tab w) :
    Calls Tryd.prog 9 #[.agg #[.slice A1 n1 c1, .bool s, .int .i64 ef, .int .i64 vr, .slice A2 m c2, .slice A3 k c3]] w fun e w' => e = .returned (.bool true) ∧ Below w.heap.size w w' := by
  have HR := Lib.hid hR
  have HL := Lib.hid hL
  have HV := Lib.hid hV
  have HT := Lib.hid hT
  have H1 := Lib.hid h1
  have H2 := Lib.hid h2
  have H3 := Lib.hid h3
  clear hR hL hV hT h1 h2 h3
  have HZ := Lib.hid (six_cells w (.slice A1 n1 c1) (.bool s) (.int .i64 ef) (.int .i64 vr) (.slice A2 m c2) (.slice A3 k c3) 53)
  have HB0 := Lib.hid (lit_below w (.cells #[.slice A1 n1 c1, .bool s, .int .i64 ef, .int .i64 vr, .slice A2 m c2, .slice A3 k c3] 53))
  obtain ⟨z0, z1, z2, z3, z4, z5⟩ := HZ.out
  have HGR := Lib.hid (fun W => great_any A1 n1 c1 s ef vr A2 m c2 A3 k c3 W)
  have HGK := Lib.hid (show greatB n1 m k = false → m ≤ 300 ∧ k ≤ 200 from fun h => by unfold greatB at h; simp at h; omega)
  have HSO := Lib.hid (fun W (h : Below w.heap.size w W) => sort_any A1 n1 c1 s ef vr A2 m c2 A3 k c3 rows H1.out hm1 W (HR.out.below h) (HT.out.below h))
  generalize greatB n1 m k = gr at HGR HGK
  go_enter Tryd.func9, Tryd.ntmps9
  go_wp2_with fail
  obtain ⟨BZ, hBZ⟩ : ∃ B, B = w.heap.size := ⟨_, rfl⟩
  rw [← hBZ] at HZ ⊢
  clear hBZ z0 z1 z2 z3 z4 z5
  generalize hw1 : w.alloc _ = w1 at *
  clear hw1
  refine (HGR.out _).mono ?_
  rintro e w2 ⟨rfl, hb⟩
  obtain ⟨z0, z1, z2, z3, z4, z5⟩ := six_on HZ.out hb
  replace HZ := Lib.hid (six_on HZ.out hb)
  have HB2 := Lib.hid (on HB0.out hb)
  clear hb HB0 HGR
  cases gr with
  | true =>
    go_wp2_with fail
    go_ret
    exact ⟨rfl, HB2.out⟩
  | false =>
    clear HGK HSO
    go_wp2_with fail
    have hO : (w2.alloc (.cells Tryd.zeroCells47 47)).heap[w2.heap.size]? = some (.cells Tryd.zeroCells47 47 (0, 0)) := heap_alloc_new w2 _
    have hb3 := lit_below w2 (.cells Tryd.zeroCells47 47)
    have hs1 : (w2.alloc (.cells Tryd.zeroCells47 47)).heap.size = w2.heap.size + 1 := by show (w2.heap.push _).size = _; rw [Array.size_push]
    obtain ⟨BL, hBL⟩ : ∃ B, B = w2.heap.size := ⟨_, rfl⟩
    have HB3 := Lib.hid (on HB2.out hb3)
    replace HZ := Lib.hid (six_on HZ.out hb3)
    rw [← hBL] at hO hs1
    rw [← hBL]
    clear hBL hb3 HB2 z0 z1 z2 z3 z4 z5
    generalize w2.alloc (.cells Tryd.zeroCells47 47) = w3 at *
    have HLA := Lib.hid (show LatAt w3 BL [] from ⟨by rw [cell_of_row _ _ _ _ _ _ hO, zero47]; rfl, fun i hi => by simp at hi, fun i hi => by simp at hi, .inl rfl⟩)
    have kE := heap_alloc_new w3 (.cells #[.bool false, .int .u64 0] 61)
    rw [hs1] at kE
    have hb4 := lit_below w3 (.cells #[.bool false, .int .u64 0] 61)
    have HB4 := Lib.hid (on HB3.out hb4)
    replace HZ := Lib.hid (six_on HZ.out hb4)
    obtain ⟨BE, hBE⟩ : ∃ B, B = BL + 1 := ⟨_, rfl⟩
    rw [← hBE] at kE
    rw [← hBE]
    have HEF := Lib.hid (show Eff.St (w3.alloc (.cells #[.bool false, .int .u64 0] 61)) (some ⟨BE, 0, none⟩) .none from .not (.inr ⟨BE, 0, rfl, by rw [cell_of_row _ _ _ _ _ _ kE]; rfl⟩))
    have HLV := Lib.hid (show LatV (w3.alloc (.cells #[.bool false, .int .u64 0] 61)) (.pointer (some ⟨BL, 0, none⟩)) [] from LatV.below (.inr ⟨BL, rfl, HLA.out⟩) hb4)
    clear hO hs1 kE hb4 hBE HLA HB3
    generalize w3.alloc (.cells #[.bool false, .int .u64 0] 61) = w4 at *
    have HT4 := Lib.hid (HT.out.below HB4.out)
    have nn : ∀ (W : World), Nums W none [] := fun W => ⟨by simp, by simp⟩
    refine (sort_any none 0 0 false 0 0 none 0 0 none 0 0 [] rfl (by omega) w4 (nn w4) HT4.out).mono ?_
    rintro e w5 ⟨⟨v3, rfl, _, hs3⟩, hb⟩
    rw [void_rows] at hs3
    have HS3 := Lib.hid hs3.n
    obtain ⟨t3, p3, rfl, _, _⟩ := hs3
    have HB45 := Lib.hid hb
    clear hb
    go_wp2_with fail
    refine (sort_any none 0 0 true (-1) 0 none 0 0 none 0 0 [] rfl (by omega) w5 (nn w5) (HT4.out.below HB45.out)).mono ?_
    rintro e w6 ⟨⟨v4, rfl, _, hs4⟩, hb⟩
    rw [void_sets] at hs4
    have HS4 := Lib.hid hs4.n
    obtain ⟨t4, p4, rfl, _, _⟩ := hs4
    have HB56 := Lib.hid hb
    clear hb nn
    go_wp2_with fail
    have HF := Lib.hid (five_cells w6 .nilIface (.iface 24 (.pointer (some ⟨BL, 0, none⟩))) (.iface 59 (.pointer (some ⟨BE, 0, none⟩))) (.iface t3 p3) (.iface t4 p4) 56)
    have hb7 := lit_below w6 (.cells #[.nilIface, .iface 24 (.pointer (some ⟨BL, 0, none⟩)), .iface 59 (.pointer (some ⟨BE, 0, none⟩)), .iface t3 p3, .iface t4 p4] 56)
    have HB46 := Lib.hid (on HB45.out HB56.out)
    have HB47 := Lib.hid (on HB46.out hb7)
    obtain ⟨BQ, hBQ⟩ : ∃ B, B = w6.heap.size := ⟨_, rfl⟩
    rw [← hBQ] at HF ⊢
    have HQ := Lib.hid (show ∀ j, j < 5 → ∃ v, (w6.alloc (.cells #[.nilIface, .iface 24 (.pointer (some ⟨BL, 0, none⟩)), .iface 59 (.pointer (some ⟨BE, 0, none⟩)), .iface t3 p3, .iface t4 p4] 56)).cell? ⟨BQ, j, none⟩ = some v ∧ SortN (w6.alloc (.cells #[.nilIface, .iface 24 (.pointer (some ⟨BL, 0, none⟩)), .iface 59 (.pointer (some ⟨BE, 0, none⟩)), .iface t3 p3, .iface t4 p4] 56)) v voidS from fun j hj => by
      have hj5 : j = 0 ∨ j = 1 ∨ j = 2 ∨ j = 3 ∨ j = 4 := by omega
      rcases hj5 with rfl | rfl | rfl | rfl | rfl
      · exact ⟨_, HF.out 0 hj _ rfl, .inl ⟨rfl, rfl⟩⟩
      · exact ⟨_, HF.out 1 hj _ rfl, sortn_below (w := w4) (.inr ⟨_, _, rfl, lat_sort0 HLV.out HT4.out⟩) HB47.out⟩
      · exact ⟨_, HF.out 2 hj _ rfl, sortn_below (w := w4) (.inr ⟨_, _, rfl, eff_sort0 HEF.out⟩) HB47.out⟩
      · exact ⟨_, HF.out 3 hj _ rfl, sortn_below HS3.out (on HB56.out hb7)⟩
      · exact ⟨_, HF.out 4 hj _ rfl, sortn_below HS4.out hb7⟩)
    have HB7 := Lib.hid (on HB4.out HB47.out)
    replace HZ := Lib.hid (six_on HZ.out HB47.out)
    clear hBQ hb7 HF HB45 HB56 HB46 HB47 HS3 HS4 HEF HLV HT4 HB4
    generalize w6.alloc _ = w7 at *
    have HL7 := Lib.hid (HL.out.below HB7.out)
    have HV7 := Lib.hid (HV.out.below HB7.out)
    have HCR := Lib.hid (fun W (h : Below w7.heap.size w7 W) => rs_check (.agg #[.int .i64 0, .slice none 0 0, .int .i64 0]) voidS vr A2 m c2 L H2.out hm2 W (.inl ⟨rfl, rfl⟩) (HL7.out.below h))
    have HCK := Lib.hid (fun W v (h : Below w7.heap.size w7 W) (hs : SortN W v voidS) => check_all v voidS vr A2 m c2 L H2.out W hs (HL7.out.below h))
    have HSV := Lib.hid (fun W v (h : Below w7.heap.size w7 W) (hs : SortN W v voidS) => void_solve v vr A2 m c2 L H2.out W hs (HL7.out.below h))
    have HHO := Lib.hid (fun W v (h : Below w7.heap.size w7 W) (hs : SortN W v voidS) => hold_any v voidS A3 k c3 vals H3.out (by omega) A2 m c2 L H2.out hm2 W hs (HV7.out.below h) (HL7.out.below h))
    rw [void_hold, ← H2.out] at HHO
    generalize chkF voidS vr L = ck at HCR HCK HSV
    go_loopw [4, 5, 6, 7, 8] (fun x _ _ _ _ wr => ∃ i : Nat, i ≤ 5 ∧ x = .int .i64 i ∧ Hid (Below w7.heap.size w7 wr)) (fun x _ _ _ _ _ => 5 - (intOf x).toNat)
    case atStart => exact ⟨0, by omega, rfl, Below.refl _ _⟩
    case round =>
      obtain ⟨i, hi, rfl, HB⟩ := hrel
      by_cases hi5 : i < 5
      · obtain ⟨v, hcv, hsn⟩ := HQ.out i hi5
        have HSN := Lib.hid (sortn_below hsn HB.out)
        have cv := cell_below hcv HB.out
        have hz := six_on HZ.out HB.out
        obtain ⟨z0, z1, z2, z3, z4, z5⟩ := hz
        have i1 : (0 : Int) ≤ (i : Int) := by omega
        have i2 : (i : Int) < 5 := by omega
        clear hcv hsn
        go_upto_region 7 with fail
        refine wp_region_held (S := fun W => Below wr.heap.size wr W) (by kernel_rfl) ?_
        generalize hA0 : Act.mk _ _ = a0
        have hF := Fr.nil (n := 95) (a := a0) (by rw [← hA0]; rfl)
        replace hF := Fr.cons hF 4 (.int .i64 (i : Int)) (by rw [← hA0]; rfl)
        replace hF := Fr.cons hF 3 (.slice (some ⟨BQ, 0, none⟩) 5 5) (by rw [← hA0]; rfl)
        replace hF := Fr.cons hF 1 (.pointer (some ⟨BZ, 0, none⟩)) (by rw [← hA0]; rfl)
        have hS : Below wr.heap.size wr (World.drew _) := (Below.refl _ wr).drew
        change wpAnyH _ _ _ _ _ _ _ _ (World.drew _)
        refine tk (i := 0) (d := 28) (v := .slice (some ⟨BQ, 0, none⟩) 5 5) hF rfl rfl (by kernel_rfl) (by kernel_rfl) (by kernel_rfl) (fun _ _ _ h => h) (yi_go rfl (fun W hW => ex_move W rfl (fr_at hF 1 rfl))) hS rfl (by decide) (fun a1 hA1 hF' => ?_)
        replace hF := hF'; clear hF'
        refine tk (i := 1) (d := 29) (v := .int .i64 (i : Int)) hF rfl rfl (by kernel_rfl) (by kernel_rfl) (by kernel_rfl) (fun _ _ _ h => h) (yi_go rfl (fun W hW => ex_move W rfl (fr_at hF 3 rfl))) hS rfl (by decide) (fun a2 hA2 hF' => ?_)
        replace hF := hF'; clear hF'
        refine tk (i := 2) (d := 30) (v := .pointer (some ⟨BQ, i, none⟩)) hF rfl rfl (by kernel_rfl) (by kernel_rfl) (by kernel_rfl) (fun _ _ _ h => h) (yi_go rfl (fun W hW => by have f28 := fr_at hF 1 rfl; have f29 := fr_at hF 0 rfl; go_simp)) hS rfl (by decide) (fun a3 hA3 hF' => ?_)
        replace hF := hF'; clear hF'
        refine tk (i := 3) (d := 31) (v := v) hF rfl rfl (by kernel_rfl) (by kernel_rfl) (by kernel_rfl) (fun _ _ _ h => h) (yi_go rfl (fun W hW => by replace cv := (hW.cell (p := ⟨BQ, i, none⟩) (World.block_lt_of_cell? _ _ cv)).trans cv; have f30 := fr_at hF 0 rfl; go_simp)) hS rfl (by decide) (fun a4 hA4 hF' => ?_)
        replace hF := hF'; clear hF'
        refine tk (i := 4) (d := 32) (v := .pointer (some ⟨BZ, 3, none⟩)) hF rfl rfl (by kernel_rfl) (by kernel_rfl) (by kernel_rfl) (fun _ _ _ h => h) (yi_go rfl (fun W hW => by have f1 := fr_at hF 4 rfl; go_simp)) hS rfl (by decide) (fun a5 hA5 hF' => ?_)
        replace hF := hF'; clear hF'
        refine tk (i := 5) (d := 33) (v := .int .i64 vr) hF rfl rfl (by kernel_rfl) (by kernel_rfl) (by kernel_rfl) (fun _ _ _ h => h) (yi_go rfl (fun W hW => by replace z3 := (hW.cell (p := ⟨BZ, 3, none⟩) (World.block_lt_of_cell? _ _ z3)).trans z3; have f32 := fr_at hF 0 rfl; go_simp)) hS rfl (by decide) (fun a6 hA6 hF' => ?_)
        replace hF := hF'; clear hF'
        refine tk (i := 6) (d := 34) (v := .pointer (some ⟨BZ, 4, none⟩)) hF rfl rfl (by kernel_rfl) (by kernel_rfl) (by kernel_rfl) (fun _ _ _ h => h) (yi_go rfl (fun W hW => by have f1 := fr_at hF 6 rfl; go_simp)) hS rfl (by decide) (fun a7 hA7 hF' => ?_)
        replace hF := hF'; clear hF'
        refine tk (i := 7) (d := 35) (v := .slice A2 m c2) hF rfl rfl (by kernel_rfl) (by kernel_rfl) (by kernel_rfl) (fun _ _ _ h => h) (yi_go rfl (fun W hW => by replace z4 := (hW.cell (p := ⟨BZ, 4, none⟩) (World.block_lt_of_cell? _ _ z4)).trans z4; have f34 := fr_at hF 0 rfl; go_simp)) hS rfl (by decide) (fun a8 hA8 hF' => ?_)
        replace hF := hF'; clear hF'
        refine wpAnyH_ready (rs := [8]) (by kernel_rfl) (by simp) ?_
        refine AllReadyH.cons rfl (fun K hK => ?_) AllReadyH.nil
        have f31 := fr_at hF 4 rfl
        have f33 := fr_at hF 2 rfl
        have f35 := fr_at hF 0 rfl
        go_simp
        clear f31 f33 f35
        go_at_call 37
        refine (HCK.out _ v (on HB.out hS) (sortn_below HSN.out hS)).mono ?_
        rintro e wa ⟨rfl, hb⟩
        go_wp2_with fail
        refine hK.out _ _ (on hS hb) (fun _ => ?_)
        replace hS := on hS hb
        clear hK K
        change wpAnyH _ _ _ _ _ _ _ (a8.put (some 36) (.int .i64 ((ck : Nat) : Int))) _
        have hF' := fr_put hF 36 (.int .i64 ((ck : Nat) : Int)) rfl (by decide)
        generalize hA9 : Act.put a8 (some 36) (.int .i64 ((ck : Nat) : Int)) = a9 at hF' ⊢
        replace hF := hF'; clear hF'
        refine tk (i := 9) (d := 5) (v := .int .i64 ((ck : Nat) : Int)) hF rfl rfl (by kernel_rfl) (by kernel_rfl) (by kernel_rfl) (fun _ _ _ h => h) (yi_go rfl (fun W hW => ex_assign W rfl (fr_at hF 0 rfl))) hS rfl (by decide) (fun a10 hA10 hF' => ?_)
        replace hF := hF'; clear hF'
        refine wpAnyH_done (by kernel_rfl) ?_ _
        rw [← hA10, ← hA9, ← hA8, ← hA7, ← hA6, ← hA5, ← hA4, ← hA3, ← hA2, ← hA1, ← hA0]
        simp only [Act.put, List.setIfInBounds_toArray, List.set_cons_zero, List.set_cons_succ]
        clear hF
        replace HB := Lib.hid (on HB.out hS)
        replace HSN := Lib.hid (sortn_below HSN.out hS)
        replace cv := cell_below cv hS
        obtain ⟨z0, z1, z2, z3, z4, z5⟩ := six_on ⟨z0, z1, z2, z3, z4, z5⟩ hS
        clear hS
        generalize wa = wr at *
        go_upto_region 8 with fail
        refine wp_region_held (S := fun W => Below wr.heap.size wr W) (by kernel_rfl) ?_
        generalize hA0 : Act.mk _ _ = a0
        have hF := Fr.nil (n := 95) (a := a0) (by rw [← hA0]; rfl)
        replace hF := Fr.cons hF 4 (.int .i64 (i : Int)) (by rw [← hA0]; rfl)
        replace hF := Fr.cons hF 3 (.slice (some ⟨BQ, 0, none⟩) 5 5) (by rw [← hA0]; rfl)
        replace hF := Fr.cons hF 1 (.pointer (some ⟨BZ, 0, none⟩)) (by rw [← hA0]; rfl)
        have hS : Below wr.heap.size wr (World.drew _) := (Below.refl _ wr).drew
        change wpAnyH _ _ _ _ _ _ _ _ (World.drew _)
        refine tk (i := 0) (d := 38) (v := .slice (some ⟨BQ, 0, none⟩) 5 5) hF rfl rfl (by kernel_rfl) (by kernel_rfl) (by kernel_rfl) (fun _ _ _ h => h) (yi_go rfl (fun W hW => ex_move W rfl (fr_at hF 1 rfl))) hS rfl (by decide) (fun a1 hA1 hF' => ?_)
        replace hF := hF'; clear hF'
        refine tk (i := 1) (d := 39) (v := .int .i64 (i : Int)) hF rfl rfl (by kernel_rfl) (by kernel_rfl) (by kernel_rfl) (fun _ _ _ h => h) (yi_go rfl (fun W hW => ex_move W rfl (fr_at hF 3 rfl))) hS rfl (by decide) (fun a2 hA2 hF' => ?_)
        replace hF := hF'; clear hF'
        refine tk (i := 2) (d := 40) (v := .pointer (some ⟨BQ, i, none⟩)) hF rfl rfl (by kernel_rfl) (by kernel_rfl) (by kernel_rfl) (fun _ _ _ h => h) (yi_go rfl (fun W hW => by have f38 := fr_at hF 1 rfl; have f39 := fr_at hF 0 rfl; go_simp)) hS rfl (by decide) (fun a3 hA3 hF' => ?_)
        replace hF := hF'; clear hF'
        refine tk (i := 3) (d := 41) (v := v) hF rfl rfl (by kernel_rfl) (by kernel_rfl) (by kernel_rfl) (fun _ _ _ h => h) (yi_go rfl (fun W hW => by replace cv := (hW.cell (p := ⟨BQ, i, none⟩) (World.block_lt_of_cell? _ _ cv)).trans cv; have f40 := fr_at hF 0 rfl; go_simp)) hS rfl (by decide) (fun a4 hA4 hF' => ?_)
        replace hF := hF'; clear hF'
        refine tk (i := 4) (d := 42) (v := .pointer (some ⟨BZ, 3, none⟩)) hF rfl rfl (by kernel_rfl) (by kernel_rfl) (by kernel_rfl) (fun _ _ _ h => h) (yi_go rfl (fun W hW => by have f1 := fr_at hF 4 rfl; go_simp)) hS rfl (by decide) (fun a5 hA5 hF' => ?_)
        replace hF := hF'; clear hF'
        refine tk (i := 5) (d := 43) (v := .int .i64 vr) hF rfl rfl (by kernel_rfl) (by kernel_rfl) (by kernel_rfl) (fun _ _ _ h => h) (yi_go rfl (fun W hW => by replace z3 := (hW.cell (p := ⟨BZ, 3, none⟩) (World.block_lt_of_cell? _ _ z3)).trans z3; have f42 := fr_at hF 0 rfl; go_simp)) hS rfl (by decide) (fun a6 hA6 hF' => ?_)
        replace hF := hF'; clear hF'
        refine tk (i := 6) (d := 44) (v := .pointer (some ⟨BZ, 4, none⟩)) hF rfl rfl (by kernel_rfl) (by kernel_rfl) (by kernel_rfl) (fun _ _ _ h => h) (yi_go rfl (fun W hW => by have f1 := fr_at hF 6 rfl; go_simp)) hS rfl (by decide) (fun a7 hA7 hF' => ?_)
        replace hF := hF'; clear hF'
        refine tk (i := 7) (d := 45) (v := .slice A2 m c2) hF rfl rfl (by kernel_rfl) (by kernel_rfl) (by kernel_rfl) (fun _ _ _ h => h) (yi_go rfl (fun W hW => by replace z4 := (hW.cell (p := ⟨BZ, 4, none⟩) (World.block_lt_of_cell? _ _ z4)).trans z4; have f44 := fr_at hF 0 rfl; go_simp)) hS rfl (by decide) (fun a8 hA8 hF' => ?_)
        replace hF := hF'; clear hF'
        refine wpAnyH_ready (rs := [8]) (by kernel_rfl) (by simp) ?_
        refine AllReadyH.cons rfl (fun K hK => ?_) AllReadyH.nil
        have f41 := fr_at hF 4 rfl
        have f43 := fr_at hF 2 rfl
        have f45 := fr_at hF 0 rfl
        go_simp
        clear f41 f43 f45
        go_at_call 38
        refine (HSV.out _ v (on HB.out hS) (sortn_below HSN.out hS)).mono ?_
        rintro e wa ⟨hb, A, B, ca, e1, rfl, hls⟩
        have HLS := Lib.hid hls
        clear hls
        go_wp2_with fail
        refine hK.out _ _ (on hS hb) (fun _ => ?_)
        replace hS := on hS hb
        clear hK K
        change wpAnyH _ _ _ _ _ _ _ (a8.put (some 46) (.tuple #[.slice A ca ca, .slice B ca ca, .int .i64 ((e1 : Nat) : Int)])) _
        have hF' := fr_put hF 46 (.tuple #[.slice A ca ca, .slice B ca ca, .int .i64 ((e1 : Nat) : Int)]) rfl (by decide)
        generalize hA9 : Act.put a8 (some 46) (.tuple #[.slice A ca ca, .slice B ca ca, .int .i64 ((e1 : Nat) : Int)]) = a9 at hF' ⊢
        replace hF := hF'; clear hF'
        refine tk (i := 9) (d := 37) (v := .tuple #[.slice A ca ca, .slice B ca ca, .int .i64 ((e1 : Nat) : Int)]) hF rfl rfl (by kernel_rfl) (by kernel_rfl) (by kernel_rfl) (fun _ _ _ h => h) (yi_go rfl (fun W hW => ex_move W rfl (fr_at hF 0 rfl))) hS rfl (by decide) (fun a10 hA10 hF' => ?_)
        replace hF := hF'; clear hF'
        refine tk (i := 10) (d := 47) (v := .slice A ca ca) hF rfl rfl (by kernel_rfl) (by kernel_rfl) (by kernel_rfl) (fun _ _ _ h => h) (yi_go rfl (fun W hW => by have f37 := fr_at hF 0 rfl; go_simp)) hS rfl (by decide) (fun a11 hA11 hF' => ?_)
        replace hF := hF'; clear hF'
        refine tk (i := 11) (d := 48) (v := .slice B ca ca) hF rfl rfl (by kernel_rfl) (by kernel_rfl) (by kernel_rfl) (fun _ _ _ h => h) (yi_go rfl (fun W hW => by have f37 := fr_at hF 1 rfl; go_simp)) hS rfl (by decide) (fun a12 hA12 hF' => ?_)
        replace hF := hF'; clear hF'
        refine tk (i := 12) (d := 49) (v := .int .i64 ((e1 : Nat) : Int)) hF rfl rfl (by kernel_rfl) (by kernel_rfl) (by kernel_rfl) (fun _ _ _ h => h) (yi_go rfl (fun W hW => by have f37 := fr_at hF 2 rfl; go_simp)) hS rfl (by decide) (fun a13 hA13 hF' => ?_)
        replace hF := hF'; clear hF'
        refine tk (i := 13) (d := 6) (v := .slice A ca ca) hF rfl rfl (by kernel_rfl) (by kernel_rfl) (by kernel_rfl) (fun _ _ _ h => h) (yi_go rfl (fun W hW => ex_assign W rfl (fr_at hF 2 rfl))) hS rfl (by decide) (fun a14 hA14 hF' => ?_)
        replace hF := hF'; clear hF'
        refine tk (i := 14) (d := 7) (v := .slice B ca ca) hF rfl rfl (by kernel_rfl) (by kernel_rfl) (by kernel_rfl) (fun _ _ _ h => h) (yi_go rfl (fun W hW => ex_assign W rfl (fr_at hF 2 rfl))) hS rfl (by decide) (fun a15 hA15 hF' => ?_)
        replace hF := hF'; clear hF'
        refine tk (i := 15) (d := 8) (v := .int .i64 ((e1 : Nat) : Int)) hF rfl rfl (by kernel_rfl) (by kernel_rfl) (by kernel_rfl) (fun _ _ _ h => h) (yi_go rfl (fun W hW => ex_assign W rfl (fr_at hF 2 rfl))) hS rfl (by decide) (fun a16 hA16 hF' => ?_)
        replace hF := hF'; clear hF'
        refine wpAnyH_done (by kernel_rfl) ?_ _
        rw [← hA16, ← hA15, ← hA14, ← hA13, ← hA12, ← hA11, ← hA10, ← hA9, ← hA8, ← hA7, ← hA6, ← hA5, ← hA4, ← hA3, ← hA2, ← hA1, ← hA0]
        simp only [Act.put, List.setIfInBounds_toArray, List.set_cons_zero, List.set_cons_succ]
        clear hF
        replace HB := Lib.hid (on HB.out hS)
        replace HSN := Lib.hid (sortn_below HSN.out hS)
        replace cv := cell_below cv hS
        obtain ⟨z0, z1, z2, z3, z4, z5⟩ := six_on ⟨z0, z1, z2, z3, z4, z5⟩ hS
        clear hS
        generalize wa = wr at *
        have l1 := HLS.out
        by_cases hck : ck = 0
        · subst hck
          by_cases hv : vr = 0
          · have v0 : (vr == 0) = true := by simp; omega
            have hx := l1.2.1 rfl hv
            subst hx
            clear hv l1 HLS
            by_cases hm0 : m = 0
            · have m0 : ((m : Int) == 0) = true := by simp; omega
              have m1 : (m == 0) = true := by simp; omega
              have dm : decide (m = 0) = true := by simp; omega
              rw [dm] at HHO
              clear hm0 dm
              go_upto_region 9 with fail
              refine wp_region_held (S := fun W => Below wr.heap.size wr W) (by kernel_rfl) ?_
              generalize hA0 : Act.mk _ _ = a0
              have hF := Fr.nil (n := 95) (a := a0) (by rw [← hA0]; rfl)
              replace hF := Fr.cons hF 8 (.int .i64 0) (by rw [← hA0]; rfl)
              replace hF := Fr.cons hF 5 (.int .i64 0) (by rw [← hA0]; rfl)
              replace hF := Fr.cons hF 4 (.int .i64 (i : Int)) (by rw [← hA0]; rfl)
              replace hF := Fr.cons hF 3 (.slice (some ⟨BQ, 0, none⟩) 5 5) (by rw [← hA0]; rfl)
              replace hF := Fr.cons hF 1 (.pointer (some ⟨BZ, 0, none⟩)) (by rw [← hA0]; rfl)
              have hS : Below wr.heap.size wr (World.drew _) := (Below.refl _ wr).drew
              change wpAnyH _ _ _ _ _ _ _ _ (World.drew _)
              refine tk (i := 0) (d := 50) (v := .int .i64 0) hF rfl rfl (by kernel_rfl) (by kernel_rfl) (by kernel_rfl) (fun _ _ _ h => h) (yi_go rfl (fun W hW => ex_move W rfl (fr_at hF 3 rfl))) hS rfl (by decide) (fun a1 hA1 hF' => ?_)
              replace hF := hF'; clear hF'
              refine tk (i := 1) (d := 51) (v := .agg #[.int .i64 0, .slice none 0 0, .int .i64 0]) hF rfl rfl (by kernel_rfl) (by kernel_rfl) (by kernel_rfl) (fun _ _ _ h => h) (yi_go rfl (fun W hW => by go_simp)) hS rfl (by decide) (fun a2 hA2 hF' => ?_)
              replace hF := hF'; clear hF'
              refine tk (i := 2) (d := 52) (v := .pointer (some ⟨BZ, 3, none⟩)) hF rfl rfl (by kernel_rfl) (by kernel_rfl) (by kernel_rfl) (fun _ _ _ h => h) (yi_go rfl (fun W hW => by have f1 := fr_at hF 2 rfl; go_simp)) hS rfl (by decide) (fun a3 hA3 hF' => ?_)
              replace hF := hF'; clear hF'
              refine tk (i := 3) (d := 53) (v := .int .i64 vr) hF rfl rfl (by kernel_rfl) (by kernel_rfl) (by kernel_rfl) (fun _ _ _ h => h) (yi_go rfl (fun W hW => by replace z3 := (hW.cell (p := ⟨BZ, 3, none⟩) (World.block_lt_of_cell? _ _ z3)).trans z3; have f52 := fr_at hF 0 rfl; go_simp)) hS rfl (by decide) (fun a4 hA4 hF' => ?_)
              replace hF := hF'; clear hF'
              refine tk (i := 4) (d := 54) (v := .pointer (some ⟨BZ, 4, none⟩)) hF rfl rfl (by kernel_rfl) (by kernel_rfl) (by kernel_rfl) (fun _ _ _ h => h) (yi_go rfl (fun W hW => by have f1 := fr_at hF 4 rfl; go_simp)) hS rfl (by decide) (fun a5 hA5 hF' => ?_)
              replace hF := hF'; clear hF'
              refine tk (i := 5) (d := 55) (v := .slice A2 m c2) hF rfl rfl (by kernel_rfl) (by kernel_rfl) (by kernel_rfl) (fun _ _ _ h => h) (yi_go rfl (fun W hW => by replace z4 := (hW.cell (p := ⟨BZ, 4, none⟩) (World.block_lt_of_cell? _ _ z4)).trans z4; have f54 := fr_at hF 0 rfl; go_simp)) hS rfl (by decide) (fun a6 hA6 hF' => ?_)
              replace hF := hF'; clear hF'
              refine wpAnyH_ready (rs := [6]) (by kernel_rfl) (by simp) ?_
              refine AllReadyH.cons rfl (fun K hK => ?_) AllReadyH.nil
              have f51 := fr_at hF 4 rfl
              have f53 := fr_at hF 2 rfl
              have f55 := fr_at hF 0 rfl
              go_simp
              clear f51 f53 f55
              go_at_call 39
              refine (HCR.out _ (on HB.out hS)).mono ?_
              rintro e wa ⟨rfl, hb⟩
              go_wp2_with fail
              refine hK.out _ _ (on hS hb) (fun _ => ?_)
              replace hS := on hS hb
              clear hK K
              change wpAnyH _ _ _ _ _ _ _ (a6.put (some 56) (.int .i64 0)) _
              have hF' := fr_put hF 56 (.int .i64 0) rfl (by decide)
              generalize hA7 : Act.put a6 (some 56) (.int .i64 0) = a7 at hF' ⊢
              replace hF := hF'; clear hF'
              refine tk (i := 7) (d := 57) (v := .bool false) hF rfl rfl (by kernel_rfl) (by kernel_rfl) (by kernel_rfl) (fun _ _ _ h => h) (yi_go rfl (fun W hW => by have f50 := fr_at hF 6 rfl; have f56 := fr_at hF 0 rfl; go_simp)) hS rfl (by decide) (fun a8 hA8 hF' => ?_)
              replace hF := hF'; clear hF'
              refine tk (i := 8) (d := 58) (v := .bool false) hF rfl rfl (by kernel_rfl) (by kernel_rfl) (by kernel_rfl) (fun _ _ _ h => h) (yi_go rfl (fun W hW => ex_move W rfl (fr_at hF 0 rfl))) hS rfl (by decide) (fun a9 hA9 hF' => ?_)
              replace hF := hF'; clear hF'
              refine tk (i := 9) (d := 59) (v := .int .i64 0) hF rfl rfl (by kernel_rfl) (by kernel_rfl) (by kernel_rfl) (fun _ _ _ h => h) (yi_want rfl rfl (fr_at hF 0 rfl) (fun W hW => ex_move W rfl (fr_at hF 12 rfl))) hS rfl (by decide) (fun a10 hA10 hF' => ?_)
              replace hF := hF'; clear hF'
              refine tk (i := 10) (d := 60) (v := .bool false) hF rfl rfl (by kernel_rfl) (by kernel_rfl) (by kernel_rfl) (fun _ _ _ h => h) (yi_want rfl rfl (fr_at hF 1 rfl) (fun W hW => by have f59 := fr_at hF 0 rfl; go_simp)) hS rfl (by decide) (fun a11 hA11 hF' => ?_)
              replace hF := hF'; clear hF'
              refine tk (i := 11) (d := 61) (v := .bool false) hF rfl rfl (by kernel_rfl) (by kernel_rfl) (by kernel_rfl) (fun _ _ _ h => h) (yi_want rfl rfl (fr_at hF 2 rfl) (fun W hW => ex_move W rfl (fr_at hF 0 rfl))) hS rfl (by decide) (fun a12 hA12 hF' => ?_)
              replace hF := hF'; clear hF'
              refine tk (i := 12) (d := 62) (v := undef) hF rfl rfl (by kernel_rfl) (by kernel_rfl) (by kernel_rfl) (fun _ _ _ h => h) (yi_skip rfl rfl (fr_at hF 0 rfl)) hS rfl (by decide) (fun a13 hA13 hF' => ?_)
              replace hF := hF'; clear hF'
              refine tk (i := 13) (d := 63) (v := undef) hF rfl rfl (by kernel_rfl) (by kernel_rfl) (by kernel_rfl) (fun _ _ _ h => h) (yi_skip rfl rfl (fr_at hF 1 rfl)) hS rfl (by decide) (fun a14 hA14 hF' => ?_)
              replace hF := hF'; clear hF'
              refine tk (i := 14) (d := 64) (v := undef) hF rfl rfl (by kernel_rfl) (by kernel_rfl) (by kernel_rfl) (fun _ _ _ h => h) (yi_skip rfl rfl (fr_at hF 2 rfl)) hS rfl (by decide) (fun a15 hA15 hF' => ?_)
              replace hF := hF'; clear hF'
              refine tk (i := 15) (d := 65) (v := .bool false) hF rfl rfl (by kernel_rfl) (by kernel_rfl) (by kernel_rfl) (fun _ _ _ h => h) (yi_want rfl rfl (fr_at hF 6 rfl) (fun W hW => by have f61 := fr_at hF 3 rfl; have f64 := fr_at hF 0 rfl; go_simp)) hS rfl (by decide) (fun a16 hA16 hF' => ?_)
              replace hF := hF'; clear hF'
              refine tk (i := 16) (d := 66) (v := .bool false) hF rfl rfl (by kernel_rfl) (by kernel_rfl) (by kernel_rfl) (fun _ _ _ h => h) (yi_go rfl (fun W hW => by have f58 := fr_at hF 7 rfl; have f65 := fr_at hF 0 rfl; go_simp)) hS rfl (by decide) (fun a17 hA17 hF' => ?_)
              replace hF := hF'; clear hF'
              refine tk (i := 17) (d := 67) (v := .bool false) hF rfl rfl (by kernel_rfl) (by kernel_rfl) (by kernel_rfl) (fun _ _ _ h => h) (yi_go rfl (fun W hW => ex_move W rfl (fr_at hF 0 rfl))) hS rfl (by decide) (fun a18 hA18 hF' => ?_)
              replace hF := hF'; clear hF'
              refine tk (i := 18) (d := 68) (v := .int .i64 0) hF rfl rfl (by kernel_rfl) (by kernel_rfl) (by kernel_rfl) (fun _ _ _ h => h) (yi_want rfl rfl (fr_at hF 0 rfl) (fun W hW => ex_move W rfl (fr_at hF 21 rfl))) hS rfl (by decide) (fun a19 hA19 hF' => ?_)
              replace hF := hF'; clear hF'
              refine tk (i := 19) (d := 69) (v := .bool true) hF rfl rfl (by kernel_rfl) (by kernel_rfl) (by kernel_rfl) (fun _ _ _ h => h) (yi_want rfl rfl (fr_at hF 1 rfl) (fun W hW => by have f68 := fr_at hF 0 rfl; go_simp)) hS rfl (by decide) (fun a20 hA20 hF' => ?_)
              replace hF := hF'; clear hF'
              refine tk (i := 20) (d := 70) (v := .bool true) hF rfl rfl (by kernel_rfl) (by kernel_rfl) (by kernel_rfl) (fun _ _ _ h => h) (yi_want rfl rfl (fr_at hF 2 rfl) (fun W hW => ex_move W rfl (fr_at hF 0 rfl))) hS rfl (by decide) (fun a21 hA21 hF' => ?_)
              replace hF := hF'; clear hF'
              refine tk (i := 21) (d := 71) (v := .int .i64 0) hF rfl rfl (by kernel_rfl) (by kernel_rfl) (by kernel_rfl) (fun _ _ _ h => h) (yi_want rfl rfl (fr_at hF 0 rfl) (fun W hW => ex_move W rfl (fr_at hF 25 rfl))) hS rfl (by decide) (fun a22 hA22 hF' => ?_)
              replace hF := hF'; clear hF'
              refine tk (i := 22) (d := 72) (v := .bool true) hF rfl rfl (by kernel_rfl) (by kernel_rfl) (by kernel_rfl) (fun _ _ _ h => h) (yi_want rfl rfl (fr_at hF 1 rfl) (fun W hW => by have f71 := fr_at hF 0 rfl; go_simp)) hS rfl (by decide) (fun a23 hA23 hF' => ?_)
              replace hF := hF'; clear hF'
              refine tk (i := 23) (d := 73) (v := .pointer (some ⟨BZ, 3, none⟩)) hF rfl rfl (by kernel_rfl) (by kernel_rfl) (by kernel_rfl) (fun _ _ _ h => h) (yi_want rfl rfl (fr_at hF 2 rfl) (fun W hW => by have f1 := fr_at hF 23 rfl; go_simp)) hS rfl (by decide) (fun a24 hA24 hF' => ?_)
              replace hF := hF'; clear hF'
              refine tk (i := 24) (d := 74) (v := .int .i64 vr) hF rfl rfl (by kernel_rfl) (by kernel_rfl) (by kernel_rfl) (fun _ _ _ h => h) (yi_want rfl rfl (fr_at hF 3 rfl) (fun W hW => by replace z3 := (hW.cell (p := ⟨BZ, 3, none⟩) (World.block_lt_of_cell? _ _ z3)).trans z3; have f73 := fr_at hF 0 rfl; go_simp)) hS rfl (by decide) (fun a25 hA25 hF' => ?_)
              replace hF := hF'; clear hF'
              refine tk (i := 25) (d := 75) (v := .bool true) hF rfl rfl (by kernel_rfl) (by kernel_rfl) (by kernel_rfl) (fun _ _ _ h => h) (yi_want rfl rfl (fr_at hF 4 rfl) (fun W hW => by have f74 := fr_at hF 0 rfl; go_simp)) hS rfl (by decide) (fun a26 hA26 hF' => ?_)
              replace hF := hF'; clear hF'
              refine tk (i := 26) (d := 76) (v := .bool false) hF rfl rfl (by kernel_rfl) (by kernel_rfl) (by kernel_rfl) (fun _ _ _ h => h) (yi_want rfl rfl (fr_at hF 5 rfl) (fun W hW => by have f72 := fr_at hF 3 rfl; have f75 := fr_at hF 0 rfl; go_simp)) hS rfl (by decide) (fun a27 hA27 hF' => ?_)
              replace hF := hF'; clear hF'
              refine tk (i := 27) (d := 77) (v := .bool false) hF rfl rfl (by kernel_rfl) (by kernel_rfl) (by kernel_rfl) (fun _ _ _ h => h) (yi_want rfl rfl (fr_at hF 9 rfl) (fun W hW => by have f70 := fr_at hF 6 rfl; have f76 := fr_at hF 0 rfl; go_simp)) hS rfl (by decide) (fun a28 hA28 hF' => ?_)
              replace hF := hF'; clear hF'
              refine tk (i := 28) (d := 78) (v := .bool false) hF rfl rfl (by kernel_rfl) (by kernel_rfl) (by kernel_rfl) (fun _ _ _ h => h) (yi_go rfl (fun W hW => by have f67 := fr_at hF 10 rfl; have f77 := fr_at hF 0 rfl; go_simp)) hS rfl (by decide) (fun a29 hA29 hF' => ?_)
              replace hF := hF'; clear hF'
              refine tk (i := 29) (d := 79) (v := .bool false) hF rfl rfl (by kernel_rfl) (by kernel_rfl) (by kernel_rfl) (fun _ _ _ h => h) (yi_go rfl (fun W hW => ex_move W rfl (fr_at hF 0 rfl))) hS rfl (by decide) (fun a30 hA30 hF' => ?_)
              replace hF := hF'; clear hF'
              refine tk (i := 30) (d := 80) (v := .slice (some ⟨BQ, 0, none⟩) 5 5) hF rfl rfl (by kernel_rfl) (by kernel_rfl) (by kernel_rfl) (fun _ _ _ h => h) (yi_want rfl rfl (fr_at hF 0 rfl) (fun W hW => ex_move W rfl (fr_at hF 31 rfl))) hS rfl (by decide) (fun a31 hA31 hF' => ?_)
              replace hF := hF'; clear hF'
              refine tk (i := 31) (d := 81) (v := .int .i64 (i : Int)) hF rfl rfl (by kernel_rfl) (by kernel_rfl) (by kernel_rfl) (fun _ _ _ h => h) (yi_want rfl rfl (fr_at hF 1 rfl) (fun W hW => ex_move W rfl (fr_at hF 33 rfl))) hS rfl (by decide) (fun a32 hA32 hF' => ?_)
              replace hF := hF'; clear hF'
              refine tk (i := 32) (d := 82) (v := .pointer (some ⟨BQ, i, none⟩)) hF rfl rfl (by kernel_rfl) (by kernel_rfl) (by kernel_rfl) (fun _ _ _ h => h) (yi_want rfl rfl (fr_at hF 2 rfl) (fun W hW => by have f80 := fr_at hF 1 rfl; have f81 := fr_at hF 0 rfl; go_simp)) hS rfl (by decide) (fun a33 hA33 hF' => ?_)
              replace hF := hF'; clear hF'
              refine tk (i := 33) (d := 83) (v := v) hF rfl rfl (by kernel_rfl) (by kernel_rfl) (by kernel_rfl) (fun _ _ _ h => h) (yi_want rfl rfl (fr_at hF 3 rfl) (fun W hW => by replace cv := (hW.cell (p := ⟨BQ, i, none⟩) (World.block_lt_of_cell? _ _ cv)).trans cv; have f82 := fr_at hF 0 rfl; go_simp)) hS rfl (by decide) (fun a34 hA34 hF' => ?_)
              replace hF := hF'; clear hF'
              refine tk (i := 34) (d := 84) (v := .pointer (some ⟨BZ, 5, none⟩)) hF rfl rfl (by kernel_rfl) (by kernel_rfl) (by kernel_rfl) (fun _ _ _ h => h) (yi_want rfl rfl (fr_at hF 4 rfl) (fun W hW => by have f1 := fr_at hF 34 rfl; go_simp)) hS rfl (by decide) (fun a35 hA35 hF' => ?_)
              replace hF := hF'; clear hF'
              refine tk (i := 35) (d := 85) (v := .slice A3 k c3) hF rfl rfl (by kernel_rfl) (by kernel_rfl) (by kernel_rfl) (fun _ _ _ h => h) (yi_want rfl rfl (fr_at hF 5 rfl) (fun W hW => by replace z5 := (hW.cell (p := ⟨BZ, 5, none⟩) (World.block_lt_of_cell? _ _ z5)).trans z5; have f84 := fr_at hF 0 rfl; go_simp)) hS rfl (by decide) (fun a36 hA36 hF' => ?_)
              replace hF := hF'; clear hF'
              refine tk (i := 36) (d := 86) (v := .pointer (some ⟨BZ, 4, none⟩)) hF rfl rfl (by kernel_rfl) (by kernel_rfl) (by kernel_rfl) (fun _ _ _ h => h) (yi_want rfl rfl (fr_at hF 6 rfl) (fun W hW => by have f1 := fr_at hF 36 rfl; go_simp)) hS rfl (by decide) (fun a37 hA37 hF' => ?_)
              replace hF := hF'; clear hF'
              refine tk (i := 37) (d := 87) (v := .slice A2 m c2) hF rfl rfl (by kernel_rfl) (by kernel_rfl) (by kernel_rfl) (fun _ _ _ h => h) (yi_want rfl rfl (fr_at hF 7 rfl) (fun W hW => by replace z4 := (hW.cell (p := ⟨BZ, 4, none⟩) (World.block_lt_of_cell? _ _ z4)).trans z4; have f86 := fr_at hF 0 rfl; go_simp)) hS rfl (by decide) (fun a38 hA38 hF' => ?_)
              replace hF := hF'; clear hF'
              refine tk (i := 39) (d := 89) (v := .pointer (some ⟨BZ, 4, none⟩)) hF rfl rfl (by kernel_rfl) (by kernel_rfl) (by kernel_rfl) (fun _ _ _ h => h) (yi_want rfl rfl (fr_at hF 8 rfl) (fun W hW => by have f1 := fr_at hF 38 rfl; go_simp)) hS rfl (by decide) (fun a39 hA39 hF' => ?_)
              replace hF := hF'; clear hF'
              refine tk (i := 40) (d := 90) (v := .slice A2 m c2) hF rfl rfl (by kernel_rfl) (by kernel_rfl) (by kernel_rfl) (fun _ _ _ h => h) (yi_want rfl rfl (fr_at hF 9 rfl) (fun W hW => by replace z4 := (hW.cell (p := ⟨BZ, 4, none⟩) (World.block_lt_of_cell? _ _ z4)).trans z4; have f89 := fr_at hF 0 rfl; go_simp)) hS rfl (by decide) (fun a40 hA40 hF' => ?_)
              replace hF := hF'; clear hF'
              refine tk (i := 41) (d := 91) (v := .int .i64 (m : Int)) hF rfl rfl (by kernel_rfl) (by kernel_rfl) (by kernel_rfl) (fun _ _ _ h => h) (yi_want rfl rfl (fr_at hF 10 rfl) (fun W hW => by have f90 := fr_at hF 0 rfl; go_simp)) hS rfl (by decide) (fun a41 hA41 hF' => ?_)
              replace hF := hF'; clear hF'
              refine tk (i := 42) (d := 92) (v := .bool true) hF rfl rfl (by kernel_rfl) (by kernel_rfl) (by kernel_rfl) (fun _ _ _ h => h) (yi_want rfl rfl (fr_at hF 11 rfl) (fun W hW => by have f91 := fr_at hF 0 rfl; go_simp)) hS rfl (by decide) (fun a42 hA42 hF' => ?_)
              replace hF := hF'; clear hF'
              refine wpAnyH_ready (rs := [38]) (by kernel_rfl) (by simp) ?_
              refine AllReadyH.cons rfl (fun K hK => ?_) AllReadyH.nil
              rw [if_pos (by rw [guard_at rfl rfl (fr_at hF 12 rfl)]; rfl)]
              have f83 := fr_at hF 8 rfl
              have f85 := fr_at hF 6 rfl
              have f87 := fr_at hF 4 rfl
              go_simp
              clear f83 f85 f87
              go_at_call 36
              refine (HHO.out _ v (on HB.out hS) (sortn_below HSN.out hS)).mono ?_
              rintro e wb ⟨rfl, hb⟩
              go_wp2_with fail
              refine hK.out _ _ (on hS hb) (fun _ => ?_)
              replace hS := on hS hb
              clear hK K
              change wpAnyH _ _ _ _ _ _ _ (a42.put (some 88) (.bool true)) _
              have hF' := fr_put hF 88 (.bool true) rfl (by decide)
              generalize hA43 : Act.put a42 (some 88) (.bool true) = a43 at hF' ⊢
              replace hF := hF'; clear hF'
              refine tk (i := 43) (d := 93) (v := .bool false) hF rfl rfl (by kernel_rfl) (by kernel_rfl) (by kernel_rfl) (fun _ _ _ h => h) (yi_want rfl rfl (fr_at hF 13 rfl) (fun W hW => by have f88 := fr_at hF 0 rfl; have f92 := fr_at hF 1 rfl; go_simp)) hS rfl (by decide) (fun a44 hA44 hF' => ?_)
              replace hF := hF'; clear hF'
              refine tk (i := 44) (d := 94) (v := .bool false) hF rfl rfl (by kernel_rfl) (by kernel_rfl) (by kernel_rfl) (fun _ _ _ h => h) (yi_go rfl (fun W hW => by have f79 := fr_at hF 14 rfl; have f93 := fr_at hF 0 rfl; go_simp)) hS rfl (by decide) (fun a45 hA45 hF' => ?_)
              replace hF := hF'; clear hF'
              refine wpAnyH_done (by kernel_rfl) ?_ _
              rw [← hA45, ← hA44, ← hA43, ← hA42, ← hA41, ← hA40, ← hA39, ← hA38, ← hA37, ← hA36, ← hA35, ← hA34, ← hA33, ← hA32, ← hA31, ← hA30, ← hA29, ← hA28, ← hA27, ← hA26, ← hA25, ← hA24, ← hA23, ← hA22, ← hA21, ← hA20, ← hA19, ← hA18, ← hA17, ← hA16, ← hA15, ← hA14, ← hA13, ← hA12, ← hA11, ← hA10, ← hA9, ← hA8, ← hA7, ← hA6, ← hA5, ← hA4, ← hA3, ← hA2, ← hA1, ← hA0]
              simp only [Act.put, List.setIfInBounds_toArray, List.set_cons_zero, List.set_cons_succ]
              clear hF
              have HB9 := Lib.hid (on HB.out hS)
              clear hS
              go_wp2_with fail
              go_roundw
              case rel => exact ⟨i + 1, by omega, by go_num, HB9.out⟩
              case measure => simp [intOf]; omega
            · have m0 : ((m : Int) == 0) = false := by simp; omega
              have m1 : (m == 0) = false := by simp; omega
              have dm : decide (m = 0) = false := by simp; omega
              rw [dm] at HHO
              clear hm0 dm
              go_upto_region 9 with fail
              refine wp_region_held (S := fun W => Below wr.heap.size wr W) (by kernel_rfl) ?_
              generalize hA0 : Act.mk _ _ = a0
              have hF := Fr.nil (n := 95) (a := a0) (by rw [← hA0]; rfl)
              replace hF := Fr.cons hF 8 (.int .i64 0) (by rw [← hA0]; rfl)
              replace hF := Fr.cons hF 5 (.int .i64 0) (by rw [← hA0]; rfl)
              replace hF := Fr.cons hF 4 (.int .i64 (i : Int)) (by rw [← hA0]; rfl)
              replace hF := Fr.cons hF 3 (.slice (some ⟨BQ, 0, none⟩) 5 5) (by rw [← hA0]; rfl)
              replace hF := Fr.cons hF 1 (.pointer (some ⟨BZ, 0, none⟩)) (by rw [← hA0]; rfl)
              have hS : Below wr.heap.size wr (World.drew _) := (Below.refl _ wr).drew
              change wpAnyH _ _ _ _ _ _ _ _ (World.drew _)
              refine tk (i := 0) (d := 50) (v := .int .i64 0) hF rfl rfl (by kernel_rfl) (by kernel_rfl) (by kernel_rfl) (fun _ _ _ h => h) (yi_go rfl (fun W hW => ex_move W rfl (fr_at hF 3 rfl))) hS rfl (by decide) (fun a1 hA1 hF' => ?_)
              replace hF := hF'; clear hF'
              refine tk (i := 1) (d := 51) (v := .agg #[.int .i64 0, .slice none 0 0, .int .i64 0]) hF rfl rfl (by kernel_rfl) (by kernel_rfl) (by kernel_rfl) (fun _ _ _ h => h) (yi_go rfl (fun W hW => by go_simp)) hS rfl (by decide) (fun a2 hA2 hF' => ?_)
              replace hF := hF'; clear hF'
              refine tk (i := 2) (d := 52) (v := .pointer (some ⟨BZ, 3, none⟩)) hF rfl rfl (by kernel_rfl) (by kernel_rfl) (by kernel_rfl) (fun _ _ _ h => h) (yi_go rfl (fun W hW => by have f1 := fr_at hF 2 rfl; go_simp)) hS rfl (by decide) (fun a3 hA3 hF' => ?_)
              replace hF := hF'; clear hF'
              refine tk (i := 3) (d := 53) (v := .int .i64 vr) hF rfl rfl (by kernel_rfl) (by kernel_rfl) (by kernel_rfl) (fun _ _ _ h => h) (yi_go rfl (fun W hW => by replace z3 := (hW.cell (p := ⟨BZ, 3, none⟩) (World.block_lt_of_cell? _ _ z3)).trans z3; have f52 := fr_at hF 0 rfl; go_simp)) hS rfl (by decide) (fun a4 hA4 hF' => ?_)
              replace hF := hF'; clear hF'
              refine tk (i := 4) (d := 54) (v := .pointer (some ⟨BZ, 4, none⟩)) hF rfl rfl (by kernel_rfl) (by kernel_rfl) (by kernel_rfl) (fun _ _ _ h => h) (yi_go rfl (fun W hW => by have f1 := fr_at hF 4 rfl; go_simp)) hS rfl (by decide) (fun a5 hA5 hF' => ?_)
              replace hF := hF'; clear hF'
              refine tk (i := 5) (d := 55) (v := .slice A2 m c2) hF rfl rfl (by kernel_rfl) (by kernel_rfl) (by kernel_rfl) (fun _ _ _ h => h) (yi_go rfl (fun W hW => by replace z4 := (hW.cell (p := ⟨BZ, 4, none⟩) (World.block_lt_of_cell? _ _ z4)).trans z4; have f54 := fr_at hF 0 rfl; go_simp)) hS rfl (by decide) (fun a6 hA6 hF' => ?_)
              replace hF := hF'; clear hF'
              refine wpAnyH_ready (rs := [6]) (by kernel_rfl) (by simp) ?_
              refine AllReadyH.cons rfl (fun K hK => ?_) AllReadyH.nil
              have f51 := fr_at hF 4 rfl
              have f53 := fr_at hF 2 rfl
              have f55 := fr_at hF 0 rfl
              go_simp
              clear f51 f53 f55
              go_at_call 39
              refine (HCR.out _ (on HB.out hS)).mono ?_
              rintro e wa ⟨rfl, hb⟩
              go_wp2_with fail
              refine hK.out _ _ (on hS hb) (fun _ => ?_)
              replace hS := on hS hb
              clear hK K
              change wpAnyH _ _ _ _ _ _ _ (a6.put (some 56) (.int .i64 0)) _
              have hF' := fr_put hF 56 (.int .i64 0) rfl (by decide)
              generalize hA7 : Act.put a6 (some 56) (.int .i64 0) = a7 at hF' ⊢
              replace hF := hF'; clear hF'
              refine tk (i := 7) (d := 57) (v := .bool false) hF rfl rfl (by kernel_rfl) (by kernel_rfl) (by kernel_rfl) (fun _ _ _ h => h) (yi_go rfl (fun W hW => by have f50 := fr_at hF 6 rfl; have f56 := fr_at hF 0 rfl; go_simp)) hS rfl (by decide) (fun a8 hA8 hF' => ?_)
              replace hF := hF'; clear hF'
              refine tk (i := 8) (d := 58) (v := .bool false) hF rfl rfl (by kernel_rfl) (by kernel_rfl) (by kernel_rfl) (fun _ _ _ h => h) (yi_go rfl (fun W hW => ex_move W rfl (fr_at hF 0 rfl))) hS rfl (by decide) (fun a9 hA9 hF' => ?_)
              replace hF := hF'; clear hF'
              refine tk (i := 9) (d := 59) (v := .int .i64 0) hF rfl rfl (by kernel_rfl) (by kernel_rfl) (by kernel_rfl) (fun _ _ _ h => h) (yi_want rfl rfl (fr_at hF 0 rfl) (fun W hW => ex_move W rfl (fr_at hF 12 rfl))) hS rfl (by decide) (fun a10 hA10 hF' => ?_)
              replace hF := hF'; clear hF'
              refine tk (i := 10) (d := 60) (v := .bool false) hF rfl rfl (by kernel_rfl) (by kernel_rfl) (by kernel_rfl) (fun _ _ _ h => h) (yi_want rfl rfl (fr_at hF 1 rfl) (fun W hW => by have f59 := fr_at hF 0 rfl; go_simp)) hS rfl (by decide) (fun a11 hA11 hF' => ?_)
              replace hF := hF'; clear hF'
              refine tk (i := 11) (d := 61) (v := .bool false) hF rfl rfl (by kernel_rfl) (by kernel_rfl) (by kernel_rfl) (fun _ _ _ h => h) (yi_want rfl rfl (fr_at hF 2 rfl) (fun W hW => ex_move W rfl (fr_at hF 0 rfl))) hS rfl (by decide) (fun a12 hA12 hF' => ?_)
              replace hF := hF'; clear hF'
              refine tk (i := 12) (d := 62) (v := undef) hF rfl rfl (by kernel_rfl) (by kernel_rfl) (by kernel_rfl) (fun _ _ _ h => h) (yi_skip rfl rfl (fr_at hF 0 rfl)) hS rfl (by decide) (fun a13 hA13 hF' => ?_)
              replace hF := hF'; clear hF'
              refine tk (i := 13) (d := 63) (v := undef) hF rfl rfl (by kernel_rfl) (by kernel_rfl) (by kernel_rfl) (fun _ _ _ h => h) (yi_skip rfl rfl (fr_at hF 1 rfl)) hS rfl (by decide) (fun a14 hA14 hF' => ?_)
              replace hF := hF'; clear hF'
              refine tk (i := 14) (d := 64) (v := undef) hF rfl rfl (by kernel_rfl) (by kernel_rfl) (by kernel_rfl) (fun _ _ _ h => h) (yi_skip rfl rfl (fr_at hF 2 rfl)) hS rfl (by decide) (fun a15 hA15 hF' => ?_)
              replace hF := hF'; clear hF'
              refine tk (i := 15) (d := 65) (v := .bool false) hF rfl rfl (by kernel_rfl) (by kernel_rfl) (by kernel_rfl) (fun _ _ _ h => h) (yi_want rfl rfl (fr_at hF 6 rfl) (fun W hW => by have f61 := fr_at hF 3 rfl; have f64 := fr_at hF 0 rfl; go_simp)) hS rfl (by decide) (fun a16 hA16 hF' => ?_)
              replace hF := hF'; clear hF'
              refine tk (i := 16) (d := 66) (v := .bool false) hF rfl rfl (by kernel_rfl) (by kernel_rfl) (by kernel_rfl) (fun _ _ _ h => h) (yi_go rfl (fun W hW => by have f58 := fr_at hF 7 rfl; have f65 := fr_at hF 0 rfl; go_simp)) hS rfl (by decide) (fun a17 hA17 hF' => ?_)
              replace hF := hF'; clear hF'
              refine tk (i := 17) (d := 67) (v := .bool false) hF rfl rfl (by kernel_rfl) (by kernel_rfl) (by kernel_rfl) (fun _ _ _ h => h) (yi_go rfl (fun W hW => ex_move W rfl (fr_at hF 0 rfl))) hS rfl (by decide) (fun a18 hA18 hF' => ?_)
              replace hF := hF'; clear hF'
              refine tk (i := 18) (d := 68) (v := .int .i64 0) hF rfl rfl (by kernel_rfl) (by kernel_rfl) (by kernel_rfl) (fun _ _ _ h => h) (yi_want rfl rfl (fr_at hF 0 rfl) (fun W hW => ex_move W rfl (fr_at hF 21 rfl))) hS rfl (by decide) (fun a19 hA19 hF' => ?_)
              replace hF := hF'; clear hF'
              refine tk (i := 19) (d := 69) (v := .bool true) hF rfl rfl (by kernel_rfl) (by kernel_rfl) (by kernel_rfl) (fun _ _ _ h => h) (yi_want rfl rfl (fr_at hF 1 rfl) (fun W hW => by have f68 := fr_at hF 0 rfl; go_simp)) hS rfl (by decide) (fun a20 hA20 hF' => ?_)
              replace hF := hF'; clear hF'
              refine tk (i := 20) (d := 70) (v := .bool true) hF rfl rfl (by kernel_rfl) (by kernel_rfl) (by kernel_rfl) (fun _ _ _ h => h) (yi_want rfl rfl (fr_at hF 2 rfl) (fun W hW => ex_move W rfl (fr_at hF 0 rfl))) hS rfl (by decide) (fun a21 hA21 hF' => ?_)
              replace hF := hF'; clear hF'
              refine tk (i := 21) (d := 71) (v := .int .i64 0) hF rfl rfl (by kernel_rfl) (by kernel_rfl) (by kernel_rfl) (fun _ _ _ h => h) (yi_want rfl rfl (fr_at hF 0 rfl) (fun W hW => ex_move W rfl (fr_at hF 25 rfl))) hS rfl (by decide) (fun a22 hA22 hF' => ?_)
              replace hF := hF'; clear hF'
              refine tk (i := 22) (d := 72) (v := .bool true) hF rfl rfl (by kernel_rfl) (by kernel_rfl) (by kernel_rfl) (fun _ _ _ h => h) (yi_want rfl rfl (fr_at hF 1 rfl) (fun W hW => by have f71 := fr_at hF 0 rfl; go_simp)) hS rfl (by decide) (fun a23 hA23 hF' => ?_)
              replace hF := hF'; clear hF'
              refine tk (i := 23) (d := 73) (v := .pointer (some ⟨BZ, 3, none⟩)) hF rfl rfl (by kernel_rfl) (by kernel_rfl) (by kernel_rfl) (fun _ _ _ h => h) (yi_want rfl rfl (fr_at hF 2 rfl) (fun W hW => by have f1 := fr_at hF 23 rfl; go_simp)) hS rfl (by decide) (fun a24 hA24 hF' => ?_)
              replace hF := hF'; clear hF'
              refine tk (i := 24) (d := 74) (v := .int .i64 vr) hF rfl rfl (by kernel_rfl) (by kernel_rfl) (by kernel_rfl) (fun _ _ _ h => h) (yi_want rfl rfl (fr_at hF 3 rfl) (fun W hW => by replace z3 := (hW.cell (p := ⟨BZ, 3, none⟩) (World.block_lt_of_cell? _ _ z3)).trans z3; have f73 := fr_at hF 0 rfl; go_simp)) hS rfl (by decide) (fun a25 hA25 hF' => ?_)
              replace hF := hF'; clear hF'
              refine tk (i := 25) (d := 75) (v := .bool true) hF rfl rfl (by kernel_rfl) (by kernel_rfl) (by kernel_rfl) (fun _ _ _ h => h) (yi_want rfl rfl (fr_at hF 4 rfl) (fun W hW => by have f74 := fr_at hF 0 rfl; go_simp)) hS rfl (by decide) (fun a26 hA26 hF' => ?_)
              replace hF := hF'; clear hF'
              refine tk (i := 26) (d := 76) (v := .bool false) hF rfl rfl (by kernel_rfl) (by kernel_rfl) (by kernel_rfl) (fun _ _ _ h => h) (yi_want rfl rfl (fr_at hF 5 rfl) (fun W hW => by have f72 := fr_at hF 3 rfl; have f75 := fr_at hF 0 rfl; go_simp)) hS rfl (by decide) (fun a27 hA27 hF' => ?_)
              replace hF := hF'; clear hF'
              refine tk (i := 27) (d := 77) (v := .bool false) hF rfl rfl (by kernel_rfl) (by kernel_rfl) (by kernel_rfl) (fun _ _ _ h => h) (yi_want rfl rfl (fr_at hF 9 rfl) (fun W hW => by have f70 := fr_at hF 6 rfl; have f76 := fr_at hF 0 rfl; go_simp)) hS rfl (by decide) (fun a28 hA28 hF' => ?_)
              replace hF := hF'; clear hF'
              refine tk (i := 28) (d := 78) (v := .bool false) hF rfl rfl (by kernel_rfl) (by kernel_rfl) (by kernel_rfl) (fun _ _ _ h => h) (yi_go rfl (fun W hW => by have f67 := fr_at hF 10 rfl; have f77 := fr_at hF 0 rfl; go_simp)) hS rfl (by decide) (fun a29 hA29 hF' => ?_)
              replace hF := hF'; clear hF'
              refine tk (i := 29) (d := 79) (v := .bool false) hF rfl rfl (by kernel_rfl) (by kernel_rfl) (by kernel_rfl) (fun _ _ _ h => h) (yi_go rfl (fun W hW => ex_move W rfl (fr_at hF 0 rfl))) hS rfl (by decide) (fun a30 hA30 hF' => ?_)
              replace hF := hF'; clear hF'
              refine tk (i := 30) (d := 80) (v := .slice (some ⟨BQ, 0, none⟩) 5 5) hF rfl rfl (by kernel_rfl) (by kernel_rfl) (by kernel_rfl) (fun _ _ _ h => h) (yi_want rfl rfl (fr_at hF 0 rfl) (fun W hW => ex_move W rfl (fr_at hF 31 rfl))) hS rfl (by decide) (fun a31 hA31 hF' => ?_)
              replace hF := hF'; clear hF'
              refine tk (i := 31) (d := 81) (v := .int .i64 (i : Int)) hF rfl rfl (by kernel_rfl) (by kernel_rfl) (by kernel_rfl) (fun _ _ _ h => h) (yi_want rfl rfl (fr_at hF 1 rfl) (fun W hW => ex_move W rfl (fr_at hF 33 rfl))) hS rfl (by decide) (fun a32 hA32 hF' => ?_)
              replace hF := hF'; clear hF'
              refine tk (i := 32) (d := 82) (v := .pointer (some ⟨BQ, i, none⟩)) hF rfl rfl (by kernel_rfl) (by kernel_rfl) (by kernel_rfl) (fun _ _ _ h => h) (yi_want rfl rfl (fr_at hF 2 rfl) (fun W hW => by have f80 := fr_at hF 1 rfl; have f81 := fr_at hF 0 rfl; go_simp)) hS rfl (by decide) (fun a33 hA33 hF' => ?_)
              replace hF := hF'; clear hF'
              refine tk (i := 33) (d := 83) (v := v) hF rfl rfl (by kernel_rfl) (by kernel_rfl) (by kernel_rfl) (fun _ _ _ h => h) (yi_want rfl rfl (fr_at hF 3 rfl) (fun W hW => by replace cv := (hW.cell (p := ⟨BQ, i, none⟩) (World.block_lt_of_cell? _ _ cv)).trans cv; have f82 := fr_at hF 0 rfl; go_simp)) hS rfl (by decide) (fun a34 hA34 hF' => ?_)
              replace hF := hF'; clear hF'
              refine tk (i := 34) (d := 84) (v := .pointer (some ⟨BZ, 5, none⟩)) hF rfl rfl (by kernel_rfl) (by kernel_rfl) (by kernel_rfl) (fun _ _ _ h => h) (yi_want rfl rfl (fr_at hF 4 rfl) (fun W hW => by have f1 := fr_at hF 34 rfl; go_simp)) hS rfl (by decide) (fun a35 hA35 hF' => ?_)
              replace hF := hF'; clear hF'
              refine tk (i := 35) (d := 85) (v := .slice A3 k c3) hF rfl rfl (by kernel_rfl) (by kernel_rfl) (by kernel_rfl) (fun _ _ _ h => h) (yi_want rfl rfl (fr_at hF 5 rfl) (fun W hW => by replace z5 := (hW.cell (p := ⟨BZ, 5, none⟩) (World.block_lt_of_cell? _ _ z5)).trans z5; have f84 := fr_at hF 0 rfl; go_simp)) hS rfl (by decide) (fun a36 hA36 hF' => ?_)
              replace hF := hF'; clear hF'
              refine tk (i := 36) (d := 86) (v := .pointer (some ⟨BZ, 4, none⟩)) hF rfl rfl (by kernel_rfl) (by kernel_rfl) (by kernel_rfl) (fun _ _ _ h => h) (yi_want rfl rfl (fr_at hF 6 rfl) (fun W hW => by have f1 := fr_at hF 36 rfl; go_simp)) hS rfl (by decide) (fun a37 hA37 hF' => ?_)
              replace hF := hF'; clear hF'
              refine tk (i := 37) (d := 87) (v := .slice A2 m c2) hF rfl rfl (by kernel_rfl) (by kernel_rfl) (by kernel_rfl) (fun _ _ _ h => h) (yi_want rfl rfl (fr_at hF 7 rfl) (fun W hW => by replace z4 := (hW.cell (p := ⟨BZ, 4, none⟩) (World.block_lt_of_cell? _ _ z4)).trans z4; have f86 := fr_at hF 0 rfl; go_simp)) hS rfl (by decide) (fun a38 hA38 hF' => ?_)
              replace hF := hF'; clear hF'
              refine tk (i := 39) (d := 89) (v := .pointer (some ⟨BZ, 4, none⟩)) hF rfl rfl (by kernel_rfl) (by kernel_rfl) (by kernel_rfl) (fun _ _ _ h => h) (yi_want rfl rfl (fr_at hF 8 rfl) (fun W hW => by have f1 := fr_at hF 38 rfl; go_simp)) hS rfl (by decide) (fun a39 hA39 hF' => ?_)
              replace hF := hF'; clear hF'
              refine tk (i := 40) (d := 90) (v := .slice A2 m c2) hF rfl rfl (by kernel_rfl) (by kernel_rfl) (by kernel_rfl) (fun _ _ _ h => h) (yi_want rfl rfl (fr_at hF 9 rfl) (fun W hW => by replace z4 := (hW.cell (p := ⟨BZ, 4, none⟩) (World.block_lt_of_cell? _ _ z4)).trans z4; have f89 := fr_at hF 0 rfl; go_simp)) hS rfl (by decide) (fun a40 hA40 hF' => ?_)
              replace hF := hF'; clear hF'
              refine tk (i := 41) (d := 91) (v := .int .i64 (m : Int)) hF rfl rfl (by kernel_rfl) (by kernel_rfl) (by kernel_rfl) (fun _ _ _ h => h) (yi_want rfl rfl (fr_at hF 10 rfl) (fun W hW => by have f90 := fr_at hF 0 rfl; go_simp)) hS rfl (by decide) (fun a41 hA41 hF' => ?_)
              replace hF := hF'; clear hF'
              refine tk (i := 42) (d := 92) (v := .bool false) hF rfl rfl (by kernel_rfl) (by kernel_rfl) (by kernel_rfl) (fun _ _ _ h => h) (yi_want rfl rfl (fr_at hF 11 rfl) (fun W hW => by have f91 := fr_at hF 0 rfl; go_simp)) hS rfl (by decide) (fun a42 hA42 hF' => ?_)
              replace hF := hF'; clear hF'
              refine wpAnyH_ready (rs := [38]) (by kernel_rfl) (by simp) ?_
              refine AllReadyH.cons rfl (fun K hK => ?_) AllReadyH.nil
              rw [if_pos (by rw [guard_at rfl rfl (fr_at hF 12 rfl)]; rfl)]
              have f83 := fr_at hF 8 rfl
              have f85 := fr_at hF 6 rfl
              have f87 := fr_at hF 4 rfl
              go_simp
              clear f83 f85 f87
              go_at_call 36
              refine (HHO.out _ v (on HB.out hS) (sortn_below HSN.out hS)).mono ?_
              rintro e wb ⟨rfl, hb⟩
              go_wp2_with fail
              refine hK.out _ _ (on hS hb) (fun _ => ?_)
              replace hS := on hS hb
              clear hK K
              change wpAnyH _ _ _ _ _ _ _ (a42.put (some 88) (.bool false)) _
              have hF' := fr_put hF 88 (.bool false) rfl (by decide)
              generalize hA43 : Act.put a42 (some 88) (.bool false) = a43 at hF' ⊢
              replace hF := hF'; clear hF'
              refine tk (i := 43) (d := 93) (v := .bool false) hF rfl rfl (by kernel_rfl) (by kernel_rfl) (by kernel_rfl) (fun _ _ _ h => h) (yi_want rfl rfl (fr_at hF 13 rfl) (fun W hW => by have f88 := fr_at hF 0 rfl; have f92 := fr_at hF 1 rfl; go_simp)) hS rfl (by decide) (fun a44 hA44 hF' => ?_)
              replace hF := hF'; clear hF'
              refine tk (i := 44) (d := 94) (v := .bool false) hF rfl rfl (by kernel_rfl) (by kernel_rfl) (by kernel_rfl) (fun _ _ _ h => h) (yi_go rfl (fun W hW => by have f79 := fr_at hF 14 rfl; have f93 := fr_at hF 0 rfl; go_simp)) hS rfl (by decide) (fun a45 hA45 hF' => ?_)
              replace hF := hF'; clear hF'
              refine wpAnyH_done (by kernel_rfl) ?_ _
              rw [← hA45, ← hA44, ← hA43, ← hA42, ← hA41, ← hA40, ← hA39, ← hA38, ← hA37, ← hA36, ← hA35, ← hA34, ← hA33, ← hA32, ← hA31, ← hA30, ← hA29, ← hA28, ← hA27, ← hA26, ← hA25, ← hA24, ← hA23, ← hA22, ← hA21, ← hA20, ← hA19, ← hA18, ← hA17, ← hA16, ← hA15, ← hA14, ← hA13, ← hA12, ← hA11, ← hA10, ← hA9, ← hA8, ← hA7, ← hA6, ← hA5, ← hA4, ← hA3, ← hA2, ← hA1, ← hA0]
              simp only [Act.put, List.setIfInBounds_toArray, List.set_cons_zero, List.set_cons_succ]
              clear hF
              have HB9 := Lib.hid (on HB.out hS)
              clear hS
              go_wp2_with fail
              go_roundw
              case rel => exact ⟨i + 1, by omega, by go_num, HB9.out⟩
              case measure => simp [intOf]; omega
          · have v0 : (vr == 0) = false := by simp; omega
            have hx := l1.2.2 rfl hv
            subst hx
            clear hv l1 HLS
            by_cases hm0 : m = 0
            · have m0 : ((m : Int) == 0) = true := by simp; omega
              have m1 : (m == 0) = true := by simp; omega
              have dm : decide (m = 0) = true := by simp; omega
              rw [dm] at HHO
              clear hm0 dm
              go_upto_region 9 with fail
              refine wp_region_held (S := fun W => Below wr.heap.size wr W) (by kernel_rfl) ?_
              generalize hA0 : Act.mk _ _ = a0
              have hF := Fr.nil (n := 95) (a := a0) (by rw [← hA0]; rfl)
              replace hF := Fr.cons hF 8 (.int .i64 10) (by rw [← hA0]; rfl)
              replace hF := Fr.cons hF 5 (.int .i64 0) (by rw [← hA0]; rfl)
              replace hF := Fr.cons hF 4 (.int .i64 (i : Int)) (by rw [← hA0]; rfl)
              replace hF := Fr.cons hF 3 (.slice (some ⟨BQ, 0, none⟩) 5 5) (by rw [← hA0]; rfl)
              replace hF := Fr.cons hF 1 (.pointer (some ⟨BZ, 0, none⟩)) (by rw [← hA0]; rfl)
              have hS : Below wr.heap.size wr (World.drew _) := (Below.refl _ wr).drew
              change wpAnyH _ _ _ _ _ _ _ _ (World.drew _)
              refine tk (i := 0) (d := 50) (v := .int .i64 0) hF rfl rfl (by kernel_rfl) (by kernel_rfl) (by kernel_rfl) (fun _ _ _ h => h) (yi_go rfl (fun W hW => ex_move W rfl (fr_at hF 3 rfl))) hS rfl (by decide) (fun a1 hA1 hF' => ?_)
              replace hF := hF'; clear hF'
              refine tk (i := 1) (d := 51) (v := .agg #[.int .i64 0, .slice none 0 0, .int .i64 0]) hF rfl rfl (by kernel_rfl) (by kernel_rfl) (by kernel_rfl) (fun _ _ _ h => h) (yi_go rfl (fun W hW => by go_simp)) hS rfl (by decide) (fun a2 hA2 hF' => ?_)
              replace hF := hF'; clear hF'
              refine tk (i := 2) (d := 52) (v := .pointer (some ⟨BZ, 3, none⟩)) hF rfl rfl (by kernel_rfl) (by kernel_rfl) (by kernel_rfl) (fun _ _ _ h => h) (yi_go rfl (fun W hW => by have f1 := fr_at hF 2 rfl; go_simp)) hS rfl (by decide) (fun a3 hA3 hF' => ?_)
              replace hF := hF'; clear hF'
              refine tk (i := 3) (d := 53) (v := .int .i64 vr) hF rfl rfl (by kernel_rfl) (by kernel_rfl) (by kernel_rfl) (fun _ _ _ h => h) (yi_go rfl (fun W hW => by replace z3 := (hW.cell (p := ⟨BZ, 3, none⟩) (World.block_lt_of_cell? _ _ z3)).trans z3; have f52 := fr_at hF 0 rfl; go_simp)) hS rfl (by decide) (fun a4 hA4 hF' => ?_)
              replace hF := hF'; clear hF'
              refine tk (i := 4) (d := 54) (v := .pointer (some ⟨BZ, 4, none⟩)) hF rfl rfl (by kernel_rfl) (by kernel_rfl) (by kernel_rfl) (fun _ _ _ h => h) (yi_go rfl (fun W hW => by have f1 := fr_at hF 4 rfl; go_simp)) hS rfl (by decide) (fun a5 hA5 hF' => ?_)
              replace hF := hF'; clear hF'
              refine tk (i := 5) (d := 55) (v := .slice A2 m c2) hF rfl rfl (by kernel_rfl) (by kernel_rfl) (by kernel_rfl) (fun _ _ _ h => h) (yi_go rfl (fun W hW => by replace z4 := (hW.cell (p := ⟨BZ, 4, none⟩) (World.block_lt_of_cell? _ _ z4)).trans z4; have f54 := fr_at hF 0 rfl; go_simp)) hS rfl (by decide) (fun a6 hA6 hF' => ?_)
              replace hF := hF'; clear hF'
              refine wpAnyH_ready (rs := [6]) (by kernel_rfl) (by simp) ?_
              refine AllReadyH.cons rfl (fun K hK => ?_) AllReadyH.nil
              have f51 := fr_at hF 4 rfl
              have f53 := fr_at hF 2 rfl
              have f55 := fr_at hF 0 rfl
              go_simp
              clear f51 f53 f55
              go_at_call 39
              refine (HCR.out _ (on HB.out hS)).mono ?_
              rintro e wa ⟨rfl, hb⟩
              go_wp2_with fail
              refine hK.out _ _ (on hS hb) (fun _ => ?_)
              replace hS := on hS hb
              clear hK K
              change wpAnyH _ _ _ _ _ _ _ (a6.put (some 56) (.int .i64 0)) _
              have hF' := fr_put hF 56 (.int .i64 0) rfl (by decide)
              generalize hA7 : Act.put a6 (some 56) (.int .i64 0) = a7 at hF' ⊢
              replace hF := hF'; clear hF'
              refine tk (i := 7) (d := 57) (v := .bool false) hF rfl rfl (by kernel_rfl) (by kernel_rfl) (by kernel_rfl) (fun _ _ _ h => h) (yi_go rfl (fun W hW => by have f50 := fr_at hF 6 rfl; have f56 := fr_at hF 0 rfl; go_simp)) hS rfl (by decide) (fun a8 hA8 hF' => ?_)
              replace hF := hF'; clear hF'
              refine tk (i := 8) (d := 58) (v := .bool false) hF rfl rfl (by kernel_rfl) (by kernel_rfl) (by kernel_rfl) (fun _ _ _ h => h) (yi_go rfl (fun W hW => ex_move W rfl (fr_at hF 0 rfl))) hS rfl (by decide) (fun a9 hA9 hF' => ?_)
              replace hF := hF'; clear hF'
              refine tk (i := 9) (d := 59) (v := .int .i64 0) hF rfl rfl (by kernel_rfl) (by kernel_rfl) (by kernel_rfl) (fun _ _ _ h => h) (yi_want rfl rfl (fr_at hF 0 rfl) (fun W hW => ex_move W rfl (fr_at hF 12 rfl))) hS rfl (by decide) (fun a10 hA10 hF' => ?_)
              replace hF := hF'; clear hF'
              refine tk (i := 10) (d := 60) (v := .bool false) hF rfl rfl (by kernel_rfl) (by kernel_rfl) (by kernel_rfl) (fun _ _ _ h => h) (yi_want rfl rfl (fr_at hF 1 rfl) (fun W hW => by have f59 := fr_at hF 0 rfl; go_simp)) hS rfl (by decide) (fun a11 hA11 hF' => ?_)
              replace hF := hF'; clear hF'
              refine tk (i := 11) (d := 61) (v := .bool false) hF rfl rfl (by kernel_rfl) (by kernel_rfl) (by kernel_rfl) (fun _ _ _ h => h) (yi_want rfl rfl (fr_at hF 2 rfl) (fun W hW => ex_move W rfl (fr_at hF 0 rfl))) hS rfl (by decide) (fun a12 hA12 hF' => ?_)
              replace hF := hF'; clear hF'
              refine tk (i := 12) (d := 62) (v := undef) hF rfl rfl (by kernel_rfl) (by kernel_rfl) (by kernel_rfl) (fun _ _ _ h => h) (yi_skip rfl rfl (fr_at hF 0 rfl)) hS rfl (by decide) (fun a13 hA13 hF' => ?_)
              replace hF := hF'; clear hF'
              refine tk (i := 13) (d := 63) (v := undef) hF rfl rfl (by kernel_rfl) (by kernel_rfl) (by kernel_rfl) (fun _ _ _ h => h) (yi_skip rfl rfl (fr_at hF 1 rfl)) hS rfl (by decide) (fun a14 hA14 hF' => ?_)
              replace hF := hF'; clear hF'
              refine tk (i := 14) (d := 64) (v := undef) hF rfl rfl (by kernel_rfl) (by kernel_rfl) (by kernel_rfl) (fun _ _ _ h => h) (yi_skip rfl rfl (fr_at hF 2 rfl)) hS rfl (by decide) (fun a15 hA15 hF' => ?_)
              replace hF := hF'; clear hF'
              refine tk (i := 15) (d := 65) (v := .bool false) hF rfl rfl (by kernel_rfl) (by kernel_rfl) (by kernel_rfl) (fun _ _ _ h => h) (yi_want rfl rfl (fr_at hF 6 rfl) (fun W hW => by have f61 := fr_at hF 3 rfl; have f64 := fr_at hF 0 rfl; go_simp)) hS rfl (by decide) (fun a16 hA16 hF' => ?_)
              replace hF := hF'; clear hF'
              refine tk (i := 16) (d := 66) (v := .bool false) hF rfl rfl (by kernel_rfl) (by kernel_rfl) (by kernel_rfl) (fun _ _ _ h => h) (yi_go rfl (fun W hW => by have f58 := fr_at hF 7 rfl; have f65 := fr_at hF 0 rfl; go_simp)) hS rfl (by decide) (fun a17 hA17 hF' => ?_)
              replace hF := hF'; clear hF'
              refine tk (i := 17) (d := 67) (v := .bool false) hF rfl rfl (by kernel_rfl) (by kernel_rfl) (by kernel_rfl) (fun _ _ _ h => h) (yi_go rfl (fun W hW => ex_move W rfl (fr_at hF 0 rfl))) hS rfl (by decide) (fun a18 hA18 hF' => ?_)
              replace hF := hF'; clear hF'
              refine tk (i := 18) (d := 68) (v := .int .i64 0) hF rfl rfl (by kernel_rfl) (by kernel_rfl) (by kernel_rfl) (fun _ _ _ h => h) (yi_want rfl rfl (fr_at hF 0 rfl) (fun W hW => ex_move W rfl (fr_at hF 21 rfl))) hS rfl (by decide) (fun a19 hA19 hF' => ?_)
              replace hF := hF'; clear hF'
              refine tk (i := 19) (d := 69) (v := .bool true) hF rfl rfl (by kernel_rfl) (by kernel_rfl) (by kernel_rfl) (fun _ _ _ h => h) (yi_want rfl rfl (fr_at hF 1 rfl) (fun W hW => by have f68 := fr_at hF 0 rfl; go_simp)) hS rfl (by decide) (fun a20 hA20 hF' => ?_)
              replace hF := hF'; clear hF'
              refine tk (i := 20) (d := 70) (v := .bool true) hF rfl rfl (by kernel_rfl) (by kernel_rfl) (by kernel_rfl) (fun _ _ _ h => h) (yi_want rfl rfl (fr_at hF 2 rfl) (fun W hW => ex_move W rfl (fr_at hF 0 rfl))) hS rfl (by decide) (fun a21 hA21 hF' => ?_)
              replace hF := hF'; clear hF'
              refine tk (i := 21) (d := 71) (v := .int .i64 10) hF rfl rfl (by kernel_rfl) (by kernel_rfl) (by kernel_rfl) (fun _ _ _ h => h) (yi_want rfl rfl (fr_at hF 0 rfl) (fun W hW => ex_move W rfl (fr_at hF 25 rfl))) hS rfl (by decide) (fun a22 hA22 hF' => ?_)
              replace hF := hF'; clear hF'
              refine tk (i := 22) (d := 72) (v := .bool false) hF rfl rfl (by kernel_rfl) (by kernel_rfl) (by kernel_rfl) (fun _ _ _ h => h) (yi_want rfl rfl (fr_at hF 1 rfl) (fun W hW => by have f71 := fr_at hF 0 rfl; go_simp)) hS rfl (by decide) (fun a23 hA23 hF' => ?_)
              replace hF := hF'; clear hF'
              refine tk (i := 23) (d := 73) (v := .pointer (some ⟨BZ, 3, none⟩)) hF rfl rfl (by kernel_rfl) (by kernel_rfl) (by kernel_rfl) (fun _ _ _ h => h) (yi_want rfl rfl (fr_at hF 2 rfl) (fun W hW => by have f1 := fr_at hF 23 rfl; go_simp)) hS rfl (by decide) (fun a24 hA24 hF' => ?_)
              replace hF := hF'; clear hF'
              refine tk (i := 24) (d := 74) (v := .int .i64 vr) hF rfl rfl (by kernel_rfl) (by kernel_rfl) (by kernel_rfl) (fun _ _ _ h => h) (yi_want rfl rfl (fr_at hF 3 rfl) (fun W hW => by replace z3 := (hW.cell (p := ⟨BZ, 3, none⟩) (World.block_lt_of_cell? _ _ z3)).trans z3; have f73 := fr_at hF 0 rfl; go_simp)) hS rfl (by decide) (fun a25 hA25 hF' => ?_)
              replace hF := hF'; clear hF'
              refine tk (i := 25) (d := 75) (v := .bool false) hF rfl rfl (by kernel_rfl) (by kernel_rfl) (by kernel_rfl) (fun _ _ _ h => h) (yi_want rfl rfl (fr_at hF 4 rfl) (fun W hW => by have f74 := fr_at hF 0 rfl; go_simp)) hS rfl (by decide) (fun a26 hA26 hF' => ?_)
              replace hF := hF'; clear hF'
              refine tk (i := 26) (d := 76) (v := .bool false) hF rfl rfl (by kernel_rfl) (by kernel_rfl) (by kernel_rfl) (fun _ _ _ h => h) (yi_want rfl rfl (fr_at hF 5 rfl) (fun W hW => by have f72 := fr_at hF 3 rfl; have f75 := fr_at hF 0 rfl; go_simp)) hS rfl (by decide) (fun a27 hA27 hF' => ?_)
              replace hF := hF'; clear hF'
              refine tk (i := 27) (d := 77) (v := .bool false) hF rfl rfl (by kernel_rfl) (by kernel_rfl) (by kernel_rfl) (fun _ _ _ h => h) (yi_want rfl rfl (fr_at hF 9 rfl) (fun W hW => by have f70 := fr_at hF 6 rfl; have f76 := fr_at hF 0 rfl; go_simp)) hS rfl (by decide) (fun a28 hA28 hF' => ?_)
              replace hF := hF'; clear hF'
              refine tk (i := 28) (d := 78) (v := .bool false) hF rfl rfl (by kernel_rfl) (by kernel_rfl) (by kernel_rfl) (fun _ _ _ h => h) (yi_go rfl (fun W hW => by have f67 := fr_at hF 10 rfl; have f77 := fr_at hF 0 rfl; go_simp)) hS rfl (by decide) (fun a29 hA29 hF' => ?_)
              replace hF := hF'; clear hF'
              refine tk (i := 29) (d := 79) (v := .bool false) hF rfl rfl (by kernel_rfl) (by kernel_rfl) (by kernel_rfl) (fun _ _ _ h => h) (yi_go rfl (fun W hW => ex_move W rfl (fr_at hF 0 rfl))) hS rfl (by decide) (fun a30 hA30 hF' => ?_)
              replace hF := hF'; clear hF'
              refine tk (i := 30) (d := 80) (v := .slice (some ⟨BQ, 0, none⟩) 5 5) hF rfl rfl (by kernel_rfl) (by kernel_rfl) (by kernel_rfl) (fun _ _ _ h => h) (yi_want rfl rfl (fr_at hF 0 rfl) (fun W hW => ex_move W rfl (fr_at hF 31 rfl))) hS rfl (by decide) (fun a31 hA31 hF' => ?_)
              replace hF := hF'; clear hF'
              refine tk (i := 31) (d := 81) (v := .int .i64 (i : Int)) hF rfl rfl (by kernel_rfl) (by kernel_rfl) (by kernel_rfl) (fun _ _ _ h => h) (yi_want rfl rfl (fr_at hF 1 rfl) (fun W hW => ex_move W rfl (fr_at hF 33 rfl))) hS rfl (by decide) (fun a32 hA32 hF' => ?_)
              replace hF := hF'; clear hF'
              refine tk (i := 32) (d := 82) (v := .pointer (some ⟨BQ, i, none⟩)) hF rfl rfl (by kernel_rfl) (by kernel_rfl) (by kernel_rfl) (fun _ _ _ h => h) (yi_want rfl rfl (fr_at hF 2 rfl) (fun W hW => by have f80 := fr_at hF 1 rfl; have f81 := fr_at hF 0 rfl; go_simp)) hS rfl (by decide) (fun a33 hA33 hF' => ?_)
              replace hF := hF'; clear hF'
              refine tk (i := 33) (d := 83) (v := v) hF rfl rfl (by kernel_rfl) (by kernel_rfl) (by kernel_rfl) (fun _ _ _ h => h) (yi_want rfl rfl (fr_at hF 3 rfl) (fun W hW => by replace cv := (hW.cell (p := ⟨BQ, i, none⟩) (World.block_lt_of_cell? _ _ cv)).trans cv; have f82 := fr_at hF 0 rfl; go_simp)) hS rfl (by decide) (fun a34 hA34 hF' => ?_)
              replace hF := hF'; clear hF'
              refine tk (i := 34) (d := 84) (v := .pointer (some ⟨BZ, 5, none⟩)) hF rfl rfl (by kernel_rfl) (by kernel_rfl) (by kernel_rfl) (fun _ _ _ h => h) (yi_want rfl rfl (fr_at hF 4 rfl) (fun W hW => by have f1 := fr_at hF 34 rfl; go_simp)) hS rfl (by decide) (fun a35 hA35 hF' => ?_)
              replace hF := hF'; clear hF'
              refine tk (i := 35) (d := 85) (v := .slice A3 k c3) hF rfl rfl (by kernel_rfl) (by kernel_rfl) (by kernel_rfl) (fun _ _ _ h => h) (yi_want rfl rfl (fr_at hF 5 rfl) (fun W hW => by replace z5 := (hW.cell (p := ⟨BZ, 5, none⟩) (World.block_lt_of_cell? _ _ z5)).trans z5; have f84 := fr_at hF 0 rfl; go_simp)) hS rfl (by decide) (fun a36 hA36 hF' => ?_)
              replace hF := hF'; clear hF'
              refine tk (i := 36) (d := 86) (v := .pointer (some ⟨BZ, 4, none⟩)) hF rfl rfl (by kernel_rfl) (by kernel_rfl) (by kernel_rfl) (fun _ _ _ h => h) (yi_want rfl rfl (fr_at hF 6 rfl) (fun W hW => by have f1 := fr_at hF 36 rfl; go_simp)) hS rfl (by decide) (fun a37 hA37 hF' => ?_)
              replace hF := hF'; clear hF'
              refine tk (i := 37) (d := 87) (v := .slice A2 m c2) hF rfl rfl (by kernel_rfl) (by kernel_rfl) (by kernel_rfl) (fun _ _ _ h => h) (yi_want rfl rfl (fr_at hF 7 rfl) (fun W hW => by replace z4 := (hW.cell (p := ⟨BZ, 4, none⟩) (World.block_lt_of_cell? _ _ z4)).trans z4; have f86 := fr_at hF 0 rfl; go_simp)) hS rfl (by decide) (fun a38 hA38 hF' => ?_)
              replace hF := hF'; clear hF'
              refine tk (i := 39) (d := 89) (v := .pointer (some ⟨BZ, 4, none⟩)) hF rfl rfl (by kernel_rfl) (by kernel_rfl) (by kernel_rfl) (fun _ _ _ h => h) (yi_want rfl rfl (fr_at hF 8 rfl) (fun W hW => by have f1 := fr_at hF 38 rfl; go_simp)) hS rfl (by decide) (fun a39 hA39 hF' => ?_)
              replace hF := hF'; clear hF'
              refine tk (i := 40) (d := 90) (v := .slice A2 m c2) hF rfl rfl (by kernel_rfl) (by kernel_rfl) (by kernel_rfl) (fun _ _ _ h => h) (yi_want rfl rfl (fr_at hF 9 rfl) (fun W hW => by replace z4 := (hW.cell (p := ⟨BZ, 4, none⟩) (World.block_lt_of_cell? _ _ z4)).trans z4; have f89 := fr_at hF 0 rfl; go_simp)) hS rfl (by decide) (fun a40 hA40 hF' => ?_)
              replace hF := hF'; clear hF'
              refine tk (i := 41) (d := 91) (v := .int .i64 (m : Int)) hF rfl rfl (by kernel_rfl) (by kernel_rfl) (by kernel_rfl) (fun _ _ _ h => h) (yi_want rfl rfl (fr_at hF 10 rfl) (fun W hW => by have f90 := fr_at hF 0 rfl; go_simp)) hS rfl (by decide) (fun a41 hA41 hF' => ?_)
              replace hF := hF'; clear hF'
              refine tk (i := 42) (d := 92) (v := .bool true) hF rfl rfl (by kernel_rfl) (by kernel_rfl) (by kernel_rfl) (fun _ _ _ h => h) (yi_want rfl rfl (fr_at hF 11 rfl) (fun W hW => by have f91 := fr_at hF 0 rfl; go_simp)) hS rfl (by decide) (fun a42 hA42 hF' => ?_)
              replace hF := hF'; clear hF'
              refine wpAnyH_ready (rs := [38]) (by kernel_rfl) (by simp) ?_
              refine AllReadyH.cons rfl (fun K hK => ?_) AllReadyH.nil
              rw [if_pos (by rw [guard_at rfl rfl (fr_at hF 12 rfl)]; rfl)]
              have f83 := fr_at hF 8 rfl
              have f85 := fr_at hF 6 rfl
              have f87 := fr_at hF 4 rfl
              go_simp
              clear f83 f85 f87
              go_at_call 36
              refine (HHO.out _ v (on HB.out hS) (sortn_below HSN.out hS)).mono ?_
              rintro e wb ⟨rfl, hb⟩
              go_wp2_with fail
              refine hK.out _ _ (on hS hb) (fun _ => ?_)
              replace hS := on hS hb
              clear hK K
              change wpAnyH _ _ _ _ _ _ _ (a42.put (some 88) (.bool true)) _
              have hF' := fr_put hF 88 (.bool true) rfl (by decide)
              generalize hA43 : Act.put a42 (some 88) (.bool true) = a43 at hF' ⊢
              replace hF := hF'; clear hF'
              refine tk (i := 43) (d := 93) (v := .bool false) hF rfl rfl (by kernel_rfl) (by kernel_rfl) (by kernel_rfl) (fun _ _ _ h => h) (yi_want rfl rfl (fr_at hF 13 rfl) (fun W hW => by have f88 := fr_at hF 0 rfl; have f92 := fr_at hF 1 rfl; go_simp)) hS rfl (by decide) (fun a44 hA44 hF' => ?_)
              replace hF := hF'; clear hF'
              refine tk (i := 44) (d := 94) (v := .bool false) hF rfl rfl (by kernel_rfl) (by kernel_rfl) (by kernel_rfl) (fun _ _ _ h => h) (yi_go rfl (fun W hW => by have f79 := fr_at hF 14 rfl; have f93 := fr_at hF 0 rfl; go_simp)) hS rfl (by decide) (fun a45 hA45 hF' => ?_)
              replace hF := hF'; clear hF'
              refine wpAnyH_done (by kernel_rfl) ?_ _
              rw [← hA45, ← hA44, ← hA43, ← hA42, ← hA41, ← hA40, ← hA39, ← hA38, ← hA37, ← hA36, ← hA35, ← hA34, ← hA33, ← hA32, ← hA31, ← hA30, ← hA29, ← hA28, ← hA27, ← hA26, ← hA25, ← hA24, ← hA23, ← hA22, ← hA21, ← hA20, ← hA19, ← hA18, ← hA17, ← hA16, ← hA15, ← hA14, ← hA13, ← hA12, ← hA11, ← hA10, ← hA9, ← hA8, ← hA7, ← hA6, ← hA5, ← hA4, ← hA3, ← hA2, ← hA1, ← hA0]
              simp only [Act.put, List.setIfInBounds_toArray, List.set_cons_zero, List.set_cons_succ]
              clear hF
              have HB9 := Lib.hid (on HB.out hS)
              clear hS
              go_wp2_with fail
              go_roundw
              case rel => exact ⟨i + 1, by omega, by go_num, HB9.out⟩
              case measure => simp [intOf]; omega
            · have m0 : ((m : Int) == 0) = false := by simp; omega
              have m1 : (m == 0) = false := by simp; omega
              have dm : decide (m = 0) = false := by simp; omega
              rw [dm] at HHO
              clear hm0 dm
              go_upto_region 9 with fail
              refine wp_region_held (S := fun W => Below wr.heap.size wr W) (by kernel_rfl) ?_
              generalize hA0 : Act.mk _ _ = a0
              have hF := Fr.nil (n := 95) (a := a0) (by rw [← hA0]; rfl)
              replace hF := Fr.cons hF 8 (.int .i64 10) (by rw [← hA0]; rfl)
              replace hF := Fr.cons hF 5 (.int .i64 0) (by rw [← hA0]; rfl)
              replace hF := Fr.cons hF 4 (.int .i64 (i : Int)) (by rw [← hA0]; rfl)
              replace hF := Fr.cons hF 3 (.slice (some ⟨BQ, 0, none⟩) 5 5) (by rw [← hA0]; rfl)
              replace hF := Fr.cons hF 1 (.pointer (some ⟨BZ, 0, none⟩)) (by rw [← hA0]; rfl)
              have hS : Below wr.heap.size wr (World.drew _) := (Below.refl _ wr).drew
              change wpAnyH _ _ _ _ _ _ _ _ (World.drew _)
              refine tk (i := 0) (d := 50) (v := .int .i64 0) hF rfl rfl (by kernel_rfl) (by kernel_rfl) (by kernel_rfl) (fun _ _ _ h => h) (yi_go rfl (fun W hW => ex_move W rfl (fr_at hF 3 rfl))) hS rfl (by decide) (fun a1 hA1 hF' => ?_)
              replace hF := hF'; clear hF'
              refine tk (i := 1) (d := 51) (v := .agg #[.int .i64 0, .slice none 0 0, .int .i64 0]) hF rfl rfl (by kernel_rfl) (by kernel_rfl) (by kernel_rfl) (fun _ _ _ h => h) (yi_go rfl (fun W hW => by go_simp)) hS rfl (by decide) (fun a2 hA2 hF' => ?_)
              replace hF := hF'; clear hF'
              refine tk (i := 2) (d := 52) (v := .pointer (some ⟨BZ, 3, none⟩)) hF rfl rfl (by kernel_rfl) (by kernel_rfl) (by kernel_rfl) (fun _ _ _ h => h) (yi_go rfl (fun W hW => by have f1 := fr_at hF 2 rfl; go_simp)) hS rfl (by decide) (fun a3 hA3 hF' => ?_)
              replace hF := hF'; clear hF'
              refine tk (i := 3) (d := 53) (v := .int .i64 vr) hF rfl rfl (by kernel_rfl) (by kernel_rfl) (by kernel_rfl) (fun _ _ _ h => h) (yi_go rfl (fun W hW => by replace z3 := (hW.cell (p := ⟨BZ, 3, none⟩) (World.block_lt_of_cell? _ _ z3)).trans z3; have f52 := fr_at hF 0 rfl; go_simp)) hS rfl (by decide) (fun a4 hA4 hF' => ?_)
              replace hF := hF'; clear hF'
              refine tk (i := 4) (d := 54) (v := .pointer (some ⟨BZ, 4, none⟩)) hF rfl rfl (by kernel_rfl) (by kernel_rfl) (by kernel_rfl) (fun _ _ _ h => h) (yi_go rfl (fun W hW => by have f1 := fr_at hF 4 rfl; go_simp)) hS rfl (by decide) (fun a5 hA5 hF' => ?_)
              replace hF := hF'; clear hF'
              refine tk (i := 5) (d := 55) (v := .slice A2 m c2) hF rfl rfl (by kernel_rfl) (by kernel_rfl) (by kernel_rfl) (fun _ _ _ h => h) (yi_go rfl (fun W hW => by replace z4 := (hW.cell (p := ⟨BZ, 4, none⟩) (World.block_lt_of_cell? _ _ z4)).trans z4; have f54 := fr_at hF 0 rfl; go_simp)) hS rfl (by decide) (fun a6 hA6 hF' => ?_)
              replace hF := hF'; clear hF'
              refine wpAnyH_ready (rs := [6]) (by kernel_rfl) (by simp) ?_
              refine AllReadyH.cons rfl (fun K hK => ?_) AllReadyH.nil
              have f51 := fr_at hF 4 rfl
              have f53 := fr_at hF 2 rfl
              have f55 := fr_at hF 0 rfl
              go_simp
              clear f51 f53 f55
              go_at_call 39
              refine (HCR.out _ (on HB.out hS)).mono ?_
              rintro e wa ⟨rfl, hb⟩
              go_wp2_with fail
              refine hK.out _ _ (on hS hb) (fun _ => ?_)
              replace hS := on hS hb
              clear hK K
              change wpAnyH _ _ _ _ _ _ _ (a6.put (some 56) (.int .i64 0)) _
              have hF' := fr_put hF 56 (.int .i64 0) rfl (by decide)
              generalize hA7 : Act.put a6 (some 56) (.int .i64 0) = a7 at hF' ⊢
              replace hF := hF'; clear hF'
              refine tk (i := 7) (d := 57) (v := .bool false) hF rfl rfl (by kernel_rfl) (by kernel_rfl) (by kernel_rfl) (fun _ _ _ h => h) (yi_go rfl (fun W hW => by have f50 := fr_at hF 6 rfl; have f56 := fr_at hF 0 rfl; go_simp)) hS rfl (by decide) (fun a8 hA8 hF' => ?_)
              replace hF := hF'; clear hF'
              refine tk (i := 8) (d := 58) (v := .bool false) hF rfl rfl (by kernel_rfl) (by kernel_rfl) (by kernel_rfl) (fun _ _ _ h => h) (yi_go rfl (fun W hW => ex_move W rfl (fr_at hF 0 rfl))) hS rfl (by decide) (fun a9 hA9 hF' => ?_)
              replace hF := hF'; clear hF'
              refine tk (i := 9) (d := 59) (v := .int .i64 0) hF rfl rfl (by kernel_rfl) (by kernel_rfl) (by kernel_rfl) (fun _ _ _ h => h) (yi_want rfl rfl (fr_at hF 0 rfl) (fun W hW => ex_move W rfl (fr_at hF 12 rfl))) hS rfl (by decide) (fun a10 hA10 hF' => ?_)
              replace hF := hF'; clear hF'
              refine tk (i := 10) (d := 60) (v := .bool false) hF rfl rfl (by kernel_rfl) (by kernel_rfl) (by kernel_rfl) (fun _ _ _ h => h) (yi_want rfl rfl (fr_at hF 1 rfl) (fun W hW => by have f59 := fr_at hF 0 rfl; go_simp)) hS rfl (by decide) (fun a11 hA11 hF' => ?_)
              replace hF := hF'; clear hF'
              refine tk (i := 11) (d := 61) (v := .bool false) hF rfl rfl (by kernel_rfl) (by kernel_rfl) (by kernel_rfl) (fun _ _ _ h => h) (yi_want rfl rfl (fr_at hF 2 rfl) (fun W hW => ex_move W rfl (fr_at hF 0 rfl))) hS rfl (by decide) (fun a12 hA12 hF' => ?_)
              replace hF := hF'; clear hF'
              refine tk (i := 12) (d := 62) (v := undef) hF rfl rfl (by kernel_rfl) (by kernel_rfl) (by kernel_rfl) (fun _ _ _ h => h) (yi_skip rfl rfl (fr_at hF 0 rfl)) hS rfl (by decide) (fun a13 hA13 hF' => ?_)
              replace hF := hF'; clear hF'
              refine tk (i := 13) (d := 63) (v := undef) hF rfl rfl (by kernel_rfl) (by kernel_rfl) (by kernel_rfl) (fun _ _ _ h => h) (yi_skip rfl rfl (fr_at hF 1 rfl)) hS rfl (by decide) (fun a14 hA14 hF' => ?_)
              replace hF := hF'; clear hF'
              refine tk (i := 14) (d := 64) (v := undef) hF rfl rfl (by kernel_rfl) (by kernel_rfl) (by kernel_rfl) (fun _ _ _ h => h) (yi_skip rfl rfl (fr_at hF 2 rfl)) hS rfl (by decide) (fun a15 hA15 hF' => ?_)
              replace hF := hF'; clear hF'
              refine tk (i := 15) (d := 65) (v := .bool false) hF rfl rfl (by kernel_rfl) (by kernel_rfl) (by kernel_rfl) (fun _ _ _ h => h) (yi_want rfl rfl (fr_at hF 6 rfl) (fun W hW => by have f61 := fr_at hF 3 rfl; have f64 := fr_at hF 0 rfl; go_simp)) hS rfl (by decide) (fun a16 hA16 hF' => ?_)
              replace hF := hF'; clear hF'
              refine tk (i := 16) (d := 66) (v := .bool false) hF rfl rfl (by kernel_rfl) (by kernel_rfl) (by kernel_rfl) (fun _ _ _ h => h) (yi_go rfl (fun W hW => by have f58 := fr_at hF 7 rfl; have f65 := fr_at hF 0 rfl; go_simp)) hS rfl (by decide) (fun a17 hA17 hF' => ?_)
              replace hF := hF'; clear hF'
              refine tk (i := 17) (d := 67) (v := .bool false) hF rfl rfl (by kernel_rfl) (by kernel_rfl) (by kernel_rfl) (fun _ _ _ h => h) (yi_go rfl (fun W hW => ex_move W rfl (fr_at hF 0 rfl))) hS rfl (by decide) (fun a18 hA18 hF' => ?_)
              replace hF := hF'; clear hF'
              refine tk (i := 18) (d := 68) (v := .int .i64 0) hF rfl rfl (by kernel_rfl) (by kernel_rfl) (by kernel_rfl) (fun _ _ _ h => h) (yi_want rfl rfl (fr_at hF 0 rfl) (fun W hW => ex_move W rfl (fr_at hF 21 rfl))) hS rfl (by decide) (fun a19 hA19 hF' => ?_)
              replace hF := hF'; clear hF'
              refine tk (i := 19) (d := 69) (v := .bool true) hF rfl rfl (by kernel_rfl) (by kernel_rfl) (by kernel_rfl) (fun _ _ _ h => h) (yi_want rfl rfl (fr_at hF 1 rfl) (fun W hW => by have f68 := fr_at hF 0 rfl; go_simp)) hS rfl (by decide) (fun a20 hA20 hF' => ?_)
              replace hF := hF'; clear hF'
              refine tk (i := 20) (d := 70) (v := .bool true) hF rfl rfl (by kernel_rfl) (by kernel_rfl) (by kernel_rfl) (fun _ _ _ h => h) (yi_want rfl rfl (fr_at hF 2 rfl) (fun W hW => ex_move W rfl (fr_at hF 0 rfl))) hS rfl (by decide) (fun a21 hA21 hF' => ?_)
              replace hF := hF'; clear hF'
              refine tk (i := 21) (d := 71) (v := .int .i64 10) hF rfl rfl (by kernel_rfl) (by kernel_rfl) (by kernel_rfl) (fun _ _ _ h => h) (yi_want rfl rfl (fr_at hF 0 rfl) (fun W hW => ex_move W rfl (fr_at hF 25 rfl))) hS rfl (by decide) (fun a22 hA22 hF' => ?_)
              replace hF := hF'; clear hF'
              refine tk (i := 22) (d := 72) (v := .bool false) hF rfl rfl (by kernel_rfl) (by kernel_rfl) (by kernel_rfl) (fun _ _ _ h => h) (yi_want rfl rfl (fr_at hF 1 rfl) (fun W hW => by have f71 := fr_at hF 0 rfl; go_simp)) hS rfl (by decide) (fun a23 hA23 hF' => ?_)
              replace hF := hF'; clear hF'
              refine tk (i := 23) (d := 73) (v := .pointer (some ⟨BZ, 3, none⟩)) hF rfl rfl (by kernel_rfl) (by kernel_rfl) (by kernel_rfl) (fun _ _ _ h => h) (yi_want rfl rfl (fr_at hF 2 rfl) (fun W hW => by have f1 := fr_at hF 23 rfl; go_simp)) hS rfl (by decide) (fun a24 hA24 hF' => ?_)
              replace hF := hF'; clear hF'
              refine tk (i := 24) (d := 74) (v := .int .i64 vr) hF rfl rfl (by kernel_rfl) (by kernel_rfl) (by kernel_rfl) (fun _ _ _ h => h) (yi_want rfl rfl (fr_at hF 3 rfl) (fun W hW => by replace z3 := (hW.cell (p := ⟨BZ, 3, none⟩) (World.block_lt_of_cell? _ _ z3)).trans z3; have f73 := fr_at hF 0 rfl; go_simp)) hS rfl (by decide) (fun a25 hA25 hF' => ?_)
              replace hF := hF'; clear hF'
              refine tk (i := 25) (d := 75) (v := .bool false) hF rfl rfl (by kernel_rfl) (by kernel_rfl) (by kernel_rfl) (fun _ _ _ h => h) (yi_want rfl rfl (fr_at hF 4 rfl) (fun W hW => by have f74 := fr_at hF 0 rfl; go_simp)) hS rfl (by decide) (fun a26 hA26 hF' => ?_)
              replace hF := hF'; clear hF'
              refine tk (i := 26) (d := 76) (v := .bool false) hF rfl rfl (by kernel_rfl) (by kernel_rfl) (by kernel_rfl) (fun _ _ _ h => h) (yi_want rfl rfl (fr_at hF 5 rfl) (fun W hW => by have f72 := fr_at hF 3 rfl; have f75 := fr_at hF 0 rfl; go_simp)) hS rfl (by decide) (fun a27 hA27 hF' => ?_)
              replace hF := hF'; clear hF'
              refine tk (i := 27) (d := 77) (v := .bool false) hF rfl rfl (by kernel_rfl) (by kernel_rfl) (by kernel_rfl) (fun _ _ _ h => h) (yi_want rfl rfl (fr_at hF 9 rfl) (fun W hW => by have f70 := fr_at hF 6 rfl; have f76 := fr_at hF 0 rfl; go_simp)) hS rfl (by decide) (fun a28 hA28 hF' => ?_)
              replace hF := hF'; clear hF'
              refine tk (i := 28) (d := 78) (v := .bool false) hF rfl rfl (by kernel_rfl) (by kernel_rfl) (by kernel_rfl) (fun _ _ _ h => h) (yi_go rfl (fun W hW => by have f67 := fr_at hF 10 rfl; have f77 := fr_at hF 0 rfl; go_simp)) hS rfl (by decide) (fun a29 hA29 hF' => ?_)
              replace hF := hF'; clear hF'
              refine tk (i := 29) (d := 79) (v := .bool false) hF rfl rfl (by kernel_rfl) (by kernel_rfl) (by kernel_rfl) (fun _ _ _ h => h) (yi_go rfl (fun W hW => ex_move W rfl (fr_at hF 0 rfl))) hS rfl (by decide) (fun a30 hA30 hF' => ?_)
              replace hF := hF'; clear hF'
              refine tk (i := 30) (d := 80) (v := .slice (some ⟨BQ, 0, none⟩) 5 5) hF rfl rfl (by kernel_rfl) (by kernel_rfl) (by kernel_rfl) (fun _ _ _ h => h) (yi_want rfl rfl (fr_at hF 0 rfl) (fun W hW => ex_move W rfl (fr_at hF 31 rfl))) hS rfl (by decide) (fun a31 hA31 hF' => ?_)
              replace hF := hF'; clear hF'
              refine tk (i := 31) (d := 81) (v := .int .i64 (i : Int)) hF rfl rfl (by kernel_rfl) (by kernel_rfl) (by kernel_rfl) (fun _ _ _ h => h) (yi_want rfl rfl (fr_at hF 1 rfl) (fun W hW => ex_move W rfl (fr_at hF 33 rfl))) hS rfl (by decide) (fun a32 hA32 hF' => ?_)
              replace hF := hF'; clear hF'
              refine tk (i := 32) (d := 82) (v := .pointer (some ⟨BQ, i, none⟩)) hF rfl rfl (by kernel_rfl) (by kernel_rfl) (by kernel_rfl) (fun _ _ _ h => h) (yi_want rfl rfl (fr_at hF 2 rfl) (fun W hW => by have f80 := fr_at hF 1 rfl; have f81 := fr_at hF 0 rfl; go_simp)) hS rfl (by decide) (fun a33 hA33 hF' => ?_)
              replace hF := hF'; clear hF'
              refine tk (i := 33) (d := 83) (v := v) hF rfl rfl (by kernel_rfl) (by kernel_rfl) (by kernel_rfl) (fun _ _ _ h => h) (yi_want rfl rfl (fr_at hF 3 rfl) (fun W hW => by replace cv := (hW.cell (p := ⟨BQ, i, none⟩) (World.block_lt_of_cell? _ _ cv)).trans cv; have f82 := fr_at hF 0 rfl; go_simp)) hS rfl (by decide) (fun a34 hA34 hF' => ?_)
              replace hF := hF'; clear hF'
              refine tk (i := 34) (d := 84) (v := .pointer (some ⟨BZ, 5, none⟩)) hF rfl rfl (by kernel_rfl) (by kernel_rfl) (by kernel_rfl) (fun _ _ _ h => h) (yi_want rfl rfl (fr_at hF 4 rfl) (fun W hW => by have f1 := fr_at hF 34 rfl; go_simp)) hS rfl (by decide) (fun a35 hA35 hF' => ?_)
              replace hF := hF'; clear hF'
              refine tk (i := 35) (d := 85) (v := .slice A3 k c3) hF rfl rfl (by kernel_rfl) (by kernel_rfl) (by kernel_rfl) (fun _ _ _ h => h) (yi_want rfl rfl (fr_at hF 5 rfl) (fun W hW => by replace z5 := (hW.cell (p := ⟨BZ, 5, none⟩) (World.block_lt_of_cell? _ _ z5)).trans z5; have f84 := fr_at hF 0 rfl; go_simp)) hS rfl (by decide) (fun a36 hA36 hF' => ?_)
              replace hF := hF'; clear hF'
              refine tk (i := 36) (d := 86) (v := .pointer (some ⟨BZ, 4, none⟩)) hF rfl rfl (by kernel_rfl) (by kernel_rfl) (by kernel_rfl) (fun _ _ _ h => h) (yi_want rfl rfl (fr_at hF 6 rfl) (fun W hW => by have f1 := fr_at hF 36 rfl; go_simp)) hS rfl (by decide) (fun a37 hA37 hF' => ?_)
              replace hF := hF'; clear hF'
              refine tk (i := 37) (d := 87) (v := .slice A2 m c2) hF rfl rfl (by kernel_rfl) (by kernel_rfl) (by kernel_rfl) (fun _ _ _ h => h) (yi_want rfl rfl (fr_at hF 7 rfl) (fun W hW => by replace z4 := (hW.cell (p := ⟨BZ, 4, none⟩) (World.block_lt_of_cell? _ _ z4)).trans z4; have f86 := fr_at hF 0 rfl; go_simp)) hS rfl (by decide) (fun a38 hA38 hF' => ?_)
              replace hF := hF'; clear hF'
              refine tk (i := 39) (d := 89) (v := .pointer (some ⟨BZ, 4, none⟩)) hF rfl rfl (by kernel_rfl) (by kernel_rfl) (by kernel_rfl) (fun _ _ _ h => h) (yi_want rfl rfl (fr_at hF 8 rfl) (fun W hW => by have f1 := fr_at hF 38 rfl; go_simp)) hS rfl (by decide) (fun a39 hA39 hF' => ?_)
              replace hF := hF'; clear hF'
              refine tk (i := 40) (d := 90) (v := .slice A2 m c2) hF rfl rfl (by kernel_rfl) (by kernel_rfl) (by kernel_rfl) (fun _ _ _ h => h) (yi_want rfl rfl (fr_at hF 9 rfl) (fun W hW => by replace z4 := (hW.cell (p := ⟨BZ, 4, none⟩) (World.block_lt_of_cell? _ _ z4)).trans z4; have f89 := fr_at hF 0 rfl; go_simp)) hS rfl (by decide) (fun a40 hA40 hF' => ?_)
              replace hF := hF'; clear hF'
              refine tk (i := 41) (d := 91) (v := .int .i64 (m : Int)) hF rfl rfl (by kernel_rfl) (by kernel_rfl) (by kernel_rfl) (fun _ _ _ h => h) (yi_want rfl rfl (fr_at hF 10 rfl) (fun W hW => by have f90 := fr_at hF 0 rfl; go_simp)) hS rfl (by decide) (fun a41 hA41 hF' => ?_)
              replace hF := hF'; clear hF'
              refine tk (i := 42) (d := 92) (v := .bool false) hF rfl rfl (by kernel_rfl) (by kernel_rfl) (by kernel_rfl) (fun _ _ _ h => h) (yi_want rfl rfl (fr_at hF 11 rfl) (fun W hW => by have f91 := fr_at hF 0 rfl; go_simp)) hS rfl (by decide) (fun a42 hA42 hF' => ?_)
              replace hF := hF'; clear hF'
              refine wpAnyH_ready (rs := [38]) (by kernel_rfl) (by simp) ?_
              refine AllReadyH.cons rfl (fun K hK => ?_) AllReadyH.nil
              rw [if_pos (by rw [guard_at rfl rfl (fr_at hF 12 rfl)]; rfl)]
              have f83 := fr_at hF 8 rfl
              have f85 := fr_at hF 6 rfl
              have f87 := fr_at hF 4 rfl
              go_simp
              clear f83 f85 f87
              go_at_call 36
              refine (HHO.out _ v (on HB.out hS) (sortn_below HSN.out hS)).mono ?_
              rintro e wb ⟨rfl, hb⟩
              go_wp2_with fail
              refine hK.out _ _ (on hS hb) (fun _ => ?_)
              replace hS := on hS hb
              clear hK K
              change wpAnyH _ _ _ _ _ _ _ (a42.put (some 88) (.bool false)) _
              have hF' := fr_put hF 88 (.bool false) rfl (by decide)
              generalize hA43 : Act.put a42 (some 88) (.bool false) = a43 at hF' ⊢
              replace hF := hF'; clear hF'
              refine tk (i := 43) (d := 93) (v := .bool false) hF rfl rfl (by kernel_rfl) (by kernel_rfl) (by kernel_rfl) (fun _ _ _ h => h) (yi_want rfl rfl (fr_at hF 13 rfl) (fun W hW => by have f88 := fr_at hF 0 rfl; have f92 := fr_at hF 1 rfl; go_simp)) hS rfl (by decide) (fun a44 hA44 hF' => ?_)
              replace hF := hF'; clear hF'
              refine tk (i := 44) (d := 94) (v := .bool false) hF rfl rfl (by kernel_rfl) (by kernel_rfl) (by kernel_rfl) (fun _ _ _ h => h) (yi_go rfl (fun W hW => by have f79 := fr_at hF 14 rfl; have f93 := fr_at hF 0 rfl; go_simp)) hS rfl (by decide) (fun a45 hA45 hF' => ?_)
              replace hF := hF'; clear hF'
              refine wpAnyH_done (by kernel_rfl) ?_ _
              rw [← hA45, ← hA44, ← hA43, ← hA42, ← hA41, ← hA40, ← hA39, ← hA38, ← hA37, ← hA36, ← hA35, ← hA34, ← hA33, ← hA32, ← hA31, ← hA30, ← hA29, ← hA28, ← hA27, ← hA26, ← hA25, ← hA24, ← hA23, ← hA22, ← hA21, ← hA20, ← hA19, ← hA18, ← hA17, ← hA16, ← hA15, ← hA14, ← hA13, ← hA12, ← hA11, ← hA10, ← hA9, ← hA8, ← hA7, ← hA6, ← hA5, ← hA4, ← hA3, ← hA2, ← hA1, ← hA0]
              simp only [Act.put, List.setIfInBounds_toArray, List.set_cons_zero, List.set_cons_succ]
              clear hF
              have HB9 := Lib.hid (on HB.out hS)
              clear hS
              go_wp2_with fail
              go_roundw
              case rel => exact ⟨i + 1, by omega, by go_num, HB9.out⟩
              case measure => simp [intOf]; omega
        · have k0 : (((ck : Nat) : Int) != 0) = true := by simp; omega
          have k1 : (((ck : Nat) : Int) == 0) = false := by simp; omega
          have k2 : (ck == 0) = false := by simp; omega
          have hx := l1.1 hck
          subst hx
          clear hck l1 HLS
          by_cases hm0 : m = 0
          · have m0 : ((m : Int) == 0) = true := by simp; omega
            have m1 : (m == 0) = true := by simp; omega
            have dm : decide (m = 0) = true := by simp; omega
            rw [dm] at HHO
            clear hm0 dm
            go_upto_region 9 with fail
            refine wp_region_held (S := fun W => Below wr.heap.size wr W) (by kernel_rfl) ?_
            generalize hA0 : Act.mk _ _ = a0
            have hF := Fr.nil (n := 95) (a := a0) (by rw [← hA0]; rfl)
            replace hF := Fr.cons hF 8 (.int .i64 ((e1 : Nat) : Int)) (by rw [← hA0]; rfl)
            replace hF := Fr.cons hF 5 (.int .i64 ((e1 : Nat) : Int)) (by rw [← hA0]; rfl)
            replace hF := Fr.cons hF 4 (.int .i64 (i : Int)) (by rw [← hA0]; rfl)
            replace hF := Fr.cons hF 3 (.slice (some ⟨BQ, 0, none⟩) 5 5) (by rw [← hA0]; rfl)
            replace hF := Fr.cons hF 1 (.pointer (some ⟨BZ, 0, none⟩)) (by rw [← hA0]; rfl)
            have hS : Below wr.heap.size wr (World.drew _) := (Below.refl _ wr).drew
            change wpAnyH _ _ _ _ _ _ _ _ (World.drew _)
            refine tk (i := 0) (d := 50) (v := .int .i64 ((e1 : Nat) : Int)) hF rfl rfl (by kernel_rfl) (by kernel_rfl) (by kernel_rfl) (fun _ _ _ h => h) (yi_go rfl (fun W hW => ex_move W rfl (fr_at hF 3 rfl))) hS rfl (by decide) (fun a1 hA1 hF' => ?_)
            replace hF := hF'; clear hF'
            refine tk (i := 1) (d := 51) (v := .agg #[.int .i64 0, .slice none 0 0, .int .i64 0]) hF rfl rfl (by kernel_rfl) (by kernel_rfl) (by kernel_rfl) (fun _ _ _ h => h) (yi_go rfl (fun W hW => by go_simp)) hS rfl (by decide) (fun a2 hA2 hF' => ?_)
            replace hF := hF'; clear hF'
            refine tk (i := 2) (d := 52) (v := .pointer (some ⟨BZ, 3, none⟩)) hF rfl rfl (by kernel_rfl) (by kernel_rfl) (by kernel_rfl) (fun _ _ _ h => h) (yi_go rfl (fun W hW => by have f1 := fr_at hF 2 rfl; go_simp)) hS rfl (by decide) (fun a3 hA3 hF' => ?_)
            replace hF := hF'; clear hF'
            refine tk (i := 3) (d := 53) (v := .int .i64 vr) hF rfl rfl (by kernel_rfl) (by kernel_rfl) (by kernel_rfl) (fun _ _ _ h => h) (yi_go rfl (fun W hW => by replace z3 := (hW.cell (p := ⟨BZ, 3, none⟩) (World.block_lt_of_cell? _ _ z3)).trans z3; have f52 := fr_at hF 0 rfl; go_simp)) hS rfl (by decide) (fun a4 hA4 hF' => ?_)
            replace hF := hF'; clear hF'
            refine tk (i := 4) (d := 54) (v := .pointer (some ⟨BZ, 4, none⟩)) hF rfl rfl (by kernel_rfl) (by kernel_rfl) (by kernel_rfl) (fun _ _ _ h => h) (yi_go rfl (fun W hW => by have f1 := fr_at hF 4 rfl; go_simp)) hS rfl (by decide) (fun a5 hA5 hF' => ?_)
            replace hF := hF'; clear hF'
            refine tk (i := 5) (d := 55) (v := .slice A2 m c2) hF rfl rfl (by kernel_rfl) (by kernel_rfl) (by kernel_rfl) (fun _ _ _ h => h) (yi_go rfl (fun W hW => by replace z4 := (hW.cell (p := ⟨BZ, 4, none⟩) (World.block_lt_of_cell? _ _ z4)).trans z4; have f54 := fr_at hF 0 rfl; go_simp)) hS rfl (by decide) (fun a6 hA6 hF' => ?_)
            replace hF := hF'; clear hF'
            refine wpAnyH_ready (rs := [6]) (by kernel_rfl) (by simp) ?_
            refine AllReadyH.cons rfl (fun K hK => ?_) AllReadyH.nil
            have f51 := fr_at hF 4 rfl
            have f53 := fr_at hF 2 rfl
            have f55 := fr_at hF 0 rfl
            go_simp
            clear f51 f53 f55
            go_at_call 39
            refine (HCR.out _ (on HB.out hS)).mono ?_
            rintro e wa ⟨rfl, hb⟩
            go_wp2_with fail
            refine hK.out _ _ (on hS hb) (fun _ => ?_)
            replace hS := on hS hb
            clear hK K
            change wpAnyH _ _ _ _ _ _ _ (a6.put (some 56) (.int .i64 ((e1 : Nat) : Int))) _
            have hF' := fr_put hF 56 (.int .i64 ((e1 : Nat) : Int)) rfl (by decide)
            generalize hA7 : Act.put a6 (some 56) (.int .i64 ((e1 : Nat) : Int)) = a7 at hF' ⊢
            replace hF := hF'; clear hF'
            refine tk (i := 7) (d := 57) (v := .bool false) hF rfl rfl (by kernel_rfl) (by kernel_rfl) (by kernel_rfl) (fun _ _ _ h => h) (yi_go rfl (fun W hW => by have f50 := fr_at hF 6 rfl; have f56 := fr_at hF 0 rfl; go_simp)) hS rfl (by decide) (fun a8 hA8 hF' => ?_)
            replace hF := hF'; clear hF'
            refine tk (i := 8) (d := 58) (v := .bool false) hF rfl rfl (by kernel_rfl) (by kernel_rfl) (by kernel_rfl) (fun _ _ _ h => h) (yi_go rfl (fun W hW => ex_move W rfl (fr_at hF 0 rfl))) hS rfl (by decide) (fun a9 hA9 hF' => ?_)
            replace hF := hF'; clear hF'
            refine tk (i := 9) (d := 59) (v := .int .i64 ((e1 : Nat) : Int)) hF rfl rfl (by kernel_rfl) (by kernel_rfl) (by kernel_rfl) (fun _ _ _ h => h) (yi_want rfl rfl (fr_at hF 0 rfl) (fun W hW => ex_move W rfl (fr_at hF 12 rfl))) hS rfl (by decide) (fun a10 hA10 hF' => ?_)
            replace hF := hF'; clear hF'
            refine tk (i := 10) (d := 60) (v := .bool true) hF rfl rfl (by kernel_rfl) (by kernel_rfl) (by kernel_rfl) (fun _ _ _ h => h) (yi_want rfl rfl (fr_at hF 1 rfl) (fun W hW => by have f59 := fr_at hF 0 rfl; go_simp)) hS rfl (by decide) (fun a11 hA11 hF' => ?_)
            replace hF := hF'; clear hF'
            refine tk (i := 11) (d := 61) (v := .bool true) hF rfl rfl (by kernel_rfl) (by kernel_rfl) (by kernel_rfl) (fun _ _ _ h => h) (yi_want rfl rfl (fr_at hF 2 rfl) (fun W hW => ex_move W rfl (fr_at hF 0 rfl))) hS rfl (by decide) (fun a12 hA12 hF' => ?_)
            replace hF := hF'; clear hF'
            refine tk (i := 12) (d := 62) (v := .int .i64 ((e1 : Nat) : Int)) hF rfl rfl (by kernel_rfl) (by kernel_rfl) (by kernel_rfl) (fun _ _ _ h => h) (yi_want rfl rfl (fr_at hF 0 rfl) (fun W hW => ex_move W rfl (fr_at hF 16 rfl))) hS rfl (by decide) (fun a13 hA13 hF' => ?_)
            replace hF := hF'; clear hF'
            refine tk (i := 13) (d := 63) (v := .int .i64 ((e1 : Nat) : Int)) hF rfl rfl (by kernel_rfl) (by kernel_rfl) (by kernel_rfl) (fun _ _ _ h => h) (yi_want rfl rfl (fr_at hF 1 rfl) (fun W hW => ex_move W rfl (fr_at hF 16 rfl))) hS rfl (by decide) (fun a14 hA14 hF' => ?_)
            replace hF := hF'; clear hF'
            refine tk (i := 14) (d := 64) (v := .bool false) hF rfl rfl (by kernel_rfl) (by kernel_rfl) (by kernel_rfl) (fun _ _ _ h => h) (yi_want rfl rfl (fr_at hF 2 rfl) (fun W hW => by have f62 := fr_at hF 1 rfl; have f63 := fr_at hF 0 rfl; go_simp)) hS rfl (by decide) (fun a15 hA15 hF' => ?_)
            replace hF := hF'; clear hF'
            refine tk (i := 15) (d := 65) (v := .bool false) hF rfl rfl (by kernel_rfl) (by kernel_rfl) (by kernel_rfl) (fun _ _ _ h => h) (yi_want rfl rfl (fr_at hF 6 rfl) (fun W hW => by have f61 := fr_at hF 3 rfl; have f64 := fr_at hF 0 rfl; go_simp)) hS rfl (by decide) (fun a16 hA16 hF' => ?_)
            replace hF := hF'; clear hF'
            refine tk (i := 16) (d := 66) (v := .bool false) hF rfl rfl (by kernel_rfl) (by kernel_rfl) (by kernel_rfl) (fun _ _ _ h => h) (yi_go rfl (fun W hW => by have f58 := fr_at hF 7 rfl; have f65 := fr_at hF 0 rfl; go_simp)) hS rfl (by decide) (fun a17 hA17 hF' => ?_)
            replace hF := hF'; clear hF'
            refine tk (i := 17) (d := 67) (v := .bool false) hF rfl rfl (by kernel_rfl) (by kernel_rfl) (by kernel_rfl) (fun _ _ _ h => h) (yi_go rfl (fun W hW => ex_move W rfl (fr_at hF 0 rfl))) hS rfl (by decide) (fun a18 hA18 hF' => ?_)
            replace hF := hF'; clear hF'
            refine tk (i := 18) (d := 68) (v := .int .i64 ((e1 : Nat) : Int)) hF rfl rfl (by kernel_rfl) (by kernel_rfl) (by kernel_rfl) (fun _ _ _ h => h) (yi_want rfl rfl (fr_at hF 0 rfl) (fun W hW => ex_move W rfl (fr_at hF 21 rfl))) hS rfl (by decide) (fun a19 hA19 hF' => ?_)
            replace hF := hF'; clear hF'
            refine tk (i := 19) (d := 69) (v := .bool false) hF rfl rfl (by kernel_rfl) (by kernel_rfl) (by kernel_rfl) (fun _ _ _ h => h) (yi_want rfl rfl (fr_at hF 1 rfl) (fun W hW => by have f68 := fr_at hF 0 rfl; go_simp)) hS rfl (by decide) (fun a20 hA20 hF' => ?_)
            replace hF := hF'; clear hF'
            refine tk (i := 20) (d := 70) (v := .bool false) hF rfl rfl (by kernel_rfl) (by kernel_rfl) (by kernel_rfl) (fun _ _ _ h => h) (yi_want rfl rfl (fr_at hF 2 rfl) (fun W hW => ex_move W rfl (fr_at hF 0 rfl))) hS rfl (by decide) (fun a21 hA21 hF' => ?_)
            replace hF := hF'; clear hF'
            refine tk (i := 21) (d := 71) (v := undef) hF rfl rfl (by kernel_rfl) (by kernel_rfl) (by kernel_rfl) (fun _ _ _ h => h) (yi_skip rfl rfl (fr_at hF 0 rfl)) hS rfl (by decide) (fun a22 hA22 hF' => ?_)
            replace hF := hF'; clear hF'
            refine tk (i := 22) (d := 72) (v := undef) hF rfl rfl (by kernel_rfl) (by kernel_rfl) (by kernel_rfl) (fun _ _ _ h => h) (yi_skip rfl rfl (fr_at hF 1 rfl)) hS rfl (by decide) (fun a23 hA23 hF' => ?_)
            replace hF := hF'; clear hF'
            refine tk (i := 23) (d := 73) (v := undef) hF rfl rfl (by kernel_rfl) (by kernel_rfl) (by kernel_rfl) (fun _ _ _ h => h) (yi_skip rfl rfl (fr_at hF 2 rfl)) hS rfl (by decide) (fun a24 hA24 hF' => ?_)
            replace hF := hF'; clear hF'
            refine tk (i := 24) (d := 74) (v := undef) hF rfl rfl (by kernel_rfl) (by kernel_rfl) (by kernel_rfl) (fun _ _ _ h => h) (yi_skip rfl rfl (fr_at hF 3 rfl)) hS rfl (by decide) (fun a25 hA25 hF' => ?_)
            replace hF := hF'; clear hF'
            refine tk (i := 25) (d := 75) (v := undef) hF rfl rfl (by kernel_rfl) (by kernel_rfl) (by kernel_rfl) (fun _ _ _ h => h) (yi_skip rfl rfl (fr_at hF 4 rfl)) hS rfl (by decide) (fun a26 hA26 hF' => ?_)
            replace hF := hF'; clear hF'
            refine tk (i := 26) (d := 76) (v := undef) hF rfl rfl (by kernel_rfl) (by kernel_rfl) (by kernel_rfl) (fun _ _ _ h => h) (yi_skip rfl rfl (fr_at hF 5 rfl)) hS rfl (by decide) (fun a27 hA27 hF' => ?_)
            replace hF := hF'; clear hF'
            refine tk (i := 27) (d := 77) (v := .bool false) hF rfl rfl (by kernel_rfl) (by kernel_rfl) (by kernel_rfl) (fun _ _ _ h => h) (yi_want rfl rfl (fr_at hF 9 rfl) (fun W hW => by have f70 := fr_at hF 6 rfl; have f76 := fr_at hF 0 rfl; go_simp)) hS rfl (by decide) (fun a28 hA28 hF' => ?_)
            replace hF := hF'; clear hF'
            refine tk (i := 28) (d := 78) (v := .bool false) hF rfl rfl (by kernel_rfl) (by kernel_rfl) (by kernel_rfl) (fun _ _ _ h => h) (yi_go rfl (fun W hW => by have f67 := fr_at hF 10 rfl; have f77 := fr_at hF 0 rfl; go_simp)) hS rfl (by decide) (fun a29 hA29 hF' => ?_)
            replace hF := hF'; clear hF'
            refine tk (i := 29) (d := 79) (v := .bool false) hF rfl rfl (by kernel_rfl) (by kernel_rfl) (by kernel_rfl) (fun _ _ _ h => h) (yi_go rfl (fun W hW => ex_move W rfl (fr_at hF 0 rfl))) hS rfl (by decide) (fun a30 hA30 hF' => ?_)
            replace hF := hF'; clear hF'
            refine tk (i := 30) (d := 80) (v := .slice (some ⟨BQ, 0, none⟩) 5 5) hF rfl rfl (by kernel_rfl) (by kernel_rfl) (by kernel_rfl) (fun _ _ _ h => h) (yi_want rfl rfl (fr_at hF 0 rfl) (fun W hW => ex_move W rfl (fr_at hF 31 rfl))) hS rfl (by decide) (fun a31 hA31 hF' => ?_)
            replace hF := hF'; clear hF'
            refine tk (i := 31) (d := 81) (v := .int .i64 (i : Int)) hF rfl rfl (by kernel_rfl) (by kernel_rfl) (by kernel_rfl) (fun _ _ _ h => h) (yi_want rfl rfl (fr_at hF 1 rfl) (fun W hW => ex_move W rfl (fr_at hF 33 rfl))) hS rfl (by decide) (fun a32 hA32 hF' => ?_)
            replace hF := hF'; clear hF'
            refine tk (i := 32) (d := 82) (v := .pointer (some ⟨BQ, i, none⟩)) hF rfl rfl (by kernel_rfl) (by kernel_rfl) (by kernel_rfl) (fun _ _ _ h => h) (yi_want rfl rfl (fr_at hF 2 rfl) (fun W hW => by have f80 := fr_at hF 1 rfl; have f81 := fr_at hF 0 rfl; go_simp)) hS rfl (by decide) (fun a33 hA33 hF' => ?_)
            replace hF := hF'; clear hF'
            refine tk (i := 33) (d := 83) (v := v) hF rfl rfl (by kernel_rfl) (by kernel_rfl) (by kernel_rfl) (fun _ _ _ h => h) (yi_want rfl rfl (fr_at hF 3 rfl) (fun W hW => by replace cv := (hW.cell (p := ⟨BQ, i, none⟩) (World.block_lt_of_cell? _ _ cv)).trans cv; have f82 := fr_at hF 0 rfl; go_simp)) hS rfl (by decide) (fun a34 hA34 hF' => ?_)
            replace hF := hF'; clear hF'
            refine tk (i := 34) (d := 84) (v := .pointer (some ⟨BZ, 5, none⟩)) hF rfl rfl (by kernel_rfl) (by kernel_rfl) (by kernel_rfl) (fun _ _ _ h => h) (yi_want rfl rfl (fr_at hF 4 rfl) (fun W hW => by have f1 := fr_at hF 34 rfl; go_simp)) hS rfl (by decide) (fun a35 hA35 hF' => ?_)
            replace hF := hF'; clear hF'
            refine tk (i := 35) (d := 85) (v := .slice A3 k c3) hF rfl rfl (by kernel_rfl) (by kernel_rfl) (by kernel_rfl) (fun _ _ _ h => h) (yi_want rfl rfl (fr_at hF 5 rfl) (fun W hW => by replace z5 := (hW.cell (p := ⟨BZ, 5, none⟩) (World.block_lt_of_cell? _ _ z5)).trans z5; have f84 := fr_at hF 0 rfl; go_simp)) hS rfl (by decide) (fun a36 hA36 hF' => ?_)
            replace hF := hF'; clear hF'
            refine tk (i := 36) (d := 86) (v := .pointer (some ⟨BZ, 4, none⟩)) hF rfl rfl (by kernel_rfl) (by kernel_rfl) (by kernel_rfl) (fun _ _ _ h => h) (yi_want rfl rfl (fr_at hF 6 rfl) (fun W hW => by have f1 := fr_at hF 36 rfl; go_simp)) hS rfl (by decide) (fun a37 hA37 hF' => ?_)
            replace hF := hF'; clear hF'
            refine tk (i := 37) (d := 87) (v := .slice A2 m c2) hF rfl rfl (by kernel_rfl) (by kernel_rfl) (by kernel_rfl) (fun _ _ _ h => h) (yi_want rfl rfl (fr_at hF 7 rfl) (fun W hW => by replace z4 := (hW.cell (p := ⟨BZ, 4, none⟩) (World.block_lt_of_cell? _ _ z4)).trans z4; have f86 := fr_at hF 0 rfl; go_simp)) hS rfl (by decide) (fun a38 hA38 hF' => ?_)
            replace hF := hF'; clear hF'
            refine tk (i := 39) (d := 89) (v := .pointer (some ⟨BZ, 4, none⟩)) hF rfl rfl (by kernel_rfl) (by kernel_rfl) (by kernel_rfl) (fun _ _ _ h => h) (yi_want rfl rfl (fr_at hF 8 rfl) (fun W hW => by have f1 := fr_at hF 38 rfl; go_simp)) hS rfl (by decide) (fun a39 hA39 hF' => ?_)
            replace hF := hF'; clear hF'
            refine tk (i := 40) (d := 90) (v := .slice A2 m c2) hF rfl rfl (by kernel_rfl) (by kernel_rfl) (by kernel_rfl) (fun _ _ _ h => h) (yi_want rfl rfl (fr_at hF 9 rfl) (fun W hW => by replace z4 := (hW.cell (p := ⟨BZ, 4, none⟩) (World.block_lt_of_cell? _ _ z4)).trans z4; have f89 := fr_at hF 0 rfl; go_simp)) hS rfl (by decide) (fun a40 hA40 hF' => ?_)
            replace hF := hF'; clear hF'
            refine tk (i := 41) (d := 91) (v := .int .i64 (m : Int)) hF rfl rfl (by kernel_rfl) (by kernel_rfl) (by kernel_rfl) (fun _ _ _ h => h) (yi_want rfl rfl (fr_at hF 10 rfl) (fun W hW => by have f90 := fr_at hF 0 rfl; go_simp)) hS rfl (by decide) (fun a41 hA41 hF' => ?_)
            replace hF := hF'; clear hF'
            refine tk (i := 42) (d := 92) (v := .bool true) hF rfl rfl (by kernel_rfl) (by kernel_rfl) (by kernel_rfl) (fun _ _ _ h => h) (yi_want rfl rfl (fr_at hF 11 rfl) (fun W hW => by have f91 := fr_at hF 0 rfl; go_simp)) hS rfl (by decide) (fun a42 hA42 hF' => ?_)
            replace hF := hF'; clear hF'
            refine wpAnyH_ready (rs := [38]) (by kernel_rfl) (by simp) ?_
            refine AllReadyH.cons rfl (fun K hK => ?_) AllReadyH.nil
            rw [if_pos (by rw [guard_at rfl rfl (fr_at hF 12 rfl)]; rfl)]
            have f83 := fr_at hF 8 rfl
            have f85 := fr_at hF 6 rfl
            have f87 := fr_at hF 4 rfl
            go_simp
            clear f83 f85 f87
            go_at_call 36
            refine (HHO.out _ v (on HB.out hS) (sortn_below HSN.out hS)).mono ?_
            rintro e wb ⟨rfl, hb⟩
            go_wp2_with fail
            refine hK.out _ _ (on hS hb) (fun _ => ?_)
            replace hS := on hS hb
            clear hK K
            change wpAnyH _ _ _ _ _ _ _ (a42.put (some 88) (.bool true)) _
            have hF' := fr_put hF 88 (.bool true) rfl (by decide)
            generalize hA43 : Act.put a42 (some 88) (.bool true) = a43 at hF' ⊢
            replace hF := hF'; clear hF'
            refine tk (i := 43) (d := 93) (v := .bool false) hF rfl rfl (by kernel_rfl) (by kernel_rfl) (by kernel_rfl) (fun _ _ _ h => h) (yi_want rfl rfl (fr_at hF 13 rfl) (fun W hW => by have f88 := fr_at hF 0 rfl; have f92 := fr_at hF 1 rfl; go_simp)) hS rfl (by decide) (fun a44 hA44 hF' => ?_)
            replace hF := hF'; clear hF'
            refine tk (i := 44) (d := 94) (v := .bool false) hF rfl rfl (by kernel_rfl) (by kernel_rfl) (by kernel_rfl) (fun _ _ _ h => h) (yi_go rfl (fun W hW => by have f79 := fr_at hF 14 rfl; have f93 := fr_at hF 0 rfl; go_simp)) hS rfl (by decide) (fun a45 hA45 hF' => ?_)
            replace hF := hF'; clear hF'
            refine wpAnyH_done (by kernel_rfl) ?_ _
            rw [← hA45, ← hA44, ← hA43, ← hA42, ← hA41, ← hA40, ← hA39, ← hA38, ← hA37, ← hA36, ← hA35, ← hA34, ← hA33, ← hA32, ← hA31, ← hA30, ← hA29, ← hA28, ← hA27, ← hA26, ← hA25, ← hA24, ← hA23, ← hA22, ← hA21, ← hA20, ← hA19, ← hA18, ← hA17, ← hA16, ← hA15, ← hA14, ← hA13, ← hA12, ← hA11, ← hA10, ← hA9, ← hA8, ← hA7, ← hA6, ← hA5, ← hA4, ← hA3, ← hA2, ← hA1, ← hA0]
            simp only [Act.put, List.setIfInBounds_toArray, List.set_cons_zero, List.set_cons_succ]
            clear hF
            have HB9 := Lib.hid (on HB.out hS)
            clear hS
            go_wp2_with fail
            go_roundw
            case rel => exact ⟨i + 1, by omega, by go_num, HB9.out⟩
            case measure => simp [intOf]; omega
          · have m0 : ((m : Int) == 0) = false := by simp; omega
            have m1 : (m == 0) = false := by simp; omega
            have dm : decide (m = 0) = false := by simp; omega
            rw [dm] at HHO
            clear hm0 dm
            go_upto_region 9 with fail
            refine wp_region_held (S := fun W => Below wr.heap.size wr W) (by kernel_rfl) ?_
            generalize hA0 : Act.mk _ _ = a0
            have hF := Fr.nil (n := 95) (a := a0) (by rw [← hA0]; rfl)
            replace hF := Fr.cons hF 8 (.int .i64 ((e1 : Nat) : Int)) (by rw [← hA0]; rfl)
            replace hF := Fr.cons hF 5 (.int .i64 ((e1 : Nat) : Int)) (by rw [← hA0]; rfl)
            replace hF := Fr.cons hF 4 (.int .i64 (i : Int)) (by rw [← hA0]; rfl)
            replace hF := Fr.cons hF 3 (.slice (some ⟨BQ, 0, none⟩) 5 5) (by rw [← hA0]; rfl)
            replace hF := Fr.cons hF 1 (.pointer (some ⟨BZ, 0, none⟩)) (by rw [← hA0]; rfl)
            have hS : Below wr.heap.size wr (World.drew _) := (Below.refl _ wr).drew
            change wpAnyH _ _ _ _ _ _ _ _ (World.drew _)
            refine tk (i := 0) (d := 50) (v := .int .i64 ((e1 : Nat) : Int)) hF rfl rfl (by kernel_rfl) (by kernel_rfl) (by kernel_rfl) (fun _ _ _ h => h) (yi_go rfl (fun W hW => ex_move W rfl (fr_at hF 3 rfl))) hS rfl (by decide) (fun a1 hA1 hF' => ?_)
            replace hF := hF'; clear hF'
            refine tk (i := 1) (d := 51) (v := .agg #[.int .i64 0, .slice none 0 0, .int .i64 0]) hF rfl rfl (by kernel_rfl) (by kernel_rfl) (by kernel_rfl) (fun _ _ _ h => h) (yi_go rfl (fun W hW => by go_simp)) hS rfl (by decide) (fun a2 hA2 hF' => ?_)
            replace hF := hF'; clear hF'
            refine tk (i := 2) (d := 52) (v := .pointer (some ⟨BZ, 3, none⟩)) hF rfl rfl (by kernel_rfl) (by kernel_rfl) (by kernel_rfl) (fun _ _ _ h => h) (yi_go rfl (fun W hW => by have f1 := fr_at hF 2 rfl; go_simp)) hS rfl (by decide) (fun a3 hA3 hF' => ?_)
            replace hF := hF'; clear hF'
            refine tk (i := 3) (d := 53) (v := .int .i64 vr) hF rfl rfl (by kernel_rfl) (by kernel_rfl) (by kernel_rfl) (fun _ _ _ h => h) (yi_go rfl (fun W hW => by replace z3 := (hW.cell (p := ⟨BZ, 3, none⟩) (World.block_lt_of_cell? _ _ z3)).trans z3; have f52 := fr_at hF 0 rfl; go_simp)) hS rfl (by decide) (fun a4 hA4 hF' => ?_)
            replace hF := hF'; clear hF'
            refine tk (i := 4) (d := 54) (v := .pointer (some ⟨BZ, 4, none⟩)) hF rfl rfl (by kernel_rfl) (by kernel_rfl) (by kernel_rfl) (fun _ _ _ h => h) (yi_go rfl (fun W hW => by have f1 := fr_at hF 4 rfl; go_simp)) hS rfl (by decide) (fun a5 hA5 hF' => ?_)
            replace hF := hF'; clear hF'
            refine tk (i := 5) (d := 55) (v := .slice A2 m c2) hF rfl rfl (by kernel_rfl) (by kernel_rfl) (by kernel_rfl) (fun _ _ _ h => h) (yi_go rfl (fun W hW => by replace z4 := (hW.cell (p := ⟨BZ, 4, none⟩) (World.block_lt_of_cell? _ _ z4)).trans z4; have f54 := fr_at hF 0 rfl; go_simp)) hS rfl (by decide) (fun a6 hA6 hF' => ?_)
            replace hF := hF'; clear hF'
            refine wpAnyH_ready (rs := [6]) (by kernel_rfl) (by simp) ?_
            refine AllReadyH.cons rfl (fun K hK => ?_) AllReadyH.nil
            have f51 := fr_at hF 4 rfl
            have f53 := fr_at hF 2 rfl
            have f55 := fr_at hF 0 rfl
            go_simp
            clear f51 f53 f55
            go_at_call 39
            refine (HCR.out _ (on HB.out hS)).mono ?_
            rintro e wa ⟨rfl, hb⟩
            go_wp2_with fail
            refine hK.out _ _ (on hS hb) (fun _ => ?_)
            replace hS := on hS hb
            clear hK K
            change wpAnyH _ _ _ _ _ _ _ (a6.put (some 56) (.int .i64 ((e1 : Nat) : Int))) _
            have hF' := fr_put hF 56 (.int .i64 ((e1 : Nat) : Int)) rfl (by decide)
            generalize hA7 : Act.put a6 (some 56) (.int .i64 ((e1 : Nat) : Int)) = a7 at hF' ⊢
            replace hF := hF'; clear hF'
            refine tk (i := 7) (d := 57) (v := .bool false) hF rfl rfl (by kernel_rfl) (by kernel_rfl) (by kernel_rfl) (fun _ _ _ h => h) (yi_go rfl (fun W hW => by have f50 := fr_at hF 6 rfl; have f56 := fr_at hF 0 rfl; go_simp)) hS rfl (by decide) (fun a8 hA8 hF' => ?_)
            replace hF := hF'; clear hF'
            refine tk (i := 8) (d := 58) (v := .bool false) hF rfl rfl (by kernel_rfl) (by kernel_rfl) (by kernel_rfl) (fun _ _ _ h => h) (yi_go rfl (fun W hW => ex_move W rfl (fr_at hF 0 rfl))) hS rfl (by decide) (fun a9 hA9 hF' => ?_)
            replace hF := hF'; clear hF'
            refine tk (i := 9) (d := 59) (v := .int .i64 ((e1 : Nat) : Int)) hF rfl rfl (by kernel_rfl) (by kernel_rfl) (by kernel_rfl) (fun _ _ _ h => h) (yi_want rfl rfl (fr_at hF 0 rfl) (fun W hW => ex_move W rfl (fr_at hF 12 rfl))) hS rfl (by decide) (fun a10 hA10 hF' => ?_)
            replace hF := hF'; clear hF'
            refine tk (i := 10) (d := 60) (v := .bool true) hF rfl rfl (by kernel_rfl) (by kernel_rfl) (by kernel_rfl) (fun _ _ _ h => h) (yi_want rfl rfl (fr_at hF 1 rfl) (fun W hW => by have f59 := fr_at hF 0 rfl; go_simp)) hS rfl (by decide) (fun a11 hA11 hF' => ?_)
            replace hF := hF'; clear hF'
            refine tk (i := 11) (d := 61) (v := .bool true) hF rfl rfl (by kernel_rfl) (by kernel_rfl) (by kernel_rfl) (fun _ _ _ h => h) (yi_want rfl rfl (fr_at hF 2 rfl) (fun W hW => ex_move W rfl (fr_at hF 0 rfl))) hS rfl (by decide) (fun a12 hA12 hF' => ?_)
            replace hF := hF'; clear hF'
            refine tk (i := 12) (d := 62) (v := .int .i64 ((e1 : Nat) : Int)) hF rfl rfl (by kernel_rfl) (by kernel_rfl) (by kernel_rfl) (fun _ _ _ h => h) (yi_want rfl rfl (fr_at hF 0 rfl) (fun W hW => ex_move W rfl (fr_at hF 16 rfl))) hS rfl (by decide) (fun a13 hA13 hF' => ?_)
            replace hF := hF'; clear hF'
            refine tk (i := 13) (d := 63) (v := .int .i64 ((e1 : Nat) : Int)) hF rfl rfl (by kernel_rfl) (by kernel_rfl) (by kernel_rfl) (fun _ _ _ h => h) (yi_want rfl rfl (fr_at hF 1 rfl) (fun W hW => ex_move W rfl (fr_at hF 16 rfl))) hS rfl (by decide) (fun a14 hA14 hF' => ?_)
            replace hF := hF'; clear hF'
            refine tk (i := 14) (d := 64) (v := .bool false) hF rfl rfl (by kernel_rfl) (by kernel_rfl) (by kernel_rfl) (fun _ _ _ h => h) (yi_want rfl rfl (fr_at hF 2 rfl) (fun W hW => by have f62 := fr_at hF 1 rfl; have f63 := fr_at hF 0 rfl; go_simp)) hS rfl (by decide) (fun a15 hA15 hF' => ?_)
            replace hF := hF'; clear hF'
            refine tk (i := 15) (d := 65) (v := .bool false) hF rfl rfl (by kernel_rfl) (by kernel_rfl) (by kernel_rfl) (fun _ _ _ h => h) (yi_want rfl rfl (fr_at hF 6 rfl) (fun W hW => by have f61 := fr_at hF 3 rfl; have f64 := fr_at hF 0 rfl; go_simp)) hS rfl (by decide) (fun a16 hA16 hF' => ?_)
            replace hF := hF'; clear hF'
            refine tk (i := 16) (d := 66) (v := .bool false) hF rfl rfl (by kernel_rfl) (by kernel_rfl) (by kernel_rfl) (fun _ _ _ h => h) (yi_go rfl (fun W hW => by have f58 := fr_at hF 7 rfl; have f65 := fr_at hF 0 rfl; go_simp)) hS rfl (by decide) (fun a17 hA17 hF' => ?_)
            replace hF := hF'; clear hF'
            refine tk (i := 17) (d := 67) (v := .bool false) hF rfl rfl (by kernel_rfl) (by kernel_rfl) (by kernel_rfl) (fun _ _ _ h => h) (yi_go rfl (fun W hW => ex_move W rfl (fr_at hF 0 rfl))) hS rfl (by decide) (fun a18 hA18 hF' => ?_)
            replace hF := hF'; clear hF'
            refine tk (i := 18) (d := 68) (v := .int .i64 ((e1 : Nat) : Int)) hF rfl rfl (by kernel_rfl) (by kernel_rfl) (by kernel_rfl) (fun _ _ _ h => h) (yi_want rfl rfl (fr_at hF 0 rfl) (fun W hW => ex_move W rfl (fr_at hF 21 rfl))) hS rfl (by decide) (fun a19 hA19 hF' => ?_)
            replace hF := hF'; clear hF'
            refine tk (i := 19) (d := 69) (v := .bool false) hF rfl rfl (by kernel_rfl) (by kernel_rfl) (by kernel_rfl) (fun _ _ _ h => h) (yi_want rfl rfl (fr_at hF 1 rfl) (fun W hW => by have f68 := fr_at hF 0 rfl; go_simp)) hS rfl (by decide) (fun a20 hA20 hF' => ?_)
            replace hF := hF'; clear hF'
            refine tk (i := 20) (d := 70) (v := .bool false) hF rfl rfl (by kernel_rfl) (by kernel_rfl) (by kernel_rfl) (fun _ _ _ h => h) (yi_want rfl rfl (fr_at hF 2 rfl) (fun W hW => ex_move W rfl (fr_at hF 0 rfl))) hS rfl (by decide) (fun a21 hA21 hF' => ?_)
            replace hF := hF'; clear hF'
            refine tk (i := 21) (d := 71) (v := undef) hF rfl rfl (by kernel_rfl) (by kernel_rfl) (by kernel_rfl) (fun _ _ _ h => h) (yi_skip rfl rfl (fr_at hF 0 rfl)) hS rfl (by decide) (fun a22 hA22 hF' => ?_)
            replace hF := hF'; clear hF'
            refine tk (i := 22) (d := 72) (v := undef) hF rfl rfl (by kernel_rfl) (by kernel_rfl) (by kernel_rfl) (fun _ _ _ h => h) (yi_skip rfl rfl (fr_at hF 1 rfl)) hS rfl (by decide) (fun a23 hA23 hF' => ?_)
            replace hF := hF'; clear hF'
            refine tk (i := 23) (d := 73) (v := undef) hF rfl rfl (by kernel_rfl) (by kernel_rfl) (by kernel_rfl) (fun _ _ _ h => h) (yi_skip rfl rfl (fr_at hF 2 rfl)) hS rfl (by decide) (fun a24 hA24 hF' => ?_)
            replace hF := hF'; clear hF'
            refine tk (i := 24) (d := 74) (v := undef) hF rfl rfl (by kernel_rfl) (by kernel_rfl) (by kernel_rfl) (fun _ _ _ h => h) (yi_skip rfl rfl (fr_at hF 3 rfl)) hS rfl (by decide) (fun a25 hA25 hF' => ?_)
            replace hF := hF'; clear hF'
            refine tk (i := 25) (d := 75) (v := undef) hF rfl rfl (by kernel_rfl) (by kernel_rfl) (by kernel_rfl) (fun _ _ _ h => h) (yi_skip rfl rfl (fr_at hF 4 rfl)) hS rfl (by decide) (fun a26 hA26 hF' => ?_)
            replace hF := hF'; clear hF'
            refine tk (i := 26) (d := 76) (v := undef) hF rfl rfl (by kernel_rfl) (by kernel_rfl) (by kernel_rfl) (fun _ _ _ h => h) (yi_skip rfl rfl (fr_at hF 5 rfl)) hS rfl (by decide) (fun a27 hA27 hF' => ?_)
            replace hF := hF'; clear hF'
            refine tk (i := 27) (d := 77) (v := .bool false) hF rfl rfl (by kernel_rfl) (by kernel_rfl) (by kernel_rfl) (fun _ _ _ h => h) (yi_want rfl rfl (fr_at hF 9 rfl) (fun W hW => by have f70 := fr_at hF 6 rfl; have f76 := fr_at hF 0 rfl; go_simp)) hS rfl (by decide) (fun a28 hA28 hF' => ?_)
            replace hF := hF'; clear hF'
            refine tk (i := 28) (d := 78) (v := .bool false) hF rfl rfl (by kernel_rfl) (by kernel_rfl) (by kernel_rfl) (fun _ _ _ h => h) (yi_go rfl (fun W hW => by have f67 := fr_at hF 10 rfl; have f77 := fr_at hF 0 rfl; go_simp)) hS rfl (by decide) (fun a29 hA29 hF' => ?_)
            replace hF := hF'; clear hF'
            refine tk (i := 29) (d := 79) (v := .bool false) hF rfl rfl (by kernel_rfl) (by kernel_rfl) (by kernel_rfl) (fun _ _ _ h => h) (yi_go rfl (fun W hW => ex_move W rfl (fr_at hF 0 rfl))) hS rfl (by decide) (fun a30 hA30 hF' => ?_)
            replace hF := hF'; clear hF'
            refine tk (i := 30) (d := 80) (v := .slice (some ⟨BQ, 0, none⟩) 5 5) hF rfl rfl (by kernel_rfl) (by kernel_rfl) (by kernel_rfl) (fun _ _ _ h => h) (yi_want rfl rfl (fr_at hF 0 rfl) (fun W hW => ex_move W rfl (fr_at hF 31 rfl))) hS rfl (by decide) (fun a31 hA31 hF' => ?_)
            replace hF := hF'; clear hF'
            refine tk (i := 31) (d := 81) (v := .int .i64 (i : Int)) hF rfl rfl (by kernel_rfl) (by kernel_rfl) (by kernel_rfl) (fun _ _ _ h => h) (yi_want rfl rfl (fr_at hF 1 rfl) (fun W hW => ex_move W rfl (fr_at hF 33 rfl))) hS rfl (by decide) (fun a32 hA32 hF' => ?_)
            replace hF := hF'; clear hF'
            refine tk (i := 32) (d := 82) (v := .pointer (some ⟨BQ, i, none⟩)) hF rfl rfl (by kernel_rfl) (by kernel_rfl) (by kernel_rfl) (fun _ _ _ h => h) (yi_want rfl rfl (fr_at hF 2 rfl) (fun W hW => by have f80 := fr_at hF 1 rfl; have f81 := fr_at hF 0 rfl; go_simp)) hS rfl (by decide) (fun a33 hA33 hF' => ?_)
            replace hF := hF'; clear hF'
            refine tk (i := 33) (d := 83) (v := v) hF rfl rfl (by kernel_rfl) (by kernel_rfl) (by kernel_rfl) (fun _ _ _ h => h) (yi_want rfl rfl (fr_at hF 3 rfl) (fun W hW => by replace cv := (hW.cell (p := ⟨BQ, i, none⟩) (World.block_lt_of_cell? _ _ cv)).trans cv; have f82 := fr_at hF 0 rfl; go_simp)) hS rfl (by decide) (fun a34 hA34 hF' => ?_)
            replace hF := hF'; clear hF'
            refine tk (i := 34) (d := 84) (v := .pointer (some ⟨BZ, 5, none⟩)) hF rfl rfl (by kernel_rfl) (by kernel_rfl) (by kernel_rfl) (fun _ _ _ h => h) (yi_want rfl rfl (fr_at hF 4 rfl) (fun W hW => by have f1 := fr_at hF 34 rfl; go_simp)) hS rfl (by decide) (fun a35 hA35 hF' => ?_)
            replace hF := hF'; clear hF'
            refine tk (i := 35) (d := 85) (v := .slice A3 k c3) hF rfl rfl (by kernel_rfl) (by kernel_rfl) (by kernel_rfl) (fun _ _ _ h => h) (yi_want rfl rfl (fr_at hF 5 rfl) (fun W hW => by replace z5 := (hW.cell (p := ⟨BZ, 5, none⟩) (World.block_lt_of_cell? _ _ z5)).trans z5; have f84 := fr_at hF 0 rfl; go_simp)) hS rfl (by decide) (fun a36 hA36 hF' => ?_)
            replace hF := hF'; clear hF'
            refine tk (i := 36) (d := 86) (v := .pointer (some ⟨BZ, 4, none⟩)) hF rfl rfl (by kernel_rfl) (by kernel_rfl) (by kernel_rfl) (fun _ _ _ h => h) (yi_want rfl rfl (fr_at hF 6 rfl) (fun W hW => by have f1 := fr_at hF 36 rfl; go_simp)) hS rfl (by decide) (fun a37 hA37 hF' => ?_)
            replace hF := hF'; clear hF'
            refine tk (i := 37) (d := 87) (v := .slice A2 m c2) hF rfl rfl (by kernel_rfl) (by kernel_rfl) (by kernel_rfl) (fun _ _ _ h => h) (yi_want rfl rfl (fr_at hF 7 rfl) (fun W hW => by replace z4 := (hW.cell (p := ⟨BZ, 4, none⟩) (World.block_lt_of_cell? _ _ z4)).trans z4; have f86 := fr_at hF 0 rfl; go_simp)) hS rfl (by decide) (fun a38 hA38 hF' => ?_)
            replace hF := hF'; clear hF'
            refine tk (i := 39) (d := 89) (v := .pointer (some ⟨BZ, 4, none⟩)) hF rfl rfl (by kernel_rfl) (by kernel_rfl) (by kernel_rfl) (fun _ _ _ h => h) (yi_want rfl rfl (fr_at hF 8 rfl) (fun W hW => by have f1 := fr_at hF 38 rfl; go_simp)) hS rfl (by decide) (fun a39 hA39 hF' => ?_)
            replace hF := hF'; clear hF'
            refine tk (i := 40) (d := 90) (v := .slice A2 m c2) hF rfl rfl (by kernel_rfl) (by kernel_rfl) (by kernel_rfl) (fun _ _ _ h => h) (yi_want rfl rfl (fr_at hF 9 rfl) (fun W hW => by replace z4 := (hW.cell (p := ⟨BZ, 4, none⟩) (World.block_lt_of_cell? _ _ z4)).trans z4; have f89 := fr_at hF 0 rfl; go_simp)) hS rfl (by decide) (fun a40 hA40 hF' => ?_)
            replace hF := hF'; clear hF'
            refine tk (i := 41) (d := 91) (v := .int .i64 (m : Int)) hF rfl rfl (by kernel_rfl) (by kernel_rfl) (by kernel_rfl) (fun _ _ _ h => h) (yi_want rfl rfl (fr_at hF 10 rfl) (fun W hW => by have f90 := fr_at hF 0 rfl; go_simp)) hS rfl (by decide) (fun a41 hA41 hF' => ?_)
            replace hF := hF'; clear hF'
            refine tk (i := 42) (d := 92) (v := .bool false) hF rfl rfl (by kernel_rfl) (by kernel_rfl) (by kernel_rfl) (fun _ _ _ h => h) (yi_want rfl rfl (fr_at hF 11 rfl) (fun W hW => by have f91 := fr_at hF 0 rfl; go_simp)) hS rfl (by decide) (fun a42 hA42 hF' => ?_)
            replace hF := hF'; clear hF'
            refine wpAnyH_ready (rs := [38]) (by kernel_rfl) (by simp) ?_
            refine AllReadyH.cons rfl (fun K hK => ?_) AllReadyH.nil
            rw [if_pos (by rw [guard_at rfl rfl (fr_at hF 12 rfl)]; rfl)]
            have f83 := fr_at hF 8 rfl
            have f85 := fr_at hF 6 rfl
            have f87 := fr_at hF 4 rfl
            go_simp
            clear f83 f85 f87
            go_at_call 36
            refine (HHO.out _ v (on HB.out hS) (sortn_below HSN.out hS)).mono ?_
            rintro e wb ⟨rfl, hb⟩
            go_wp2_with fail
            refine hK.out _ _ (on hS hb) (fun _ => ?_)
            replace hS := on hS hb
            clear hK K
            change wpAnyH _ _ _ _ _ _ _ (a42.put (some 88) (.bool false)) _
            have hF' := fr_put hF 88 (.bool false) rfl (by decide)
            generalize hA43 : Act.put a42 (some 88) (.bool false) = a43 at hF' ⊢
            replace hF := hF'; clear hF'
            refine tk (i := 43) (d := 93) (v := .bool false) hF rfl rfl (by kernel_rfl) (by kernel_rfl) (by kernel_rfl) (fun _ _ _ h => h) (yi_want rfl rfl (fr_at hF 13 rfl) (fun W hW => by have f88 := fr_at hF 0 rfl; have f92 := fr_at hF 1 rfl; go_simp)) hS rfl (by decide) (fun a44 hA44 hF' => ?_)
            replace hF := hF'; clear hF'
            refine tk (i := 44) (d := 94) (v := .bool false) hF rfl rfl (by kernel_rfl) (by kernel_rfl) (by kernel_rfl) (fun _ _ _ h => h) (yi_go rfl (fun W hW => by have f79 := fr_at hF 14 rfl; have f93 := fr_at hF 0 rfl; go_simp)) hS rfl (by decide) (fun a45 hA45 hF' => ?_)
            replace hF := hF'; clear hF'
            refine wpAnyH_done (by kernel_rfl) ?_ _
            rw [← hA45, ← hA44, ← hA43, ← hA42, ← hA41, ← hA40, ← hA39, ← hA38, ← hA37, ← hA36, ← hA35, ← hA34, ← hA33, ← hA32, ← hA31, ← hA30, ← hA29, ← hA28, ← hA27, ← hA26, ← hA25, ← hA24, ← hA23, ← hA22, ← hA21, ← hA20, ← hA19, ← hA18, ← hA17, ← hA16, ← hA15, ← hA14, ← hA13, ← hA12, ← hA11, ← hA10, ← hA9, ← hA8, ← hA7, ← hA6, ← hA5, ← hA4, ← hA3, ← hA2, ← hA1, ← hA0]
            simp only [Act.put, List.setIfInBounds_toArray, List.set_cons_zero, List.set_cons_succ]
            clear hF
            have HB9 := Lib.hid (on HB.out hS)
            clear hS
            go_wp2_with fail
            go_roundw
            case rel => exact ⟨i + 1, by omega, by go_num, HB9.out⟩
            case measure => simp [intOf]; omega
      · obtain rfl : i = 5 := by omega
        have HBw := Lib.hid (on HB7.out HB.out)
        go_wp2_with fail
        go_ret
        exact ⟨rfl, HBw.out⟩
end Go.Proofs.YtappaokjlnpbnaaDoor
