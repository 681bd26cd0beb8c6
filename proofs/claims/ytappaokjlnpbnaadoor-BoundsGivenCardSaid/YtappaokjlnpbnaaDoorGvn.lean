/- BoundsGiven: the walk. -/
import Derived.Test.YtappaokjlnpbnaaDoorSix
import Derived.Test.YtappaokjlnpbnaaDoorGivP
import Derived.Test.YtappaokjlnpbnaaDoorRea
import Derived.Deep.QuietTactic
import Derived.BigQuiet
namespace Go.Proofs.YtappaokjlnpbnaaDoor
open Go.RowKit Go.Proofs.YtappaokjlnpbnaaDoorW.PrintWords
set_option linter.unusedVariables false
set_option maxRecDepth 100000 in
set_option maxHeartbeats 16000000 in
theorem given_in (A1 : Option Addr) (n1 c1 : Nat) (rows : List Nat) (s : Bool) (ef vr : Int) (A2 : Option Addr) (m c2 : Nat) (L : List Rea.Bd) (A3 : Option Addr) (k c3 : Nat) (vals : List Nat)
    (h1 : n1 = rows.length) (hm1 : n1 ≤ 9223372036854775807) (h2 : m = L.length) (hm2 : m ≤ 9223372036854775807) (h3 : k = vals.length) (hm3 : k ≤ c3) (hc3 : c3 ≤ 9223372036854775807) (w : World) (hR : Nums w A1 rows) (hL : Rea.Bds w A2 L) (hV : Nums w A3 vals) (hT : Tab w) :
    Calls Tryd.prog 13 #[.agg #[.slice A1 n1 c1, .bool s, .int .i64 ef, .int .i64 vr, .slice A2 m c2, .slice A3 k c3]] w fun e w' => e = .returned (.bool true) ∧ Below w.heap.size w w' := by
  have HR := Lib.hid hR
  have HL := Lib.hid hL
  have HV := Lib.hid hV
  have HT := Lib.hid hT
  have H1 := Lib.hid h1
  have H2 := Lib.hid h2
  have H3 := Lib.hid h3
  clear hR hL hV hT h1 h2 h3
  have HZ := Lib.hid (six_cells w (.slice A1 n1 c1) (.bool s) (.int .i64 ef) (.int .i64 vr) (.slice A2 m c2) (.slice A3 k c3) 53)
  have HB0 := Lib.hid (lit_below w (.cells #[.slice A1 n1 c1, .bool s, .int .i64 ef, .int .i64 vr, .slice A2 m c2, .slice A3 k c3] 53))
  obtain ⟨z0, z1, z2, z3, z4, z5⟩ := HZ.out
  have HGR := Lib.hid (fun W => great_any A1 n1 c1 s ef vr A2 m c2 A3 k c3 W)
  have HGK := Lib.hid (show greatB n1 m k = false → m ≤ 300 ∧ k ≤ 200 from fun h => by unfold greatB at h; simp at h; omega)
  have HSO := Lib.hid (fun W (h : Below w.heap.size w W) => sort_any A1 n1 c1 s ef vr A2 m c2 A3 k c3 rows H1.out hm1 W (HR.out.below h) (HT.out.below h))
  generalize greatB n1 m k = gr at HGR HGK
  go_enter Tryd.func13, Tryd.ntmps13
  go_wp2_with fail
  obtain ⟨BZ, hBZ⟩ : ∃ B, B = w.heap.size := ⟨_, rfl⟩
  rw [← hBZ] at HZ ⊢
  clear hBZ z0 z1 z2 z3 z4 z5
  generalize hw1 : w.alloc _ = w1 at *
  clear hw1
  refine (HGR.out _).mono ?_
  rintro e w2 ⟨rfl, hb⟩
  obtain ⟨z0, z1, z2, z3, z4, z5⟩ := six_on HZ.out hb
  replace HZ := Lib.hid (six_on HZ.out hb)
  have HB2 := Lib.hid (on HB0.out hb)
  clear hb HB0 HGR
  cases gr with
  | true =>
    go_wp2_with fail
    refine (alive10_any _ (HT.out.below HB2.out)).mono ?_
    rintro e wz ⟨rfl, hb⟩
    have HBz := Lib.hid (on HB2.out hb)
    clear hb
    go_wp2_with fail
    go_ret
    exact ⟨rfl, HBz.out⟩
  | false =>
    obtain ⟨hm300, hk200⟩ := HGK.out rfl
    clear HGK
    by_cases hv0 : vr < 0
    · have d0 : decide (vr < 0) = true := by simp; omega
      clear hv0
      go_wp2_with fail
      refine (alive10_any _ (HT.out.below HB2.out)).mono ?_
      rintro e wz ⟨rfl, hb⟩
      have HBz := Lib.hid (on HB2.out hb)
      clear hb
      go_wp2_with fail
      go_ret
      exact ⟨rfl, HBz.out⟩
    · have d0 : decide (vr < 0) = false := by simp; omega
      by_cases hvk : (k : Int) < vr
      · have d1 : decide (vr > (k : Int)) = true := by simp; omega
        clear hv0 hvk
        go_wp2_with fail
        refine (alive10_any _ (HT.out.below HB2.out)).mono ?_
        rintro e wz ⟨rfl, hb⟩
        have HBz := Lib.hid (on HB2.out hb)
        clear hb
        go_wp2_with fail
        go_ret
        exact ⟨rfl, HBz.out⟩
      · obtain ⟨N, rfl⟩ : ∃ N : Nat, vr = N := ⟨vr.toNat, by omega⟩
        have hNk : N ≤ k := by omega
        have d1 : decide ((N : Int) > (k : Int)) = false := by simp; omega
        clear hvk hv0
        by_cases h60 : 60 < N
        · have d2 : decide ((N : Int) > 60) = true := by simp; omega
          have d3 : decide (60 < N) = true := by simp; omega
          clear h60
          go_wp2_with fail
          refine (alive10_any _ (HT.out.below HB2.out)).mono ?_
          rintro e wz ⟨rfl, hb⟩
          have HBz := Lib.hid (on HB2.out hb)
          clear hb
          go_wp2_with fail
          go_ret
          exact ⟨rfl, HBz.out⟩
        · have d2 : decide ((N : Int) > 60) = false := by simp; omega
          have d3 : decide (60 < N) = false := by simp; omega
          by_cases hmn : 256 < m + 2 * N
          · have d4 : decide ((m : Int) + 2 * (N : Int) > 256) = true := by simp; omega
            clear hmn
            go_wp2_with fail
            refine (alive10_any _ (HT.out.below HB2.out)).mono ?_
            rintro e wz ⟨rfl, hb⟩
            have HBz := Lib.hid (on HB2.out hb)
            clear hb
            go_wp2_with fail
            go_ret
            exact ⟨rfl, HBz.out⟩
          · have d4 : decide ((m : Int) + 2 * (N : Int) > 256) = false := by simp; omega
            have i1 : (0 : Int) ≤ (N : Int) := by omega
            have i2 : (N : Int) ≤ (c3 : Int) := by omega
            go_wp2_with fail
            refine (HSO.out _ HB2.out).mono ?_
            rintro e w3 ⟨⟨v, rfl, hv, hs⟩, hb⟩
            obtain ⟨z0, z1, z2, z3, z4, z5⟩ := six_on HZ.out hb
            replace HZ := Lib.hid (six_on HZ.out hb)
            have HB3 := Lib.hid (on HB2.out hb)
            have HL3 := Lib.hid (HL.out.below HB3.out)
            have HV3 := Lib.hid (HV.out.below HB3.out)
            generalize sortS rows s ef = S at hs
            have HS := Lib.hid hs
            obtain ⟨t, pv, rfl, hsc, hfn⟩ := hs
            clear hb hv hsc hfn HSO HB2
            obtain ⟨t', p', ee, hsc, hfn⟩ := HS.out
            obtain ⟨et, ep⟩ : t' = t ∧ p' = pv := by
              cases ee
              exact ⟨rfl, rfl⟩
            rw [et, ep] at hsc
            clear et ep
            obtain ⟨fh, ih, ch⟩ := hsc.has
            have mhas := ih.meth
            have khas := ih.call
            have ahas := ih.ahead
            have HCH := Lib.hid ch
            clear ee hsc hfn ih ch
            obtain ⟨V, hV⟩ : ∃ V : Nat → Nat, V = fun i => vals.getD i 0 := ⟨_, rfl⟩
            have HVD := Lib.hid hV
            clear hV
            have LL := Lib.hid (show ([] ++ L : List Rea.Bd) = L from rfl)
            go_wp2_with (at_builtin; refine Rea.wpList_own2 (base := w3.heap.size) rfl (.const (.slice none 0 0)) (.tmp 52) rfl rfl (Rea.Own.nil w3.heap.size _) A2 m c2 rfl H2.out HL3.out (by simp; have := H2.out; omega) (Nat.le_refl _) ?_; intro v1 w4 ho1 hg1; rw [LL.out] at ho1; have HO1 := Lib.hid ho1; have HB4 := Lib.hid ((Below.refl w3.heap.size w3).grown hg1 (Nat.le_refl _) (fun k hk => by cases hk)); clear ho1 hg1)
            go_loopw [5, 6] (fun l x wr => ∃ i : Nat, i ≤ N ∧ x = .int .i64 i ∧ Hid (Rea.Own w3.heap.size wr l (L ++ gl V i)) ∧ Hid (∀ j, j < i → S.has (V j) = true) ∧ Hid (Below w3.heap.size w3 wr)) (fun _ x _ => N - (intOf x).toNat)
            case atStart => exact ⟨0, by omega, rfl, by rw [show gl V 0 = [] from rfl, List.append_nil]; exact HO1.out, fun j hj => absurd hj (Nat.not_lt_zero j), HB4.out⟩
            case round =>
              obtain ⟨i, hi, rfl, HO, HAS, HB⟩ := hrel
              obtain ⟨z0, z1, z2, z3, z4, z5⟩ := six_on HZ.out HB.out
              have HBr := Lib.hid (on HB3.out HB.out)
              by_cases hiN : i < N
              · have hil : i < vals.length := by rw [← H3.out]; omega
                obtain ⟨bV, oV, eV, _, hc⟩ := (HV3.out.below HB.out).2 (by omega)
                subst eV
                have cx := hc i hil
                have c3x : w3.cell? ⟨bV, oV + i, none⟩ = some (.int .u64 (vals[i] : Int)) := by
                  obtain ⟨b', o', e', _, hc'⟩ := HV3.out.2 (by omega)
                  cases e'
                  exact hc' i hil
                have hx64 := HV3.out.1 _ (List.getElem_mem hil)
                have HX := Lib.hid (show V i = vals[i] by rw [HVD.out]; simp [List.getD, hil])
                generalize vals[i] = x at cx c3x hx64 HX
                have HCX := Lib.hid (fun W (h : Below wr.heap.size wr W) => HCH.out W x (on HB.out h) hx64)
                have HAI := Lib.hid (fun (h1 : S.has x = true) => (show ∀ j, j < i + 1 → S.has (V j) = true from fun j hj => by
                  by_cases e : j = i
                  · rw [e, HX.out]
                    exact h1
                  · exact HAS.out j (by omega)))
                obtain ⟨hx, hhx⟩ : ∃ hx, hx = S.has x := ⟨_, rfl⟩
                rw [← hhx] at HCX HAI
                have j1 : (0 : Int) ≤ (i : Int) := by omega
                have j2 : (i : Int) < (N : Int) := by omega
                clear hhx hc hil
                cases hx with
                | false =>
                  go_upto_region 11 with fail
                  refine wp_region_held (S := fun W => Below wr.heap.size wr W) (by kernel_rfl) ?_
                  generalize hA0 : Act.mk _ _ = a0
                  have hF := Fr.nil (n := 135) (a := a0) (by rw [← hA0]; rfl)
                  replace hF := Fr.cons hF 6 (.int .i64 (i : Int)) (by rw [← hA0]; rfl)
                  replace hF := Fr.cons hF 4 (.slice (some ⟨bV, oV, none⟩) N c3) (by rw [← hA0]; rfl)
                  replace hF := Fr.cons hF 3 (.iface t pv) (by rw [← hA0]; rfl)
                  have hS : Below wr.heap.size wr (World.drew _) := (Below.refl _ wr).drew
                  change wpAnyH _ _ _ _ _ _ _ _ (World.drew _)
                  refine tk (i := 0) (d := 60) (v := .iface t pv) hF rfl rfl (by kernel_rfl) (by kernel_rfl) (by kernel_rfl) (fun _ _ _ h => h) (yi_go rfl (fun W hW => ex_move W rfl (fr_at hF 0 rfl))) hS rfl (by decide) (fun a1 hA1 hF' => ?_)
                  replace hF := hF'; clear hF'
                  refine tk (i := 1) (d := 61) (v := .slice (some ⟨bV, oV, none⟩) N c3) hF rfl rfl (by kernel_rfl) (by kernel_rfl) (by kernel_rfl) (fun _ _ _ h => h) (yi_go rfl (fun W hW => ex_move W rfl (fr_at hF 2 rfl))) hS rfl (by decide) (fun a2 hA2 hF' => ?_)
                  replace hF := hF'; clear hF'
                  refine tk (i := 2) (d := 62) (v := .int .i64 (i : Int)) hF rfl rfl (by kernel_rfl) (by kernel_rfl) (by kernel_rfl) (fun _ _ _ h => h) (yi_go rfl (fun W hW => ex_move W rfl (fr_at hF 4 rfl))) hS rfl (by decide) (fun a3 hA3 hF' => ?_)
                  replace hF := hF'; clear hF'
                  refine tk (i := 3) (d := 63) (v := .pointer (some ⟨bV, oV + i, none⟩)) hF rfl rfl (by kernel_rfl) (by kernel_rfl) (by kernel_rfl) (fun _ _ _ h => h) (yi_go rfl (fun W hW => by have f61 := fr_at hF 1 rfl; have f62 := fr_at hF 0 rfl; go_simp)) hS rfl (by decide) (fun a4 hA4 hF' => ?_)
                  replace hF := hF'; clear hF'
                  refine tk (i := 4) (d := 64) (v := .int .u64 (x : Int)) hF rfl rfl (by kernel_rfl) (by kernel_rfl) (by kernel_rfl) (fun _ _ _ h => h) (yi_go rfl (fun W hW => by replace cx := (hW.cell (p := ⟨bV, oV + i, none⟩) (World.block_lt_of_cell? _ _ cx)).trans cx; have f63 := fr_at hF 0 rfl; go_simp)) hS rfl (by decide) (fun a5 hA5 hF' => ?_)
                  replace hF := hF'; clear hF'
                  refine tk (i := 5) (d := 65) (v := .func (.method "Has") #[.iface t pv] #[]) hF rfl rfl (by kernel_rfl) (by kernel_rfl) (by kernel_rfl) (fun _ _ _ h => h) (yi_go rfl (fun W hW => by have f60 := fr_at hF 4 rfl; go_simp)) hS rfl (by decide) (fun a6 hA6 hF' => ?_)
                  replace hF := hF'; clear hF'
                  refine tk (i := 6) (d := 66) (v := .func (.method "Has") #[.iface t pv] #[]) hF rfl rfl (by kernel_rfl) (by kernel_rfl) (by kernel_rfl) (fun _ _ _ h => h) (yi_go rfl (fun W hW => by have f65 := fr_at hF 0 rfl; go_simp)) hS rfl (by decide) (fun a7 hA7 hF' => ?_)
                  replace hF := hF'; clear hF'
                  refine tk (i := 7) (d := 67) (v := .iface t pv) hF rfl rfl (by kernel_rfl) (by kernel_rfl) (by kernel_rfl) (fun _ _ _ h => h) (yi_go rfl (fun W hW => ex_move W rfl (fr_at hF 6 rfl))) hS rfl (by decide) (fun a8 hA8 hF' => ?_)
                  replace hF := hF'; clear hF'
                  refine wpAnyH_ready (rs := [8]) (by kernel_rfl) (by simp) ?_
                  refine AllReadyH.cons rfl (fun K hK => ?_) AllReadyH.nil
                  have f67 := fr_at hF 0 rfl
                  have f64 := fr_at hF 3 rfl
                  go_simp
                  clear f67 f64
                  refine (HCX.out _ hS).mono ?_
                  rintro e wa ⟨rfl, hb⟩
                  go_wp2_with fail
                  refine hK.out _ _ (on hS hb) (fun _ => ?_)
                  replace hS := on hS hb
                  clear hK K
                  change wpAnyH _ _ _ _ _ _ _ (a8.put (some 68) (.bool false)) _
                  have hF' := fr_put hF 68 (.bool false) rfl (by decide)
                  generalize hA9 : Act.put a8 (some 68) (.bool false) = a9 at hF' ⊢
                  replace hF := hF'; clear hF'
                  refine tk (i := 9) (d := 69) (v := .bool true) hF rfl rfl (by kernel_rfl) (by kernel_rfl) (by kernel_rfl) (fun _ _ _ h => h) (yi_go rfl (fun W hW => by have f68 := fr_at hF 0 rfl; go_simp)) hS rfl (by decide) (fun a10 hA10 hF' => ?_)
                  replace hF := hF'; clear hF'
                  refine wpAnyH_done (by kernel_rfl) ?_ _
                  rw [← hA10, ← hA9, ← hA8, ← hA7, ← hA6, ← hA5, ← hA4, ← hA3, ← hA2, ← hA1, ← hA0]
                  simp only [Act.put, List.setIfInBounds_toArray, List.set_cons_zero, List.set_cons_succ]
                  clear hF
                  have HBx := Lib.hid (on HBr.out hS)
                  clear hS
                  go_wp2_with fail
                  refine (alive10_any _ (HT.out.below HBx.out)).mono ?_
                  rintro e wz ⟨rfl, hb⟩
                  have HBz := Lib.hid (on HBx.out hb)
                  clear hb
                  go_wp2_with fail
                  go_ret
                  exact ⟨rfl, HBz.out⟩
                | true =>
                  have HAJ := Lib.hid (HAI.out rfl)
                  go_upto_region 11 with fail
                  refine wp_region_held (S := fun W => Below wr.heap.size wr W) (by kernel_rfl) ?_
                  generalize hA0 : Act.mk _ _ = a0
                  have hF := Fr.nil (n := 135) (a := a0) (by rw [← hA0]; rfl)
                  replace hF := Fr.cons hF 6 (.int .i64 (i : Int)) (by rw [← hA0]; rfl)
                  replace hF := Fr.cons hF 4 (.slice (some ⟨bV, oV, none⟩) N c3) (by rw [← hA0]; rfl)
                  replace hF := Fr.cons hF 3 (.iface t pv) (by rw [← hA0]; rfl)
                  have hS : Below wr.heap.size wr (World.drew _) := (Below.refl _ wr).drew
                  change wpAnyH _ _ _ _ _ _ _ _ (World.drew _)
                  refine tk (i := 0) (d := 60) (v := .iface t pv) hF rfl rfl (by kernel_rfl) (by kernel_rfl) (by kernel_rfl) (fun _ _ _ h => h) (yi_go rfl (fun W hW => ex_move W rfl (fr_at hF 0 rfl))) hS rfl (by decide) (fun a1 hA1 hF' => ?_)
                  replace hF := hF'; clear hF'
                  refine tk (i := 1) (d := 61) (v := .slice (some ⟨bV, oV, none⟩) N c3) hF rfl rfl (by kernel_rfl) (by kernel_rfl) (by kernel_rfl) (fun _ _ _ h => h) (yi_go rfl (fun W hW => ex_move W rfl (fr_at hF 2 rfl))) hS rfl (by decide) (fun a2 hA2 hF' => ?_)
                  replace hF := hF'; clear hF'
                  refine tk (i := 2) (d := 62) (v := .int .i64 (i : Int)) hF rfl rfl (by kernel_rfl) (by kernel_rfl) (by kernel_rfl) (fun _ _ _ h => h) (yi_go rfl (fun W hW => ex_move W rfl (fr_at hF 4 rfl))) hS rfl (by decide) (fun a3 hA3 hF' => ?_)
                  replace hF := hF'; clear hF'
                  refine tk (i := 3) (d := 63) (v := .pointer (some ⟨bV, oV + i, none⟩)) hF rfl rfl (by kernel_rfl) (by kernel_rfl) (by kernel_rfl) (fun _ _ _ h => h) (yi_go rfl (fun W hW => by have f61 := fr_at hF 1 rfl; have f62 := fr_at hF 0 rfl; go_simp)) hS rfl (by decide) (fun a4 hA4 hF' => ?_)
                  replace hF := hF'; clear hF'
                  refine tk (i := 4) (d := 64) (v := .int .u64 (x : Int)) hF rfl rfl (by kernel_rfl) (by kernel_rfl) (by kernel_rfl) (fun _ _ _ h => h) (yi_go rfl (fun W hW => by replace cx := (hW.cell (p := ⟨bV, oV + i, none⟩) (World.block_lt_of_cell? _ _ cx)).trans cx; have f63 := fr_at hF 0 rfl; go_simp)) hS rfl (by decide) (fun a5 hA5 hF' => ?_)
                  replace hF := hF'; clear hF'
                  refine tk (i := 5) (d := 65) (v := .func (.method "Has") #[.iface t pv] #[]) hF rfl rfl (by kernel_rfl) (by kernel_rfl) (by kernel_rfl) (fun _ _ _ h => h) (yi_go rfl (fun W hW => by have f60 := fr_at hF 4 rfl; go_simp)) hS rfl (by decide) (fun a6 hA6 hF' => ?_)
                  replace hF := hF'; clear hF'
                  refine tk (i := 6) (d := 66) (v := .func (.method "Has") #[.iface t pv] #[]) hF rfl rfl (by kernel_rfl) (by kernel_rfl) (by kernel_rfl) (fun _ _ _ h => h) (yi_go rfl (fun W hW => by have f65 := fr_at hF 0 rfl; go_simp)) hS rfl (by decide) (fun a7 hA7 hF' => ?_)
                  replace hF := hF'; clear hF'
                  refine tk (i := 7) (d := 67) (v := .iface t pv) hF rfl rfl (by kernel_rfl) (by kernel_rfl) (by kernel_rfl) (fun _ _ _ h => h) (yi_go rfl (fun W hW => ex_move W rfl (fr_at hF 6 rfl))) hS rfl (by decide) (fun a8 hA8 hF' => ?_)
                  replace hF := hF'; clear hF'
                  refine wpAnyH_ready (rs := [8]) (by kernel_rfl) (by simp) ?_
                  refine AllReadyH.cons rfl (fun K hK => ?_) AllReadyH.nil
                  have f67 := fr_at hF 0 rfl
                  have f64 := fr_at hF 3 rfl
                  go_simp
                  clear f67 f64
                  refine (HCX.out _ hS).mono ?_
                  rintro e wa ⟨rfl, hb⟩
                  go_wp2_with fail
                  refine hK.out _ _ (on hS hb) (fun _ => ?_)
                  replace hS := on hS hb
                  clear hK K
                  change wpAnyH _ _ _ _ _ _ _ (a8.put (some 68) (.bool true)) _
                  have hF' := fr_put hF 68 (.bool true) rfl (by decide)
                  generalize hA9 : Act.put a8 (some 68) (.bool true) = a9 at hF' ⊢
                  replace hF := hF'; clear hF'
                  refine tk (i := 9) (d := 69) (v := .bool false) hF rfl rfl (by kernel_rfl) (by kernel_rfl) (by kernel_rfl) (fun _ _ _ h => h) (yi_go rfl (fun W hW => by have f68 := fr_at hF 0 rfl; go_simp)) hS rfl (by decide) (fun a10 hA10 hF' => ?_)
                  replace hF := hF'; clear hF'
                  refine wpAnyH_done (by kernel_rfl) ?_ _
                  rw [← hA10, ← hA9, ← hA8, ← hA7, ← hA6, ← hA5, ← hA4, ← hA3, ← hA2, ← hA1, ← hA0]
                  simp only [Act.put, List.setIfInBounds_toArray, List.set_cons_zero, List.set_cons_succ]
                  clear hF
                  have HB11 := Lib.hid (on HB.out hS)
                  have HO11 := Lib.hid (HO.out.below hS)
                  clear hS HAI HO HB HBr cx HCX
                  generalize wa = wr at *
                  have i60 : (i : Int) ≤ 60 := by omega
                  have lgl := Lib.hid (gl_length V i)
                  have wi : IntKind.u64.wrap (i : Int) = (i : Int) := by rw [IntKind.wrap_u64]; omega
                  go_wp2_with fail
                  refine wp_region_held (S := fun W => Below w3.heap.size w3 W) (by kernel_rfl) ?_
                  generalize hA0 : Act.mk _ _ = a0
                  have hF := Fr.nil (n := 135) (a := a0) (by rw [← hA0]; rfl)
                  replace hF := Fr.cons hF 6 (.int .i64 (i : Int)) (by rw [← hA0]; rfl)
                  replace hF := Fr.cons hF 5 (u5) (by rw [← hA0]; rfl)
                  replace hF := Fr.cons hF 4 (.slice (some ⟨bV, oV, none⟩) N c3) (by rw [← hA0]; rfl)
                  replace hF := Fr.cons hF 3 (.iface t pv) (by rw [← hA0]; rfl)
                  have hS : Below w3.heap.size w3 (World.drew _) := HB11.out.drew
                  replace HO11 := Lib.hid (HO11.out.below (Below.drew (Below.refl _ _)))
                  change wpAnyH _ _ _ _ _ _ _ _ (World.drew _)
                  refine tk (i := 0) (d := 71) (v := u5) hF rfl rfl (by kernel_rfl) (by kernel_rfl) (by kernel_rfl) (fun _ _ _ h => h) (yi_go rfl (fun W hW => ex_move W rfl (fr_at hF 2 rfl))) hS rfl (by decide) (fun a1 hA1 hF' => ?_)
                  replace hF := hF'; clear hF'
                  refine tk (i := 1) (d := 72) (v := .slice (some ⟨bV, oV, none⟩) N c3) hF rfl rfl (by kernel_rfl) (by kernel_rfl) (by kernel_rfl) (fun _ _ _ h => h) (yi_go rfl (fun W hW => ex_move W rfl (fr_at hF 2 rfl))) hS rfl (by decide) (fun a2 hA2 hF' => ?_)
                  replace hF := hF'; clear hF'
                  refine tk (i := 2) (d := 73) (v := .int .i64 (i : Int)) hF rfl rfl (by kernel_rfl) (by kernel_rfl) (by kernel_rfl) (fun _ _ _ h => h) (yi_go rfl (fun W hW => ex_move W rfl (fr_at hF 5 rfl))) hS rfl (by decide) (fun a3 hA3 hF' => ?_)
                  replace hF := hF'; clear hF'
                  refine tk (i := 3) (d := 74) (v := .pointer (some ⟨bV, oV + i, none⟩)) hF rfl rfl (by kernel_rfl) (by kernel_rfl) (by kernel_rfl) (fun _ _ _ h => h) (yi_go rfl (fun W hW => by have f72 := fr_at hF 1 rfl; have f73 := fr_at hF 0 rfl; go_simp)) hS rfl (by decide) (fun a4 hA4 hF' => ?_)
                  replace hF := hF'; clear hF'
                  refine tk (i := 4) (d := 75) (v := .int .u64 (x : Int)) hF rfl rfl (by kernel_rfl) (by kernel_rfl) (by kernel_rfl) (fun _ _ _ h => h) (yi_go rfl (fun W hW => by replace c3x := (hW.cell (p := ⟨bV, oV + i, none⟩) (World.block_lt_of_cell? _ _ c3x)).trans c3x; have f74 := fr_at hF 0 rfl; go_simp)) hS rfl (by decide) (fun a5 hA5 hF' => ?_)
                  replace hF := hF'; clear hF'
                  refine tk (i := 6) (d := 77) (v := .int .i64 (i : Int)) hF rfl rfl (by kernel_rfl) (by kernel_rfl) (by kernel_rfl) (fun _ _ _ h => h) (yi_go rfl (fun W hW => ex_move W rfl (fr_at hF 8 rfl))) hS rfl (by decide) (fun a6 hA6 hF' => ?_)
                  replace hF := hF'; clear hF'
                  refine tk (i := 7) (d := 78) (v := .int .u64 (i : Int)) hF rfl rfl (by kernel_rfl) (by kernel_rfl) (by kernel_rfl) (fun _ _ _ h => h) (yi_go rfl (fun W hW => by have f77 := fr_at hF 0 rfl; go_simp)) hS rfl (by decide) (fun a7 hA7 hF' => ?_)
                  replace hF := hF'; clear hF'
                  refine tk (i := 10) (d := 81) (v := .int .i64 (i : Int)) hF rfl rfl (by kernel_rfl) (by kernel_rfl) (by kernel_rfl) (fun _ _ _ h => h) (yi_go rfl (fun W hW => ex_move W rfl (fr_at hF 10 rfl))) hS rfl (by decide) (fun a8 hA8 hF' => ?_)
                  replace hF := hF'; clear hF'
                  refine tk (i := 11) (d := 82) (v := .int .u64 (i : Int)) hF rfl rfl (by kernel_rfl) (by kernel_rfl) (by kernel_rfl) (fun _ _ _ h => h) (yi_go rfl (fun W hW => by have f81 := fr_at hF 0 rfl; go_simp)) hS rfl (by decide) (fun a9 hA9 hF' => ?_)
                  replace hF := hF'; clear hF'
                  refine tk (i := 13) (d := 84) (v := .slice (some ⟨bV, oV, none⟩) N c3) hF rfl rfl (by kernel_rfl) (by kernel_rfl) (by kernel_rfl) (fun _ _ _ h => h) (yi_go rfl (fun W hW => ex_move W rfl (fr_at hF 10 rfl))) hS rfl (by decide) (fun a10 hA10 hF' => ?_)
                  replace hF := hF'; clear hF'
                  refine tk (i := 14) (d := 85) (v := .int .i64 (i : Int)) hF rfl rfl (by kernel_rfl) (by kernel_rfl) (by kernel_rfl) (fun _ _ _ h => h) (yi_go rfl (fun W hW => ex_move W rfl (fr_at hF 13 rfl))) hS rfl (by decide) (fun a11 hA11 hF' => ?_)
                  replace hF := hF'; clear hF'
                  refine tk (i := 15) (d := 86) (v := .pointer (some ⟨bV, oV + i, none⟩)) hF rfl rfl (by kernel_rfl) (by kernel_rfl) (by kernel_rfl) (fun _ _ _ h => h) (yi_go rfl (fun W hW => by have f84 := fr_at hF 1 rfl; have f85 := fr_at hF 0 rfl; go_simp)) hS rfl (by decide) (fun a12 hA12 hF' => ?_)
                  replace hF := hF'; clear hF'
                  refine tk (i := 16) (d := 87) (v := .int .u64 (x : Int)) hF rfl rfl (by kernel_rfl) (by kernel_rfl) (by kernel_rfl) (fun _ _ _ h => h) (yi_go rfl (fun W hW => by replace c3x := (hW.cell (p := ⟨bV, oV + i, none⟩) (World.block_lt_of_cell? _ _ c3x)).trans c3x; have f86 := fr_at hF 0 rfl; go_simp)) hS rfl (by decide) (fun a13 hA13 hF' => ?_)
                  replace hF := hF'; clear hF'
                  refine wpAnyH_ready (rs := [5]) (by kernel_rfl) (by simp) ?_
                  refine AllReadyH.cons rfl (fun K hK => ?_) AllReadyH.nil
                  have f75 := fr_at hF 8 rfl
                  go_simp
                  clear f75
                  go_at_call 41
                  refine (cB_any x _).mono ?_
                  rintro e wa ⟨rfl, hb⟩
                  replace HO11 := Lib.hid (HO11.out.below hb)
                  go_wp2_with fail
                  refine hK.out _ _ (on hS hb) (fun _ => ?_)
                  replace hS := on hS hb
                  clear hK K
                  change wpAnyH _ _ _ _ _ _ _ (a13.put (some 76) (.agg #[.bool false, .int .u64 (x : Int)])) _
                  have hF' := fr_put hF 76 (.agg #[.bool false, .int .u64 (x : Int)]) rfl (by decide)
                  generalize hA14 : Act.put a13 (some 76) (.agg #[.bool false, .int .u64 (x : Int)]) = a14 at hF' ⊢
                  replace hF := hF'; clear hF'
                  refine wpAnyH_ready (rs := [8]) (by kernel_rfl) (by simp) ?_
                  refine AllReadyH.cons rfl (fun K hK => ?_) AllReadyH.nil
                  have f78 := fr_at hF 7 rfl
                  go_simp
                  clear f78
                  go_at_call 42
                  refine (vB_any i _).mono ?_
                  rintro e wb ⟨rfl, hb⟩
                  replace HO11 := Lib.hid (HO11.out.below hb)
                  go_wp2_with fail
                  refine hK.out _ _ (on hS hb) (fun _ => ?_)
                  replace hS := on hS hb
                  clear hK K
                  change wpAnyH _ _ _ _ _ _ _ (a14.put (some 79) (.agg #[.bool true, .int .u64 (i : Int)])) _
                  have hF' := fr_put hF 79 (.agg #[.bool true, .int .u64 (i : Int)]) rfl (by decide)
                  generalize hA15 : Act.put a14 (some 79) (.agg #[.bool true, .int .u64 (i : Int)]) = a15 at hF' ⊢
                  replace hF := hF'; clear hF'
                  refine tk (i := 9) (d := 80) (v := .agg #[.bool false, .int .u64 (x : Int), .bool true, .int .u64 (i : Int)]) hF rfl rfl (by kernel_rfl) (by kernel_rfl) (by kernel_rfl) (fun _ _ _ h => h) (yi_go rfl (fun W hW => by have f76 := fr_at hF 1 rfl; have f79 := fr_at hF 0 rfl; go_simp)) hS rfl (by decide) (fun a16 hA16 hF' => ?_)
                  replace hF := hF'; clear hF'
                  refine wpAnyH_ready (rs := [12]) (by kernel_rfl) (by simp) ?_
                  refine AllReadyH.cons rfl (fun K hK => ?_) AllReadyH.nil
                  have f82 := fr_at hF 7 rfl
                  go_simp
                  clear f82
                  go_at_call 42
                  refine (vB_any i _).mono ?_
                  rintro e wc ⟨rfl, hb⟩
                  replace HO11 := Lib.hid (HO11.out.below hb)
                  go_wp2_with fail
                  refine hK.out _ _ (on hS hb) (fun _ => ?_)
                  replace hS := on hS hb
                  clear hK K
                  change wpAnyH _ _ _ _ _ _ _ (a16.put (some 83) (.agg #[.bool true, .int .u64 (i : Int)])) _
                  have hF' := fr_put hF 83 (.agg #[.bool true, .int .u64 (i : Int)]) rfl (by decide)
                  generalize hA17 : Act.put a16 (some 83) (.agg #[.bool true, .int .u64 (i : Int)]) = a17 at hF' ⊢
                  replace hF := hF'; clear hF'
                  refine wpAnyH_ready (rs := [17]) (by kernel_rfl) (by simp) ?_
                  refine AllReadyH.cons rfl (fun K hK => ?_) AllReadyH.nil
                  have f87 := fr_at hF 4 rfl
                  go_simp
                  clear f87
                  go_at_call 41
                  refine (cB_any x _).mono ?_
                  rintro e wd ⟨rfl, hb⟩
                  replace HO11 := Lib.hid (HO11.out.below hb)
                  go_wp2_with fail
                  refine hK.out _ _ (on hS hb) (fun _ => ?_)
                  replace hS := on hS hb
                  clear hK K
                  change wpAnyH _ _ _ _ _ _ _ (a17.put (some 88) (.agg #[.bool false, .int .u64 (x : Int)])) _
                  have hF' := fr_put hF 88 (.agg #[.bool false, .int .u64 (x : Int)]) rfl (by decide)
                  generalize hA18 : Act.put a17 (some 88) (.agg #[.bool false, .int .u64 (x : Int)]) = a18 at hF' ⊢
                  replace hF := hF'; clear hF'
                  refine tk (i := 18) (d := 89) (v := .agg #[.bool true, .int .u64 (i : Int), .bool false, .int .u64 (x : Int)]) hF rfl rfl (by kernel_rfl) (by kernel_rfl) (by kernel_rfl) (fun _ _ _ h => h) (yi_go rfl (fun W hW => by have f83 := fr_at hF 1 rfl; have f88 := fr_at hF 0 rfl; go_simp)) hS rfl (by decide) (fun a19 hA19 hF' => ?_)
                  replace hF := hF'; clear hF'
                  refine wpAnyH_ready (rs := [19]) (by kernel_rfl) (by simp) ?_
                  refine AllReadyH.cons rfl (fun K hK => ?_) AllReadyH.nil
                  have f80 := fr_at hF 3 rfl
                  have f89 := fr_at hF 0 rfl
                  go_simp
                  clear f80 f89
                  have hbb : Below wd.heap.size wd (wd.alloc (.cells #[.bool false, .int .u64 (x : Int), .bool true, .int .u64 (i : Int), .bool true, .int .u64 (i : Int), .bool false, .int .u64 (x : Int)] 72)) := (Below.refl _ _).alloc (Nat.le_refl _) _
                  have hob : Rea.Bds (wd.alloc (.cells #[.bool false, .int .u64 (x : Int), .bool true, .int .u64 (i : Int), .bool true, .int .u64 (i : Int), .bool false, .int .u64 (x : Int)] 72)) (some ⟨wd.heap.size, 0, none⟩) [⟨false, x, true, i⟩, ⟨true, i, false, x⟩] := bds2 wd false x true i hx64 (by omega) true i false x (by omega) hx64
                  refine hK.out _ _ (hS.trans (hbb.mono hS.size)) (fun _ => ?_)
                  clear hK K
                  replace hS : Below w3.heap.size w3 _ := hS.trans (hbb.mono hS.size)
                  replace HO11 := Lib.hid (HO11.out.below hbb)
                  generalize wd.alloc (.cells #[.bool false, .int .u64 (x : Int), .bool true, .int .u64 (i : Int), .bool true, .int .u64 (i : Int), .bool false, .int .u64 (x : Int)] 72) = we at *
                  change wpAnyH _ _ _ _ _ _ _ (a19.put (some 90) (.slice (some ⟨wd.heap.size, 0, none⟩) 2 2)) _
                  have hF' := fr_put hF 90 (.slice (some ⟨wd.heap.size, 0, none⟩) 2 2) rfl (by decide)
                  generalize hA20 : Act.put a19 (some 90) (.slice (some ⟨wd.heap.size, 0, none⟩) 2 2) = a20 at hF' ⊢
                  replace hF := hF'; clear hF'
                  refine wpAnyH_ready (rs := [20]) (by kernel_rfl) (by simp) ?_
                  refine AllReadyH.cons rfl (fun K hK => ?_) AllReadyH.nil
                  refine Rea.step_own2 rfl (.tmp 71) (.tmp 90) rfl (ev_tmp (fr_at hF 19 rfl)) HO11.out (some ⟨wd.heap.size, 0, none⟩) 2 2 (ev_tmp (fr_at hF 0 rfl)) rfl hob (by rw [List.length_append, lgl.out, ← H2.out]; simp; omega) hS.size ?_
                  intro v1 wf ho1 hg1
                  have hb1 : Below w3.heap.size w3 wf := hS.grown hg1 hS.size (fun k hk => (HO11.out.1.lt k hk).1)
                  refine hK.out _ _ hb1 (fun _ => ?_)
                  clear hK K
                  replace hS := hb1
                  clear hb1 hg1 hob hbb HO11
                  change wpAnyH _ _ _ _ _ _ _ (a20.put (some 91) (v1)) _
                  have hF' := fr_put hF 91 (v1) rfl (by decide)
                  generalize hA21 : Act.put a20 (some 91) (v1) = a21 at hF' ⊢
                  replace hF := hF'; clear hF'
                  replace hF := fr_erase hF 23
                  simp only [List.eraseIdx_cons_succ, List.eraseIdx_cons_zero] at hF
                  refine tk (i := 21) (d := 5) (v := v1) hF rfl rfl (by kernel_rfl) (by kernel_rfl) (by kernel_rfl) (fun _ _ _ h => h) (yi_go rfl (fun W hW => ex_assign W rfl (fr_at hF 0 rfl))) hS rfl (by decide) (fun a22 hA22 hF' => ?_)
                  replace hF := hF'; clear hF'
                  refine wpAnyH_done (by kernel_rfl) ?_ _
                  rw [← hA22, ← hA21, ← hA20, ← hA19, ← hA18, ← hA17, ← hA16, ← hA15, ← hA14, ← hA13, ← hA12, ← hA11, ← hA10, ← hA9, ← hA8, ← hA7, ← hA6, ← hA5, ← hA4, ← hA3, ← hA2, ← hA1, ← hA0]
                  simp only [Act.put, List.setIfInBounds_toArray, List.set_cons_zero, List.set_cons_succ]
                  clear hF
                  go_wp2_with fail
                  go_roundw
                  case rel => exact ⟨i + 1, by omega, by go_num, by rw [gl_succ, HX.out, ← List.append_assoc]; exact ho1, HAJ.out, hS⟩
                  case measure => simp [intOf]; omega
              · obtain rfl : i = N := by omega
                clear hiN
                have HSr := Lib.hid (HS.out.below HB.out)
                have HLr := Lib.hid (HL3.out.below HB.out)
                have HVr := Lib.hid (HV3.out.below HB.out)
                have HVV := Lib.hid (show lst i V = vals.take i by rw [HVD.out]; exact take_lst (by rw [← H3.out]; exact hNk))
                obtain ⟨MV, hMV⟩ : ∃ MV, MV = L ++ gl V i := ⟨_, rfl⟩
                have HMV := Lib.hid hMV
                rw [← hMV] at HO
                obtain ⟨a3, cap3, eO, hL3, _⟩ := HO.out.bds
                obtain ⟨m3, hm3⟩ : ∃ m3, m3 = MV.length := ⟨_, rfl⟩
                rw [← hm3] at eO
                subst eO
                have HM3 := Lib.hid hm3
                have HL3' := Lib.hid hL3
                have hmn2 : L.length + 2 * i ≤ 256 := by rw [← H2.out]; omega
                have HLW := Lib.hid (fun (hc : chkF S (i : Int) L = 0) xs ys e (h : Ans2 S (i : Int) MV xs ys e) => given_law HS.out.fn hc hmn2 HAS.out (HMV.out ▸ h))
                have HTN := Lib.hid (Nums.take HVr.out i)
                have HLN := Lib.hid (show i = (vals.take i).length by rw [List.length_take, ← H3.out]; omega)
                rw [← HVV.out] at HTN HLN
                clear HO hL3 hm3 hMV hmn2 HVr HAS HCH
                have HCK := Lib.hid (check_all (.iface t pv) S (i : Int) A2 m c2 L H2.out _ HSr.out.n HLr.out)
                generalize chkF S (i : Int) L = ck at HCK HLW
                go_wp2_with fail
                refine HCK.out.mono ?_
                rintro e w5 ⟨rfl, hb⟩
                obtain ⟨z0, z1, z2, z3, z4, z5⟩ := six_on (six_on HZ.out HB.out) hb
                have HB5 := Lib.hid (on HBr.out hb)
                have HBR := Lib.hid hb
                clear hb HCK
                by_cases hck : ck = 0
                · subst hck
                  go_wp2_with fail
                  refine (solve_ans (.iface t pv) S HS.out.fn (i : Int) a3 m3 cap3 MV HM3.out _ (HSr.out.below HBR.out).n (HL3'.out.below HBR.out)).mono ?_
                  rintro e w6 ⟨hb, A, B, ca, xs, ys, e1, rfl, hans, hc1, hc2, hc64, hn1, hn2⟩
                  obtain ⟨hl1, hl2⟩ := HLW.out (by first | rfl | trivial) xs ys e1 hans
                  have HC1 := Lib.hid hc1
                  have HC2 := Lib.hid hc2
                  have HN1 := Lib.hid hn1
                  have HN2 := Lib.hid hn2
                  have HR6 := Lib.hid (on HBR.out hb)
                  obtain ⟨z0, z1, z2, z3, z4, z5⟩ := six_on (six_on HZ.out HB.out) HR6.out
                  have HHO := Lib.hid (hold_any (.iface t pv) S A3 i c3 (lst i V) HLN.out (by omega) A2 m c2 L H2.out hm2 w6 (HSr.out.below HR6.out).n (HTN.out.below HR6.out) (HLr.out.below HR6.out))
                  clear hb hans hc1 hc2 hn1 hn2 HLW
                  generalize holdF S (lst i V) L = hr at HHO hl1 hl2
                  have HL1 := Lib.hid hl1
                  have HL2 := Lib.hid hl2
                  clear hl1 hl2
                  go_wp2_with fail
                  refine HHO.out.mono ?_
                  rintro e w7 ⟨rfl, hb⟩
                  have HR7 := Lib.hid (on HR6.out hb)
                  have HB7 := Lib.hid (on HBr.out HR7.out)
                  have HN1' := Lib.hid (HN1.out.below hb)
                  have HN2' := Lib.hid (HN2.out.below hb)
                  clear hb HHO
                  cases hr with
                  | false =>
                    have he := HL2.out rfl
                    subst he
                    clear HL1 HL2
                    go_wp2_with fail
                    refine (alive10_any _ (HT.out.below HB7.out)).mono ?_
                    rintro e wz ⟨rfl, hb⟩
                    have HBz := Lib.hid (on HB7.out hb)
                    clear hb
                    go_wp2_with fail
                    go_ret
                    exact ⟨rfl, HBz.out⟩
                  | true =>
                    obtain ⟨he, hx, hy⟩ := HL1.out rfl
                    subst he
                    have HX1 := Lib.hid hx
                    have HY1 := Lib.hid hy
                    clear HL1 HL2 hx hy
                    go_wp2_with fail
                    refine (alive10_any _ (HT.out.below HB7.out)).mono ?_
                    rintro e w8 ⟨rfl, hb⟩
                    have HR8 := Lib.hid hb
                    clear hb
                    go_wp2_with fail
                    refine (same_nums A ca ca A3 i c3 xs (lst i V) HC1.out HLN.out (by omega) (by omega) _ (HN1'.out.below HR8.out) (HTN.out.below (on HR7.out HR8.out))).mono ?_
                    rintro e w9 ⟨rfl, hb⟩
                    have HR9 := Lib.hid (on HR8.out hb)
                    clear hb
                    have dx : decide (xs = lst i V) = true := by simp [HX1.out]
                    rw [dx]
                    go_wp2_with fail
                    refine (same_nums B ca ca A3 i c3 ys (lst i V) HC2.out HLN.out (by omega) (by omega) _ (HN2'.out.below HR9.out) (HTN.out.below (on HR7.out HR9.out))).mono ?_
                    rintro e w10 ⟨rfl, hb⟩
                    have HR10 := Lib.hid (on HB7.out (on HR9.out hb))
                    clear hb
                    have dy : decide (ys = lst i V) = true := by simp [HY1.out]
                    rw [dy]
                    go_wp2_with fail
                    go_ret
                    exact ⟨rfl, HR10.out⟩
                · have dk : (((ck : Nat) : Int) != 0) = true := by simp; omega
                  clear hck HLW
                  go_wp2_with fail
                  refine (alive10_any _ (HT.out.below HB5.out)).mono ?_
                  rintro e wz ⟨rfl, hb⟩
                  have HBz := Lib.hid (on HB5.out hb)
                  clear hb
                  go_wp2_with fail
                  go_ret
                  exact ⟨rfl, HBz.out⟩
end Go.Proofs.YtappaokjlnpbnaaDoor
