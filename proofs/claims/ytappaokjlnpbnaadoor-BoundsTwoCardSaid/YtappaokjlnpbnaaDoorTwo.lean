/- BoundsTwo: the walk. -/
import Derived.Test.YtappaokjlnpbnaaDoorSix
import Derived.Test.YtappaokjlnpbnaaDoorNumA
import Derived.Test.YtappaokjlnpbnaaDoorTwoP
namespace Go.Proofs.YtappaokjlnpbnaaDoor
open Go.RowKit Go.Proofs.YtappaokjlnpbnaaDoorW.PrintWords
set_option linter.unusedVariables false
theorem lst_mem {N : Nat} {f : Nat → Nat} {p : Nat → Prop} (h : ∀ i, i < N → p (f i)) : ∀ x ∈ lst N f, p x := by
  intro x hx
  obtain ⟨i, hi, rfl⟩ := List.mem_map.1 hx
  exact h i (List.mem_range.1 hi)
set_option maxRecDepth 100000 in
set_option maxHeartbeats 16000000 in
theorem two_in (A1 : Option Addr) (n1 c1 : Nat) (rows : List Nat) (s : Bool) (ef vr : Int) (A2 : Option Addr) (m c2 : Nat) (L : List Rea.Bd) (A3 : Option Addr) (k c3 : Nat) (vals : List Nat)
    (h1 : n1 = rows.length) (hm1 : n1 ≤ 9223372036854775807) (h2 : m = L.length) (hm2 : m ≤ 9223372036854775807) (h3 : k = vals.length) (hm3 : k ≤ c3) (hc3 : c3 ≤ 9223372036854775807) (w : World) (hR : Nums w A1 rows) (hL : Rea.Bds w A2 L) (hV : Nums w A3 vals) (hT : Tab w) :
    Calls Tryd.prog 8 #[.agg #[.slice A1 n1 c1, .bool s, .int .i64 ef, .int .i64 vr, .slice A2 m c2, .slice A3 k c3]] w fun e w' => e = .returned (.bool true) ∧ Below w.heap.size w w' := by
  have HR := Lib.hid hR
  have HL := Lib.hid hL
  have HV := Lib.hid hV
  have HT := Lib.hid hT
  have H1 := Lib.hid h1
  have H2 := Lib.hid h2
  have H3 := Lib.hid h3
  clear hR hL hV hT h1 h2 h3
  have HZ := Lib.hid (six_cells w (.slice A1 n1 c1) (.bool s) (.int .i64 ef) (.int .i64 vr) (.slice A2 m c2) (.slice A3 k c3) 53)
  have HB0 := Lib.hid (lit_below w (.cells #[.slice A1 n1 c1, .bool s, .int .i64 ef, .int .i64 vr, .slice A2 m c2, .slice A3 k c3] 53))
  obtain ⟨z0, z1, z2, z3, z4, z5⟩ := HZ.out
  have HGR := Lib.hid (fun W => great_any A1 n1 c1 s ef vr A2 m c2 A3 k c3 W)
  have HGK := Lib.hid (show greatB n1 m k = false → m ≤ 300 ∧ k ≤ 200 from fun h => by unfold greatB at h; simp at h; omega)
  have HSO := Lib.hid (fun W (h : Below w.heap.size w W) => sort_any A1 n1 c1 s ef vr A2 m c2 A3 k c3 rows H1.out hm1 W (HR.out.below h) (HT.out.below h))
  generalize greatB n1 m k = gr at HGR HGK
  go_enter Tryd.func8, Tryd.ntmps8
  go_wp2_with fail
  obtain ⟨BZ, hBZ⟩ : ∃ B, B = w.heap.size := ⟨_, rfl⟩
  rw [← hBZ] at HZ ⊢
  clear hBZ z0 z1 z2 z3 z4 z5
  generalize hw1 : w.alloc _ = w1 at *
  clear hw1
  refine (HGR.out _).mono ?_
  rintro e w2 ⟨rfl, hb⟩
  obtain ⟨z0, z1, z2, z3, z4, z5⟩ := six_on HZ.out hb
  replace HZ := Lib.hid (six_on HZ.out hb)
  have HB2 := Lib.hid (on HB0.out hb)
  clear hb HB0 HGR
  cases gr with
  | true =>
    go_wp2_with fail
    refine (alive10_any _ (HT.out.below HB2.out)).mono ?_
    rintro e w3 ⟨rfl, hb⟩
    have HB3 := Lib.hid (on HB2.out hb)
    clear hb
    go_wp2_with fail
    go_ret
    exact ⟨rfl, HB3.out⟩
  | false =>
    have hk200 := (HGK.out rfl).2
    clear HGK
    by_cases hp : k % 2 = 0
    · obtain ⟨h, hkh⟩ : ∃ h, k = 2 * h := ⟨k / 2, by omega⟩
      have d2 : (k : Int).tmod 2 = 0 := by rw [Int.tmod_eq_emod_of_nonneg (by omega)]; omega
      have d3 : (k : Int).tdiv 2 = (h : Int) := by rw [Int.tdiv_eq_ediv_of_nonneg (by omega)]; omega
      have HK := Lib.hid hkh
      have hh : h ≤ 100 := by omega
      clear hp hkh
      go_wp2_with fail
      refine (HSO.out _ HB2.out).mono ?_
      rintro e w3 ⟨⟨v, rfl, hv, hs⟩, hb⟩
      obtain ⟨z0, z1, z2, z3, z4, z5⟩ := six_on HZ.out hb
      replace HZ := Lib.hid (six_on HZ.out hb)
      have HB3 := Lib.hid (on HB2.out hb)
      have HL3 := Lib.hid (HL.out.below HB3.out)
      have HV3 := Lib.hid (HV.out.below HB3.out)
      generalize sortS rows s ef = S at hs
      have HS := Lib.hid hs
      obtain ⟨t, pv, rfl, hsc, hfn⟩ := hs
      clear hb hv hsc hfn HSO HB2
      obtain ⟨t', p', ee, hsc, hfn⟩ := HS.out
      obtain ⟨et, ep⟩ : t' = t ∧ p' = pv := by
        cases ee
        exact ⟨rfl, rfl⟩
      rw [et, ep] at hsc
      clear et ep
      obtain ⟨fh, ih, ch⟩ := hsc.has
      obtain ⟨fj, ij, cj⟩ := hsc.join
      obtain ⟨fm, im, cm⟩ := hsc.meet
      have mhas := ih.meth
      have khas := ih.call
      have ahas := ih.ahead
      have mjo := ij.meth
      have kjo := ij.call
      have ajo := ij.ahead
      have mme := im.meth
      have kme := im.call
      have ame := im.ahead
      have HCH := Lib.hid ch
      have HCJ := Lib.hid cj
      have HCM := Lib.hid cm
      have HJL := Lib.hid hsc.jlt
      have HML := Lib.hid hsc.mlt
      clear ee hsc hfn ih ch ij cj im cm
      obtain ⟨J, hJ⟩ : ∃ J : Nat → Nat, J = fun i => S.join (vals.getD i 0) (vals.getD (h + i) 0) := ⟨_, rfl⟩
      obtain ⟨M, hM⟩ : ∃ M : Nat → Nat, M = fun i => S.meet (vals.getD i 0) (vals.getD (h + i) 0) := ⟨_, rfl⟩
      have HJD := Lib.hid hJ
      have HMD := Lib.hid hM
      clear hJ hM
      go_wp2_with fail
      go_loopw [5, 6, 7] (fun jv mv x wr => ∃ i : Nat, i ≤ h ∧ x = .int .i64 i ∧ Hid (OwnN w3.heap.size wr jv (lst i J)) ∧ Hid (OwnN w3.heap.size wr mv (lst i M)) ∧ Hid (NeRow jv mv) ∧ Hid (∀ j, j < i → S.has (vals.getD j 0) = true ∧ S.has (vals.getD (h + j) 0) = true) ∧ Hid (Below w3.heap.size w3 wr)) (fun _ _ x _ => h - (intOf x).toNat)
      case atStart => exact ⟨0, by omega, rfl, OwnN.nil _ _, OwnN.nil _ _, ne_nil _, fun j hj => absurd hj (Nat.not_lt_zero j), Below.refl _ _⟩
      case round =>
        obtain ⟨i, hi, rfl, HJ, HM, HNE, HAS, HB⟩ := hrel
        obtain ⟨z0, z1, z2, z3, z4, z5⟩ := six_on HZ.out HB.out
        by_cases hih : i < h
        · have hil : i < vals.length := by rw [← H3.out, HK.out]; omega
          have hil2 : h + i < vals.length := by rw [← H3.out, HK.out]; omega
          obtain ⟨bV, oV, eV, _, hc⟩ := (HV3.out.below HB.out).2 (by omega)
          subst eV
          have cx := hc i hil
          have cy := hc (h + i) hil2
          have hx64 := HV3.out.1 _ (List.getElem_mem hil)
          have hy64 := HV3.out.1 _ (List.getElem_mem hil2)
          have HX := Lib.hid (show vals.getD i 0 = vals[i] by simp [List.getD, hil])
          have HY := Lib.hid (show vals.getD (h + i) 0 = vals[h + i] by simp [List.getD, hil2])
          generalize vals[i] = x at cx hx64 HX
          generalize vals[h + i] = y at cy hy64 HY
          have HJI := Lib.hid (show J i = S.join x y by rw [HJD.out]; show S.join (vals.getD i 0) (vals.getD (h + i) 0) = _; rw [HX.out, HY.out])
          have HMI := Lib.hid (show M i = S.meet x y by rw [HMD.out]; show S.meet (vals.getD i 0) (vals.getD (h + i) 0) = _; rw [HX.out, HY.out])
          have HAI := Lib.hid (fun (h1 : S.has x = true) (h2 : S.has y = true) => (show ∀ j, j < i + 1 → S.has (vals.getD j 0) = true ∧ S.has (vals.getD (h + j) 0) = true from fun j hj => by
            by_cases e : j = i
            · rw [e, HX.out, HY.out]
              exact ⟨h1, h2⟩
            · exact HAS.out j (by omega)))
          obtain ⟨hx, hhx⟩ : ∃ hx, hx = S.has x := ⟨_, rfl⟩
          obtain ⟨hy, hhy⟩ : ∃ hy, hy = S.has y := ⟨_, rfl⟩
          have HCX := Lib.hid (fun W (h : Below wr.heap.size wr W) => HCH.out W x (on HB.out h) hx64)
          have HCY := Lib.hid (fun W (h : Below wr.heap.size wr W) => HCH.out W y (on HB.out h) hy64)
          have HCJX := Lib.hid (fun W (h : Below wr.heap.size wr W) => HCJ.out W x y (on HB.out h) hx64 hy64)
          have HCMX := Lib.hid (fun W (h : Below w3.heap.size w3 W) => HCM.out W x y h hx64 hy64)
          have hj64 := HJL.out x y hx64 hy64
          have hm64 := HML.out x y hx64 hy64
          rw [← hhx] at HCX HAI
          rw [← hhy] at HCY HAI
          have HBr := Lib.hid (on HB3.out HB.out)
          have i1 : (0 : Int) ≤ (i : Int) := by omega
          have hk2 := HK.out
          have i2 : (i : Int) < (k : Int) := by omega
          have i3 : (0 : Int) ≤ (h : Int) + (i : Int) := by omega
          have i4 : (h : Int) + (i : Int) < (k : Int) := by omega
          clear hhx hhy hc hil hil2 hk2
          generalize S.join x y = jn at HJI HCJX hj64
          generalize S.meet x y = mn at HMI HCMX hm64
          go_wp2_with fail
          refine (HCX.out _ (Below.refl _ _)).mono ?_
          rintro e w4 ⟨rfl, hb⟩
          have HB4 := Lib.hid hb
          have HBa := Lib.hid (on HBr.out hb)
          obtain ⟨z0, z1, z2, z3, z4, z5⟩ := six_on (six_on HZ.out HB.out) hb
          clear hb
          cases hx with
          | false =>
            go_wp2_with fail
            refine (alive10_any _ (HT.out.below HBa.out)).mono ?_
            rintro e wz ⟨rfl, hb⟩
            have HBz := Lib.hid (on HBa.out hb)
            clear hb
            go_wp2_with fail
            go_ret
            exact ⟨rfl, HBz.out⟩
          | true =>
            go_wp2_with fail
            refine (HCY.out _ HB4.out).mono ?_
            rintro e w5 ⟨rfl, hb⟩
            have HB5 := Lib.hid (on HB4.out hb)
            have HBb := Lib.hid (on HBa.out hb)
            obtain ⟨z0, z1, z2, z3, z4, z5⟩ := six_on (six_on HZ.out HB.out) HB5.out
            clear hb
            cases hy with
            | false =>
              go_wp2_with fail
              refine (alive10_any _ (HT.out.below HBb.out)).mono ?_
              rintro e wz ⟨rfl, hb⟩
              have HBz := Lib.hid (on HBb.out hb)
              clear hb
              go_wp2_with fail
              go_ret
              exact ⟨rfl, HBz.out⟩
            | true =>
              have HAI2 := Lib.hid (HAI.out (by first | rfl | trivial) (by first | rfl | trivial))
              clear HAI HCX HCY HBa HBr HB4
              go_wp2_with fail
              refine (HCJX.out _ HB5.out).mono ?_
              rintro e w6 ⟨rfl, hb⟩
              have HB6 := Lib.hid (on HB5.out hb)
              have HB36 := Lib.hid (on HB.out HB6.out)
              have HJ6 := Lib.hid (HJ.out.below HB6.out)
              have HM6 := Lib.hid (HM.out.below HB6.out)
              clear hb
              have ll := Lib.hid (lst_length i J)
              have lm := Lib.hid (lst_length i M)
              go_wp2_with (at_builtin; refine num_append (w0 := w3) rfl w3.heap.size rfl (.tmp 57) (.tmp 62) rfl u5 (lst i J) jn rfl rfl HJ6.out hj64 HB36.out HB36.out.size (by rw [ll.out]; omega) ?_; intro v1 w7 ho1 hb1 hk1; have HO1 := Lib.hid ho1; have HB7 := Lib.hid hb1; have HK1 := Lib.hid (hk1 u6 (lst i M) HNE.out HM6.out); clear ho1 hb1 hk1)
              refine (HCMX.out _ HB7.out).mono ?_
              rintro e w8 ⟨rfl, hb⟩
              have HB8 := Lib.hid (on HB7.out hb)
              have HJ8 := Lib.hid (HO1.out.below hb)
              have HM8 := Lib.hid (HK1.out.1.below hb)
              have HN8 := Lib.hid (ne_symm HK1.out.2)
              clear hb
              go_wp2_with (at_builtin; refine num_append (w0 := w3) rfl w3.heap.size rfl (.tmp 64) (.tmp 69) rfl u6 (lst i M) mn rfl rfl HM8.out hm64 HB8.out HB8.out.size (by rw [lm.out]; omega) ?_; intro v2 w9 ho1 hb1 hk1; have HO2 := Lib.hid ho1; have HB9 := Lib.hid hb1; have HK2 := Lib.hid (hk1 v1 _ HN8.out HJ8.out); clear ho1 hb1 hk1)
              go_roundw
              case rel => exact ⟨i + 1, by omega, by go_num, by rw [lst_succ, HJI.out]; exact HK2.out.1, by rw [lst_succ, HMI.out]; exact HO2.out, ne_symm HK2.out.2, HAI2.out, HB9.out⟩
              case measure => simp [intOf]; omega
        · obtain rfl : i = h := by omega
          clear hih
          have HBr := Lib.hid (on HB3.out HB.out)
          have HLr := Lib.hid (HL3.out.below HB.out)
          have HVr := Lib.hid (HV3.out.below HB.out)
          have HSr := Lib.hid (HS.out.below HB.out)
          obtain ⟨AJ, cJ, eJ, nJ⟩ := HJ.out.nums
          obtain ⟨AM, cM, eM, nM⟩ := HM.out.nums
          subst eJ eM
          rw [lst_length, lst_length]
          have HNJ := Lib.hid nJ
          have HNM := Lib.hid nM
          have hk2 := HK.out
          have HT1 := Lib.hid (take_lst (N := i) (vals := vals) (by rw [← H3.out]; omega))
          have HT2 := Lib.hid (drop_lst (N := i) (vals := vals) (by rw [← H3.out]; omega))
          have HLAW := Lib.hid (fun (e1 : holdF S (vals.take i) L = true) (e2 : holdF S (vals.drop i) L = true) => (show holdF S (lst i J) L = true ∧ holdF S (lst i M) L = true from by
            rw [← HT1.out] at e1
            rw [← HT2.out] at e2
            rw [HJD.out, HMD.out]
            exact two_join HS.out.fn (fun j hj => (HAS.out j hj).1) (fun j hj => (HAS.out j hj).2) e1 e2))
          have HHJ := Lib.hid (fun W (h : Below wr.heap.size wr W) => hold_any (.iface t pv) S AJ i cJ (lst i J) (lst_length i J).symm (by omega) A2 m c2 L H2.out hm2 W (HSr.out.below h).n (HNJ.out.below h) (HLr.out.below h))
          have HHM := Lib.hid (fun W (h : Below wr.heap.size wr W) => hold_any (.iface t pv) S AM i cM (lst i M) (lst_length i M).symm (by omega) A2 m c2 L H2.out hm2 W (HSr.out.below h).n (HNM.out.below h) (HLr.out.below h))
          have s1 : i ≤ k := by omega
          have s2 : i ≤ c3 := by omega
          have s5 : ¬ k < i := by omega
          have hki : ¬ k = 0 → ¬ c3 = i := by omega
          clear hk2
          clear nJ nM HJ HM HNE HAS HCH HCJ HCM HJL HML
          by_cases hk0 : k = 0
          · obtain rfl : i = 0 := by omega
            obtain rfl := hk0
            have hv0 : vals = [] := List.eq_nil_of_length_eq_zero H3.out.symm
            rw [hv0, List.take_nil, List.drop_nil] at HLAW
            have nn : ∀ (W : World) (A : Option Addr), Nums W A [] := fun W A => ⟨by simp, by simp⟩
            have HNN := Lib.hid nn
            clear hki nn hv0
            have HH1 := Lib.hid (fun (A : Option Addr) (c : Nat) W (h : Below wr.heap.size wr W) => hold_any (.iface t pv) S A 0 c [] rfl (by omega) A2 m c2 L H2.out hm2 W (HSr.out.below h).n (HNN.out W A) (HLr.out.below h))
            have HH2 := HH1
            generalize holdF S [] L = r1 at HH1 HH2 HLAW
            rcases A3 with _ | ad
            · cases r1 with
              | false =>
                go_wp2_with fail
                refine wp_region_held (S := fun W => Below wr.heap.size wr W) (by kernel_rfl) ?_
                generalize hA0 : Act.mk _ _ = a0
                have hF := Fr.nil (n := 107) (a := a0) (by rw [← hA0]; rfl)
                replace hF := Fr.cons hF 4 (.int .i64 0) (by rw [← hA0]; rfl)
                replace hF := Fr.cons hF 3 (.iface t pv) (by rw [← hA0]; rfl)
                replace hF := Fr.cons hF 1 (.pointer (some ⟨BZ, 0, none⟩)) (by rw [← hA0]; rfl)
                have hS : Below wr.heap.size wr (World.drew _) := (Below.refl _ wr).drew
                change wpAnyH _ _ _ _ _ _ _ _ (World.drew _)
                refine tk (i := 0) (d := 71) (v := .iface t pv) hF rfl rfl (by kernel_rfl) (by kernel_rfl) (by kernel_rfl) (fun _ _ _ h => h) (yi_go rfl (fun W hW => ex_move W rfl (fr_at hF 1 rfl))) hS rfl (by decide) (fun a1 hA1 hF' => ?_)
                replace hF := hF'; clear hF'
                refine tk (i := 1) (d := 72) (v := .pointer (some ⟨BZ, 5, none⟩)) hF rfl rfl (by kernel_rfl) (by kernel_rfl) (by kernel_rfl) (fun _ _ _ h => h) (yi_go rfl (fun W hW => by have f1 := fr_at hF 1 rfl; go_simp)) hS rfl (by decide) (fun a2 hA2 hF' => ?_)
                replace hF := hF'; clear hF'
                refine tk (i := 2) (d := 73) (v := .slice none 0 c3) hF rfl rfl (by kernel_rfl) (by kernel_rfl) (by kernel_rfl) (fun _ _ _ h => h) (yi_go rfl (fun W hW => by replace z5 := (hW.cell (p := ⟨BZ, 5, none⟩) (World.block_lt_of_cell? _ _ z5)).trans z5; have f72 := fr_at hF 0 rfl; go_simp)) hS rfl (by decide) (fun a3 hA3 hF' => ?_)
                replace hF := hF'; clear hF'
                refine tk (i := 3) (d := 74) (v := .int .i64 0) hF rfl rfl (by kernel_rfl) (by kernel_rfl) (by kernel_rfl) (fun _ _ _ h => h) (yi_go rfl (fun W hW => ex_move W rfl (fr_at hF 5 rfl))) hS rfl (by decide) (fun a4 hA4 hF' => ?_)
                replace hF := hF'; clear hF'
                refine tk (i := 4) (d := 75) (v := .slice none 0 c3) hF rfl rfl (by kernel_rfl) (by kernel_rfl) (by kernel_rfl) (fun _ _ _ h => h) (yi_go rfl (fun W hW => by have f73 := fr_at hF 1 rfl; have f74 := fr_at hF 0 rfl; go_simp)) hS rfl (by decide) (fun a5 hA5 hF' => ?_)
                replace hF := hF'; clear hF'
                refine tk (i := 5) (d := 76) (v := .pointer (some ⟨BZ, 4, none⟩)) hF rfl rfl (by kernel_rfl) (by kernel_rfl) (by kernel_rfl) (fun _ _ _ h => h) (yi_go rfl (fun W hW => by have f1 := fr_at hF 5 rfl; go_simp)) hS rfl (by decide) (fun a6 hA6 hF' => ?_)
                replace hF := hF'; clear hF'
                refine tk (i := 6) (d := 77) (v := .slice A2 m c2) hF rfl rfl (by kernel_rfl) (by kernel_rfl) (by kernel_rfl) (fun _ _ _ h => h) (yi_go rfl (fun W hW => by replace z4 := (hW.cell (p := ⟨BZ, 4, none⟩) (World.block_lt_of_cell? _ _ z4)).trans z4; have f76 := fr_at hF 0 rfl; go_simp)) hS rfl (by decide) (fun a7 hA7 hF' => ?_)
                replace hF := hF'; clear hF'
                refine wpAnyH_ready (rs := [7]) (by kernel_rfl) (by simp) ?_
                refine AllReadyH.cons rfl (fun K hK => ?_) AllReadyH.nil
                have f71 := fr_at hF 6 rfl
                have f75 := fr_at hF 2 rfl
                have f77 := fr_at hF 0 rfl
                go_simp
                clear f71 f75 f77
                go_at_call 36
                refine (HH1.out none c3 _ hS).mono ?_
                rintro e wa ⟨rfl, hb⟩
                go_wp2_with fail
                refine hK.out _ _ (on hS hb) (fun _ => ?_)
                replace hS := on hS hb
                clear hK K
                change wpAnyH _ _ _ _ _ _ _ (a7.put (some 78) (.bool false)) _
                have hF' := fr_put hF 78 (.bool false) rfl (by decide)
                generalize hA8 : Act.put a7 (some 78) (.bool false) = a8 at hF' ⊢
                replace hF := hF'; clear hF'
                refine tk (i := 8) (d := 79) (v := .bool true) hF rfl rfl (by kernel_rfl) (by kernel_rfl) (by kernel_rfl) (fun _ _ _ h => h) (yi_go rfl (fun W hW => by have f78 := fr_at hF 0 rfl; go_simp)) hS rfl (by decide) (fun a9 hA9 hF' => ?_)
                replace hF := hF'; clear hF'
                refine tk (i := 9) (d := 80) (v := .bool true) hF rfl rfl (by kernel_rfl) (by kernel_rfl) (by kernel_rfl) (fun _ _ _ h => h) (yi_go rfl (fun W hW => ex_move W rfl (fr_at hF 0 rfl))) hS rfl (by decide) (fun a10 hA10 hF' => ?_)
                replace hF := hF'; clear hF'
                refine tk (i := 10) (d := 81) (v := undef) hF rfl rfl (by kernel_rfl) (by kernel_rfl) (by kernel_rfl) (fun _ _ _ h => h) (yi_skip rfl rfl (fr_at hF 0 rfl)) hS rfl (by decide) (fun a11 hA11 hF' => ?_)
                replace hF := hF'; clear hF'
                refine tk (i := 11) (d := 82) (v := undef) hF rfl rfl (by kernel_rfl) (by kernel_rfl) (by kernel_rfl) (fun _ _ _ h => h) (yi_skip rfl rfl (fr_at hF 1 rfl)) hS rfl (by decide) (fun a12 hA12 hF' => ?_)
                replace hF := hF'; clear hF'
                refine tk (i := 12) (d := 83) (v := undef) hF rfl rfl (by kernel_rfl) (by kernel_rfl) (by kernel_rfl) (fun _ _ _ h => h) (yi_skip rfl rfl (fr_at hF 2 rfl)) hS rfl (by decide) (fun a13 hA13 hF' => ?_)
                replace hF := hF'; clear hF'
                refine tk (i := 13) (d := 84) (v := undef) hF rfl rfl (by kernel_rfl) (by kernel_rfl) (by kernel_rfl) (fun _ _ _ h => h) (yi_skip rfl rfl (fr_at hF 3 rfl)) hS rfl (by decide) (fun a14 hA14 hF' => ?_)
                replace hF := hF'; clear hF'
                refine tk (i := 14) (d := 85) (v := undef) hF rfl rfl (by kernel_rfl) (by kernel_rfl) (by kernel_rfl) (fun _ _ _ h => h) (yi_skip rfl rfl (fr_at hF 4 rfl)) hS rfl (by decide) (fun a15 hA15 hF' => ?_)
                replace hF := hF'; clear hF'
                refine tk (i := 15) (d := 86) (v := undef) hF rfl rfl (by kernel_rfl) (by kernel_rfl) (by kernel_rfl) (fun _ _ _ h => h) (yi_skip rfl rfl (fr_at hF 5 rfl)) hS rfl (by decide) (fun a16 hA16 hF' => ?_)
                replace hF := hF'; clear hF'
                refine tk (i := 16) (d := 87) (v := undef) hF rfl rfl (by kernel_rfl) (by kernel_rfl) (by kernel_rfl) (fun _ _ _ h => h) (yi_skip rfl rfl (fr_at hF 6 rfl)) hS rfl (by decide) (fun a17 hA17 hF' => ?_)
                replace hF := hF'; clear hF'
                refine tk (i := 17) (d := 88) (v := undef) hF rfl rfl (by kernel_rfl) (by kernel_rfl) (by kernel_rfl) (fun _ _ _ h => h) (yi_skip rfl rfl (fr_at hF 7 rfl)) hS rfl (by decide) (fun a18 hA18 hF' => ?_)
                replace hF := hF'; clear hF'
                refine tk (i := 18) (d := 89) (v := undef) hF rfl rfl (by kernel_rfl) (by kernel_rfl) (by kernel_rfl) (fun _ _ _ h => h) (yi_skip rfl rfl (fr_at hF 8 rfl)) hS rfl (by decide) (fun a19 hA19 hF' => ?_)
                replace hF := hF'; clear hF'
                refine tk (i := 19) (d := 90) (v := .bool true) hF rfl rfl (by kernel_rfl) (by kernel_rfl) (by kernel_rfl) (fun _ _ _ h => h) (yi_go rfl (fun W hW => by have f80 := fr_at hF 9 rfl; have f89 := fr_at hF 0 rfl; go_simp)) hS rfl (by decide) (fun a20 hA20 hF' => ?_)
                replace hF := hF'; clear hF'
                refine wpAnyH_done (by kernel_rfl) ?_ _
                rw [← hA20, ← hA19, ← hA18, ← hA17, ← hA16, ← hA15, ← hA14, ← hA13, ← hA12, ← hA11, ← hA10, ← hA9, ← hA8, ← hA7, ← hA6, ← hA5, ← hA4, ← hA3, ← hA2, ← hA1, ← hA0]
                simp only [Act.put, List.setIfInBounds_toArray, List.set_cons_zero, List.set_cons_succ]
                clear hF
                have HBx := Lib.hid (on HBr.out hS)
                clear hS
                go_wp2_with fail
                refine (alive10_any _ (HT.out.below HBx.out)).mono ?_
                rintro e wz ⟨rfl, hb⟩
                have HBz := Lib.hid (on HBx.out hb)
                clear hb
                go_wp2_with fail
                go_ret
                exact ⟨rfl, HBz.out⟩
              | true =>
                have HLW := Lib.hid (HLAW.out rfl rfl)
                rw [HLW.out.1] at HHJ
                rw [HLW.out.2] at HHM
                go_wp2_with fail
                refine wp_region_held (S := fun W => Below wr.heap.size wr W) (by kernel_rfl) ?_
                generalize hA0 : Act.mk _ _ = a0
                have hF := Fr.nil (n := 107) (a := a0) (by rw [← hA0]; rfl)
                replace hF := Fr.cons hF 4 (.int .i64 0) (by rw [← hA0]; rfl)
                replace hF := Fr.cons hF 3 (.iface t pv) (by rw [← hA0]; rfl)
                replace hF := Fr.cons hF 1 (.pointer (some ⟨BZ, 0, none⟩)) (by rw [← hA0]; rfl)
                have hS : Below wr.heap.size wr (World.drew _) := (Below.refl _ wr).drew
                change wpAnyH _ _ _ _ _ _ _ _ (World.drew _)
                refine tk (i := 0) (d := 71) (v := .iface t pv) hF rfl rfl (by kernel_rfl) (by kernel_rfl) (by kernel_rfl) (fun _ _ _ h => h) (yi_go rfl (fun W hW => ex_move W rfl (fr_at hF 1 rfl))) hS rfl (by decide) (fun a1 hA1 hF' => ?_)
                replace hF := hF'; clear hF'
                refine tk (i := 1) (d := 72) (v := .pointer (some ⟨BZ, 5, none⟩)) hF rfl rfl (by kernel_rfl) (by kernel_rfl) (by kernel_rfl) (fun _ _ _ h => h) (yi_go rfl (fun W hW => by have f1 := fr_at hF 1 rfl; go_simp)) hS rfl (by decide) (fun a2 hA2 hF' => ?_)
                replace hF := hF'; clear hF'
                refine tk (i := 2) (d := 73) (v := .slice none 0 c3) hF rfl rfl (by kernel_rfl) (by kernel_rfl) (by kernel_rfl) (fun _ _ _ h => h) (yi_go rfl (fun W hW => by replace z5 := (hW.cell (p := ⟨BZ, 5, none⟩) (World.block_lt_of_cell? _ _ z5)).trans z5; have f72 := fr_at hF 0 rfl; go_simp)) hS rfl (by decide) (fun a3 hA3 hF' => ?_)
                replace hF := hF'; clear hF'
                refine tk (i := 3) (d := 74) (v := .int .i64 0) hF rfl rfl (by kernel_rfl) (by kernel_rfl) (by kernel_rfl) (fun _ _ _ h => h) (yi_go rfl (fun W hW => ex_move W rfl (fr_at hF 5 rfl))) hS rfl (by decide) (fun a4 hA4 hF' => ?_)
                replace hF := hF'; clear hF'
                refine tk (i := 4) (d := 75) (v := .slice none 0 c3) hF rfl rfl (by kernel_rfl) (by kernel_rfl) (by kernel_rfl) (fun _ _ _ h => h) (yi_go rfl (fun W hW => by have f73 := fr_at hF 1 rfl; have f74 := fr_at hF 0 rfl; go_simp)) hS rfl (by decide) (fun a5 hA5 hF' => ?_)
                replace hF := hF'; clear hF'
                refine tk (i := 5) (d := 76) (v := .pointer (some ⟨BZ, 4, none⟩)) hF rfl rfl (by kernel_rfl) (by kernel_rfl) (by kernel_rfl) (fun _ _ _ h => h) (yi_go rfl (fun W hW => by have f1 := fr_at hF 5 rfl; go_simp)) hS rfl (by decide) (fun a6 hA6 hF' => ?_)
                replace hF := hF'; clear hF'
                refine tk (i := 6) (d := 77) (v := .slice A2 m c2) hF rfl rfl (by kernel_rfl) (by kernel_rfl) (by kernel_rfl) (fun _ _ _ h => h) (yi_go rfl (fun W hW => by replace z4 := (hW.cell (p := ⟨BZ, 4, none⟩) (World.block_lt_of_cell? _ _ z4)).trans z4; have f76 := fr_at hF 0 rfl; go_simp)) hS rfl (by decide) (fun a7 hA7 hF' => ?_)
                replace hF := hF'; clear hF'
                refine wpAnyH_ready (rs := [7]) (by kernel_rfl) (by simp) ?_
                refine AllReadyH.cons rfl (fun K hK => ?_) AllReadyH.nil
                have f71 := fr_at hF 6 rfl
                have f75 := fr_at hF 2 rfl
                have f77 := fr_at hF 0 rfl
                go_simp
                clear f71 f75 f77
                go_at_call 36
                refine (HH1.out none c3 _ hS).mono ?_
                rintro e wa ⟨rfl, hb⟩
                go_wp2_with fail
                refine hK.out _ _ (on hS hb) (fun _ => ?_)
                replace hS := on hS hb
                clear hK K
                change wpAnyH _ _ _ _ _ _ _ (a7.put (some 78) (.bool true)) _
                have hF' := fr_put hF 78 (.bool true) rfl (by decide)
                generalize hA8 : Act.put a7 (some 78) (.bool true) = a8 at hF' ⊢
                replace hF := hF'; clear hF'
                refine tk (i := 8) (d := 79) (v := .bool false) hF rfl rfl (by kernel_rfl) (by kernel_rfl) (by kernel_rfl) (fun _ _ _ h => h) (yi_go rfl (fun W hW => by have f78 := fr_at hF 0 rfl; go_simp)) hS rfl (by decide) (fun a9 hA9 hF' => ?_)
                replace hF := hF'; clear hF'
                refine tk (i := 9) (d := 80) (v := .bool false) hF rfl rfl (by kernel_rfl) (by kernel_rfl) (by kernel_rfl) (fun _ _ _ h => h) (yi_go rfl (fun W hW => ex_move W rfl (fr_at hF 0 rfl))) hS rfl (by decide) (fun a10 hA10 hF' => ?_)
                replace hF := hF'; clear hF'
                refine tk (i := 10) (d := 81) (v := .iface t pv) hF rfl rfl (by kernel_rfl) (by kernel_rfl) (by kernel_rfl) (fun _ _ _ h => h) (yi_want rfl rfl (fr_at hF 0 rfl) (fun W hW => ex_move W rfl (fr_at hF 11 rfl))) hS rfl (by decide) (fun a11 hA11 hF' => ?_)
                replace hF := hF'; clear hF'
                refine tk (i := 11) (d := 82) (v := .pointer (some ⟨BZ, 5, none⟩)) hF rfl rfl (by kernel_rfl) (by kernel_rfl) (by kernel_rfl) (fun _ _ _ h => h) (yi_want rfl rfl (fr_at hF 1 rfl) (fun W hW => by have f1 := fr_at hF 11 rfl; go_simp)) hS rfl (by decide) (fun a12 hA12 hF' => ?_)
                replace hF := hF'; clear hF'
                refine tk (i := 12) (d := 83) (v := .slice none 0 c3) hF rfl rfl (by kernel_rfl) (by kernel_rfl) (by kernel_rfl) (fun _ _ _ h => h) (yi_want rfl rfl (fr_at hF 2 rfl) (fun W hW => by replace z5 := (hW.cell (p := ⟨BZ, 5, none⟩) (World.block_lt_of_cell? _ _ z5)).trans z5; have f82 := fr_at hF 0 rfl; go_simp)) hS rfl (by decide) (fun a13 hA13 hF' => ?_)
                replace hF := hF'; clear hF'
                refine tk (i := 13) (d := 84) (v := .int .i64 0) hF rfl rfl (by kernel_rfl) (by kernel_rfl) (by kernel_rfl) (fun _ _ _ h => h) (yi_want rfl rfl (fr_at hF 3 rfl) (fun W hW => ex_move W rfl (fr_at hF 15 rfl))) hS rfl (by decide) (fun a14 hA14 hF' => ?_)
                replace hF := hF'; clear hF'
                refine tk (i := 14) (d := 85) (v := .slice none 0 c3) hF rfl rfl (by kernel_rfl) (by kernel_rfl) (by kernel_rfl) (fun _ _ _ h => h) (yi_want rfl rfl (fr_at hF 4 rfl) (fun W hW => by have f83 := fr_at hF 1 rfl; have f84 := fr_at hF 0 rfl; go_simp)) hS rfl (by decide) (fun a15 hA15 hF' => ?_)
                replace hF := hF'; clear hF'
                refine tk (i := 15) (d := 86) (v := .pointer (some ⟨BZ, 4, none⟩)) hF rfl rfl (by kernel_rfl) (by kernel_rfl) (by kernel_rfl) (fun _ _ _ h => h) (yi_want rfl rfl (fr_at hF 5 rfl) (fun W hW => by have f1 := fr_at hF 15 rfl; go_simp)) hS rfl (by decide) (fun a16 hA16 hF' => ?_)
                replace hF := hF'; clear hF'
                refine tk (i := 16) (d := 87) (v := .slice A2 m c2) hF rfl rfl (by kernel_rfl) (by kernel_rfl) (by kernel_rfl) (fun _ _ _ h => h) (yi_want rfl rfl (fr_at hF 6 rfl) (fun W hW => by replace z4 := (hW.cell (p := ⟨BZ, 4, none⟩) (World.block_lt_of_cell? _ _ z4)).trans z4; have f86 := fr_at hF 0 rfl; go_simp)) hS rfl (by decide) (fun a17 hA17 hF' => ?_)
                replace hF := hF'; clear hF'
                refine wpAnyH_ready (rs := [17]) (by kernel_rfl) (by simp) ?_
                refine AllReadyH.cons rfl (fun K hK => ?_) AllReadyH.nil
                rw [if_pos (by rw [guard_at rfl rfl (fr_at hF 7 rfl)]; rfl)]
                have f81 := fr_at hF 6 rfl
                have f85 := fr_at hF 2 rfl
                have f87 := fr_at hF 0 rfl
                go_simp
                clear f81 f85 f87
                go_at_call 36
                refine (HH1.out none c3 _ hS).mono ?_
                rintro e wb ⟨rfl, hb⟩
                go_wp2_with fail
                refine hK.out _ _ (on hS hb) (fun _ => ?_)
                replace hS := on hS hb
                clear hK K
                change wpAnyH _ _ _ _ _ _ _ (a17.put (some 88) (.bool true)) _
                have hF' := fr_put hF 88 (.bool true) rfl (by decide)
                generalize hA18 : Act.put a17 (some 88) (.bool true) = a18 at hF' ⊢
                replace hF := hF'; clear hF'
                refine tk (i := 18) (d := 89) (v := .bool false) hF rfl rfl (by kernel_rfl) (by kernel_rfl) (by kernel_rfl) (fun _ _ _ h => h) (yi_want rfl rfl (fr_at hF 8 rfl) (fun W hW => by have f88 := fr_at hF 0 rfl; go_simp)) hS rfl (by decide) (fun a19 hA19 hF' => ?_)
                replace hF := hF'; clear hF'
                refine tk (i := 19) (d := 90) (v := .bool false) hF rfl rfl (by kernel_rfl) (by kernel_rfl) (by kernel_rfl) (fun _ _ _ h => h) (yi_go rfl (fun W hW => by have f80 := fr_at hF 9 rfl; have f89 := fr_at hF 0 rfl; go_simp)) hS rfl (by decide) (fun a20 hA20 hF' => ?_)
                replace hF := hF'; clear hF'
                refine wpAnyH_done (by kernel_rfl) ?_ _
                rw [← hA20, ← hA19, ← hA18, ← hA17, ← hA16, ← hA15, ← hA14, ← hA13, ← hA12, ← hA11, ← hA10, ← hA9, ← hA8, ← hA7, ← hA6, ← hA5, ← hA4, ← hA3, ← hA2, ← hA1, ← hA0]
                simp only [Act.put, List.setIfInBounds_toArray, List.set_cons_zero, List.set_cons_succ]
                clear hF
                have HSx := Lib.hid hS
                have HBx := Lib.hid (on HBr.out hS)
                clear hS
                go_wp2_with fail
                refine (alive10_any _ (HT.out.below HBx.out)).mono ?_
                rintro e w10 ⟨rfl, hb⟩
                have HS10 := Lib.hid (on HSx.out hb)
                obtain ⟨z0, z1, z2, z3, z4, z5⟩ := six_on (six_on HZ.out HB.out) HS10.out
                clear hb
                go_wp2_with fail
                refine (HHJ.out _ HS10.out).mono ?_
                rintro e w11 ⟨rfl, hb⟩
                have HS11 := Lib.hid (on HS10.out hb)
                obtain ⟨z0, z1, z2, z3, z4, z5⟩ := six_on (six_on HZ.out HB.out) HS11.out
                clear hb
                go_wp2_with fail
                refine (HHM.out _ HS11.out).mono ?_
                rintro e w12 ⟨rfl, hb⟩
                have HS12 := Lib.hid (on HBr.out (on HS11.out hb))
                clear hb
                go_wp2_with fail
                go_ret
                exact ⟨rfl, HS12.out⟩
            · cases r1 with
              | false =>
                go_wp2_with fail
                refine wp_region_held (S := fun W => Below wr.heap.size wr W) (by kernel_rfl) ?_
                generalize hA0 : Act.mk _ _ = a0
                have hF := Fr.nil (n := 107) (a := a0) (by rw [← hA0]; rfl)
                replace hF := Fr.cons hF 4 (.int .i64 0) (by rw [← hA0]; rfl)
                replace hF := Fr.cons hF 3 (.iface t pv) (by rw [← hA0]; rfl)
                replace hF := Fr.cons hF 1 (.pointer (some ⟨BZ, 0, none⟩)) (by rw [← hA0]; rfl)
                have hS : Below wr.heap.size wr (World.drew _) := (Below.refl _ wr).drew
                change wpAnyH _ _ _ _ _ _ _ _ (World.drew _)
                refine tk (i := 0) (d := 71) (v := .iface t pv) hF rfl rfl (by kernel_rfl) (by kernel_rfl) (by kernel_rfl) (fun _ _ _ h => h) (yi_go rfl (fun W hW => ex_move W rfl (fr_at hF 1 rfl))) hS rfl (by decide) (fun a1 hA1 hF' => ?_)
                replace hF := hF'; clear hF'
                refine tk (i := 1) (d := 72) (v := .pointer (some ⟨BZ, 5, none⟩)) hF rfl rfl (by kernel_rfl) (by kernel_rfl) (by kernel_rfl) (fun _ _ _ h => h) (yi_go rfl (fun W hW => by have f1 := fr_at hF 1 rfl; go_simp)) hS rfl (by decide) (fun a2 hA2 hF' => ?_)
                replace hF := hF'; clear hF'
                refine tk (i := 2) (d := 73) (v := .slice (some ad) 0 c3) hF rfl rfl (by kernel_rfl) (by kernel_rfl) (by kernel_rfl) (fun _ _ _ h => h) (yi_go rfl (fun W hW => by replace z5 := (hW.cell (p := ⟨BZ, 5, none⟩) (World.block_lt_of_cell? _ _ z5)).trans z5; have f72 := fr_at hF 0 rfl; go_simp)) hS rfl (by decide) (fun a3 hA3 hF' => ?_)
                replace hF := hF'; clear hF'
                refine tk (i := 3) (d := 74) (v := .int .i64 0) hF rfl rfl (by kernel_rfl) (by kernel_rfl) (by kernel_rfl) (fun _ _ _ h => h) (yi_go rfl (fun W hW => ex_move W rfl (fr_at hF 5 rfl))) hS rfl (by decide) (fun a4 hA4 hF' => ?_)
                replace hF := hF'; clear hF'
                refine tk (i := 4) (d := 75) (v := .slice (some ad) 0 c3) hF rfl rfl (by kernel_rfl) (by kernel_rfl) (by kernel_rfl) (fun _ _ _ h => h) (yi_go rfl (fun W hW => by have f73 := fr_at hF 1 rfl; have f74 := fr_at hF 0 rfl; go_simp)) hS rfl (by decide) (fun a5 hA5 hF' => ?_)
                replace hF := hF'; clear hF'
                refine tk (i := 5) (d := 76) (v := .pointer (some ⟨BZ, 4, none⟩)) hF rfl rfl (by kernel_rfl) (by kernel_rfl) (by kernel_rfl) (fun _ _ _ h => h) (yi_go rfl (fun W hW => by have f1 := fr_at hF 5 rfl; go_simp)) hS rfl (by decide) (fun a6 hA6 hF' => ?_)
                replace hF := hF'; clear hF'
                refine tk (i := 6) (d := 77) (v := .slice A2 m c2) hF rfl rfl (by kernel_rfl) (by kernel_rfl) (by kernel_rfl) (fun _ _ _ h => h) (yi_go rfl (fun W hW => by replace z4 := (hW.cell (p := ⟨BZ, 4, none⟩) (World.block_lt_of_cell? _ _ z4)).trans z4; have f76 := fr_at hF 0 rfl; go_simp)) hS rfl (by decide) (fun a7 hA7 hF' => ?_)
                replace hF := hF'; clear hF'
                refine wpAnyH_ready (rs := [7]) (by kernel_rfl) (by simp) ?_
                refine AllReadyH.cons rfl (fun K hK => ?_) AllReadyH.nil
                have f71 := fr_at hF 6 rfl
                have f75 := fr_at hF 2 rfl
                have f77 := fr_at hF 0 rfl
                go_simp
                clear f71 f75 f77
                go_at_call 36
                refine (HH1.out (some ad) c3 _ hS).mono ?_
                rintro e wa ⟨rfl, hb⟩
                go_wp2_with fail
                refine hK.out _ _ (on hS hb) (fun _ => ?_)
                replace hS := on hS hb
                clear hK K
                change wpAnyH _ _ _ _ _ _ _ (a7.put (some 78) (.bool false)) _
                have hF' := fr_put hF 78 (.bool false) rfl (by decide)
                generalize hA8 : Act.put a7 (some 78) (.bool false) = a8 at hF' ⊢
                replace hF := hF'; clear hF'
                refine tk (i := 8) (d := 79) (v := .bool true) hF rfl rfl (by kernel_rfl) (by kernel_rfl) (by kernel_rfl) (fun _ _ _ h => h) (yi_go rfl (fun W hW => by have f78 := fr_at hF 0 rfl; go_simp)) hS rfl (by decide) (fun a9 hA9 hF' => ?_)
                replace hF := hF'; clear hF'
                refine tk (i := 9) (d := 80) (v := .bool true) hF rfl rfl (by kernel_rfl) (by kernel_rfl) (by kernel_rfl) (fun _ _ _ h => h) (yi_go rfl (fun W hW => ex_move W rfl (fr_at hF 0 rfl))) hS rfl (by decide) (fun a10 hA10 hF' => ?_)
                replace hF := hF'; clear hF'
                refine tk (i := 10) (d := 81) (v := undef) hF rfl rfl (by kernel_rfl) (by kernel_rfl) (by kernel_rfl) (fun _ _ _ h => h) (yi_skip rfl rfl (fr_at hF 0 rfl)) hS rfl (by decide) (fun a11 hA11 hF' => ?_)
                replace hF := hF'; clear hF'
                refine tk (i := 11) (d := 82) (v := undef) hF rfl rfl (by kernel_rfl) (by kernel_rfl) (by kernel_rfl) (fun _ _ _ h => h) (yi_skip rfl rfl (fr_at hF 1 rfl)) hS rfl (by decide) (fun a12 hA12 hF' => ?_)
                replace hF := hF'; clear hF'
                refine tk (i := 12) (d := 83) (v := undef) hF rfl rfl (by kernel_rfl) (by kernel_rfl) (by kernel_rfl) (fun _ _ _ h => h) (yi_skip rfl rfl (fr_at hF 2 rfl)) hS rfl (by decide) (fun a13 hA13 hF' => ?_)
                replace hF := hF'; clear hF'
                refine tk (i := 13) (d := 84) (v := undef) hF rfl rfl (by kernel_rfl) (by kernel_rfl) (by kernel_rfl) (fun _ _ _ h => h) (yi_skip rfl rfl (fr_at hF 3 rfl)) hS rfl (by decide) (fun a14 hA14 hF' => ?_)
                replace hF := hF'; clear hF'
                refine tk (i := 14) (d := 85) (v := undef) hF rfl rfl (by kernel_rfl) (by kernel_rfl) (by kernel_rfl) (fun _ _ _ h => h) (yi_skip rfl rfl (fr_at hF 4 rfl)) hS rfl (by decide) (fun a15 hA15 hF' => ?_)
                replace hF := hF'; clear hF'
                refine tk (i := 15) (d := 86) (v := undef) hF rfl rfl (by kernel_rfl) (by kernel_rfl) (by kernel_rfl) (fun _ _ _ h => h) (yi_skip rfl rfl (fr_at hF 5 rfl)) hS rfl (by decide) (fun a16 hA16 hF' => ?_)
                replace hF := hF'; clear hF'
                refine tk (i := 16) (d := 87) (v := undef) hF rfl rfl (by kernel_rfl) (by kernel_rfl) (by kernel_rfl) (fun _ _ _ h => h) (yi_skip rfl rfl (fr_at hF 6 rfl)) hS rfl (by decide) (fun a17 hA17 hF' => ?_)
                replace hF := hF'; clear hF'
                refine tk (i := 17) (d := 88) (v := undef) hF rfl rfl (by kernel_rfl) (by kernel_rfl) (by kernel_rfl) (fun _ _ _ h => h) (yi_skip rfl rfl (fr_at hF 7 rfl)) hS rfl (by decide) (fun a18 hA18 hF' => ?_)
                replace hF := hF'; clear hF'
                refine tk (i := 18) (d := 89) (v := undef) hF rfl rfl (by kernel_rfl) (by kernel_rfl) (by kernel_rfl) (fun _ _ _ h => h) (yi_skip rfl rfl (fr_at hF 8 rfl)) hS rfl (by decide) (fun a19 hA19 hF' => ?_)
                replace hF := hF'; clear hF'
                refine tk (i := 19) (d := 90) (v := .bool true) hF rfl rfl (by kernel_rfl) (by kernel_rfl) (by kernel_rfl) (fun _ _ _ h => h) (yi_go rfl (fun W hW => by have f80 := fr_at hF 9 rfl; have f89 := fr_at hF 0 rfl; go_simp)) hS rfl (by decide) (fun a20 hA20 hF' => ?_)
                replace hF := hF'; clear hF'
                refine wpAnyH_done (by kernel_rfl) ?_ _
                rw [← hA20, ← hA19, ← hA18, ← hA17, ← hA16, ← hA15, ← hA14, ← hA13, ← hA12, ← hA11, ← hA10, ← hA9, ← hA8, ← hA7, ← hA6, ← hA5, ← hA4, ← hA3, ← hA2, ← hA1, ← hA0]
                simp only [Act.put, List.setIfInBounds_toArray, List.set_cons_zero, List.set_cons_succ]
                clear hF
                have HBx := Lib.hid (on HBr.out hS)
                clear hS
                go_wp2_with fail
                refine (alive10_any _ (HT.out.below HBx.out)).mono ?_
                rintro e wz ⟨rfl, hb⟩
                have HBz := Lib.hid (on HBx.out hb)
                clear hb
                go_wp2_with fail
                go_ret
                exact ⟨rfl, HBz.out⟩
              | true =>
                have HLW := Lib.hid (HLAW.out rfl rfl)
                rw [HLW.out.1] at HHJ
                rw [HLW.out.2] at HHM
                go_wp2_with fail
                refine wp_region_held (S := fun W => Below wr.heap.size wr W) (by kernel_rfl) ?_
                generalize hA0 : Act.mk _ _ = a0
                have hF := Fr.nil (n := 107) (a := a0) (by rw [← hA0]; rfl)
                replace hF := Fr.cons hF 4 (.int .i64 0) (by rw [← hA0]; rfl)
                replace hF := Fr.cons hF 3 (.iface t pv) (by rw [← hA0]; rfl)
                replace hF := Fr.cons hF 1 (.pointer (some ⟨BZ, 0, none⟩)) (by rw [← hA0]; rfl)
                have hS : Below wr.heap.size wr (World.drew _) := (Below.refl _ wr).drew
                change wpAnyH _ _ _ _ _ _ _ _ (World.drew _)
                refine tk (i := 0) (d := 71) (v := .iface t pv) hF rfl rfl (by kernel_rfl) (by kernel_rfl) (by kernel_rfl) (fun _ _ _ h => h) (yi_go rfl (fun W hW => ex_move W rfl (fr_at hF 1 rfl))) hS rfl (by decide) (fun a1 hA1 hF' => ?_)
                replace hF := hF'; clear hF'
                refine tk (i := 1) (d := 72) (v := .pointer (some ⟨BZ, 5, none⟩)) hF rfl rfl (by kernel_rfl) (by kernel_rfl) (by kernel_rfl) (fun _ _ _ h => h) (yi_go rfl (fun W hW => by have f1 := fr_at hF 1 rfl; go_simp)) hS rfl (by decide) (fun a2 hA2 hF' => ?_)
                replace hF := hF'; clear hF'
                refine tk (i := 2) (d := 73) (v := .slice (some ad) 0 c3) hF rfl rfl (by kernel_rfl) (by kernel_rfl) (by kernel_rfl) (fun _ _ _ h => h) (yi_go rfl (fun W hW => by replace z5 := (hW.cell (p := ⟨BZ, 5, none⟩) (World.block_lt_of_cell? _ _ z5)).trans z5; have f72 := fr_at hF 0 rfl; go_simp)) hS rfl (by decide) (fun a3 hA3 hF' => ?_)
                replace hF := hF'; clear hF'
                refine tk (i := 3) (d := 74) (v := .int .i64 0) hF rfl rfl (by kernel_rfl) (by kernel_rfl) (by kernel_rfl) (fun _ _ _ h => h) (yi_go rfl (fun W hW => ex_move W rfl (fr_at hF 5 rfl))) hS rfl (by decide) (fun a4 hA4 hF' => ?_)
                replace hF := hF'; clear hF'
                refine tk (i := 4) (d := 75) (v := .slice (some ad) 0 c3) hF rfl rfl (by kernel_rfl) (by kernel_rfl) (by kernel_rfl) (fun _ _ _ h => h) (yi_go rfl (fun W hW => by have f73 := fr_at hF 1 rfl; have f74 := fr_at hF 0 rfl; go_simp)) hS rfl (by decide) (fun a5 hA5 hF' => ?_)
                replace hF := hF'; clear hF'
                refine tk (i := 5) (d := 76) (v := .pointer (some ⟨BZ, 4, none⟩)) hF rfl rfl (by kernel_rfl) (by kernel_rfl) (by kernel_rfl) (fun _ _ _ h => h) (yi_go rfl (fun W hW => by have f1 := fr_at hF 5 rfl; go_simp)) hS rfl (by decide) (fun a6 hA6 hF' => ?_)
                replace hF := hF'; clear hF'
                refine tk (i := 6) (d := 77) (v := .slice A2 m c2) hF rfl rfl (by kernel_rfl) (by kernel_rfl) (by kernel_rfl) (fun _ _ _ h => h) (yi_go rfl (fun W hW => by replace z4 := (hW.cell (p := ⟨BZ, 4, none⟩) (World.block_lt_of_cell? _ _ z4)).trans z4; have f76 := fr_at hF 0 rfl; go_simp)) hS rfl (by decide) (fun a7 hA7 hF' => ?_)
                replace hF := hF'; clear hF'
                refine wpAnyH_ready (rs := [7]) (by kernel_rfl) (by simp) ?_
                refine AllReadyH.cons rfl (fun K hK => ?_) AllReadyH.nil
                have f71 := fr_at hF 6 rfl
                have f75 := fr_at hF 2 rfl
                have f77 := fr_at hF 0 rfl
                go_simp
                clear f71 f75 f77
                go_at_call 36
                refine (HH1.out (some ad) c3 _ hS).mono ?_
                rintro e wa ⟨rfl, hb⟩
                go_wp2_with fail
                refine hK.out _ _ (on hS hb) (fun _ => ?_)
                replace hS := on hS hb
                clear hK K
                change wpAnyH _ _ _ _ _ _ _ (a7.put (some 78) (.bool true)) _
                have hF' := fr_put hF 78 (.bool true) rfl (by decide)
                generalize hA8 : Act.put a7 (some 78) (.bool true) = a8 at hF' ⊢
                replace hF := hF'; clear hF'
                refine tk (i := 8) (d := 79) (v := .bool false) hF rfl rfl (by kernel_rfl) (by kernel_rfl) (by kernel_rfl) (fun _ _ _ h => h) (yi_go rfl (fun W hW => by have f78 := fr_at hF 0 rfl; go_simp)) hS rfl (by decide) (fun a9 hA9 hF' => ?_)
                replace hF := hF'; clear hF'
                refine tk (i := 9) (d := 80) (v := .bool false) hF rfl rfl (by kernel_rfl) (by kernel_rfl) (by kernel_rfl) (fun _ _ _ h => h) (yi_go rfl (fun W hW => ex_move W rfl (fr_at hF 0 rfl))) hS rfl (by decide) (fun a10 hA10 hF' => ?_)
                replace hF := hF'; clear hF'
                refine tk (i := 10) (d := 81) (v := .iface t pv) hF rfl rfl (by kernel_rfl) (by kernel_rfl) (by kernel_rfl) (fun _ _ _ h => h) (yi_want rfl rfl (fr_at hF 0 rfl) (fun W hW => ex_move W rfl (fr_at hF 11 rfl))) hS rfl (by decide) (fun a11 hA11 hF' => ?_)
                replace hF := hF'; clear hF'
                refine tk (i := 11) (d := 82) (v := .pointer (some ⟨BZ, 5, none⟩)) hF rfl rfl (by kernel_rfl) (by kernel_rfl) (by kernel_rfl) (fun _ _ _ h => h) (yi_want rfl rfl (fr_at hF 1 rfl) (fun W hW => by have f1 := fr_at hF 11 rfl; go_simp)) hS rfl (by decide) (fun a12 hA12 hF' => ?_)
                replace hF := hF'; clear hF'
                refine tk (i := 12) (d := 83) (v := .slice (some ad) 0 c3) hF rfl rfl (by kernel_rfl) (by kernel_rfl) (by kernel_rfl) (fun _ _ _ h => h) (yi_want rfl rfl (fr_at hF 2 rfl) (fun W hW => by replace z5 := (hW.cell (p := ⟨BZ, 5, none⟩) (World.block_lt_of_cell? _ _ z5)).trans z5; have f82 := fr_at hF 0 rfl; go_simp)) hS rfl (by decide) (fun a13 hA13 hF' => ?_)
                replace hF := hF'; clear hF'
                refine tk (i := 13) (d := 84) (v := .int .i64 0) hF rfl rfl (by kernel_rfl) (by kernel_rfl) (by kernel_rfl) (fun _ _ _ h => h) (yi_want rfl rfl (fr_at hF 3 rfl) (fun W hW => ex_move W rfl (fr_at hF 15 rfl))) hS rfl (by decide) (fun a14 hA14 hF' => ?_)
                replace hF := hF'; clear hF'
                refine tk (i := 14) (d := 85) (v := .slice (some ad) 0 c3) hF rfl rfl (by kernel_rfl) (by kernel_rfl) (by kernel_rfl) (fun _ _ _ h => h) (yi_want rfl rfl (fr_at hF 4 rfl) (fun W hW => by have f83 := fr_at hF 1 rfl; have f84 := fr_at hF 0 rfl; go_simp)) hS rfl (by decide) (fun a15 hA15 hF' => ?_)
                replace hF := hF'; clear hF'
                refine tk (i := 15) (d := 86) (v := .pointer (some ⟨BZ, 4, none⟩)) hF rfl rfl (by kernel_rfl) (by kernel_rfl) (by kernel_rfl) (fun _ _ _ h => h) (yi_want rfl rfl (fr_at hF 5 rfl) (fun W hW => by have f1 := fr_at hF 15 rfl; go_simp)) hS rfl (by decide) (fun a16 hA16 hF' => ?_)
                replace hF := hF'; clear hF'
                refine tk (i := 16) (d := 87) (v := .slice A2 m c2) hF rfl rfl (by kernel_rfl) (by kernel_rfl) (by kernel_rfl) (fun _ _ _ h => h) (yi_want rfl rfl (fr_at hF 6 rfl) (fun W hW => by replace z4 := (hW.cell (p := ⟨BZ, 4, none⟩) (World.block_lt_of_cell? _ _ z4)).trans z4; have f86 := fr_at hF 0 rfl; go_simp)) hS rfl (by decide) (fun a17 hA17 hF' => ?_)
                replace hF := hF'; clear hF'
                refine wpAnyH_ready (rs := [17]) (by kernel_rfl) (by simp) ?_
                refine AllReadyH.cons rfl (fun K hK => ?_) AllReadyH.nil
                rw [if_pos (by rw [guard_at rfl rfl (fr_at hF 7 rfl)]; rfl)]
                have f81 := fr_at hF 6 rfl
                have f85 := fr_at hF 2 rfl
                have f87 := fr_at hF 0 rfl
                go_simp
                clear f81 f85 f87
                go_at_call 36
                refine (HH1.out (some ad) c3 _ hS).mono ?_
                rintro e wb ⟨rfl, hb⟩
                go_wp2_with fail
                refine hK.out _ _ (on hS hb) (fun _ => ?_)
                replace hS := on hS hb
                clear hK K
                change wpAnyH _ _ _ _ _ _ _ (a17.put (some 88) (.bool true)) _
                have hF' := fr_put hF 88 (.bool true) rfl (by decide)
                generalize hA18 : Act.put a17 (some 88) (.bool true) = a18 at hF' ⊢
                replace hF := hF'; clear hF'
                refine tk (i := 18) (d := 89) (v := .bool false) hF rfl rfl (by kernel_rfl) (by kernel_rfl) (by kernel_rfl) (fun _ _ _ h => h) (yi_want rfl rfl (fr_at hF 8 rfl) (fun W hW => by have f88 := fr_at hF 0 rfl; go_simp)) hS rfl (by decide) (fun a19 hA19 hF' => ?_)
                replace hF := hF'; clear hF'
                refine tk (i := 19) (d := 90) (v := .bool false) hF rfl rfl (by kernel_rfl) (by kernel_rfl) (by kernel_rfl) (fun _ _ _ h => h) (yi_go rfl (fun W hW => by have f80 := fr_at hF 9 rfl; have f89 := fr_at hF 0 rfl; go_simp)) hS rfl (by decide) (fun a20 hA20 hF' => ?_)
                replace hF := hF'; clear hF'
                refine wpAnyH_done (by kernel_rfl) ?_ _
                rw [← hA20, ← hA19, ← hA18, ← hA17, ← hA16, ← hA15, ← hA14, ← hA13, ← hA12, ← hA11, ← hA10, ← hA9, ← hA8, ← hA7, ← hA6, ← hA5, ← hA4, ← hA3, ← hA2, ← hA1, ← hA0]
                simp only [Act.put, List.setIfInBounds_toArray, List.set_cons_zero, List.set_cons_succ]
                clear hF
                have HSx := Lib.hid hS
                have HBx := Lib.hid (on HBr.out hS)
                clear hS
                go_wp2_with fail
                refine (alive10_any _ (HT.out.below HBx.out)).mono ?_
                rintro e w10 ⟨rfl, hb⟩
                have HS10 := Lib.hid (on HSx.out hb)
                obtain ⟨z0, z1, z2, z3, z4, z5⟩ := six_on (six_on HZ.out HB.out) HS10.out
                clear hb
                go_wp2_with fail
                refine (HHJ.out _ HS10.out).mono ?_
                rintro e w11 ⟨rfl, hb⟩
                have HS11 := Lib.hid (on HS10.out hb)
                obtain ⟨z0, z1, z2, z3, z4, z5⟩ := six_on (six_on HZ.out HB.out) HS11.out
                clear hb
                go_wp2_with fail
                refine (HHM.out _ HS11.out).mono ?_
                rintro e w12 ⟨rfl, hb⟩
                have HS12 := Lib.hid (on HBr.out (on HS11.out hb))
                clear hb
                go_wp2_with fail
                go_ret
                exact ⟨rfl, HS12.out⟩
          · obtain ⟨bV, oV, eV, _, hc⟩ := HVr.out.2 (by rw [← H3.out]; omega)
            subst eV
            have HH1 := Lib.hid (fun W (h : Below wr.heap.size wr W) => hold_any (.iface t pv) S (some ⟨bV, oV, none⟩) i c3 (vals.take i) (by rw [List.length_take, ← H3.out]; omega) (by omega) A2 m c2 L H2.out hm2 W (HSr.out.below h).n ((HVr.out.below h).take i) (HLr.out.below h))
            have HH2 := Lib.hid (fun W (h : Below wr.heap.size wr W) => hold_any (.iface t pv) S (some ⟨bV, oV + i, none⟩) (k - i) (c3 - i) (vals.drop i) (by rw [List.length_drop, ← H3.out]) (by omega) A2 m c2 L H2.out hm2 W (HSr.out.below h).n ((HVr.out.below h).drop i) (HLr.out.below h))
            have s3 : ¬ c3 = i := hki hk0
            have s4 : ¬ c3 < i := by omega
            clear hc hki hk0
            generalize holdF S (vals.take i) L = r1 at HH1 HLAW
            generalize holdF S (vals.drop i) L = r2 at HH2 HLAW
            cases r1 with
            | false =>
              go_wp2_with fail
              refine wp_region_held (S := fun W => Below wr.heap.size wr W) (by kernel_rfl) ?_
              generalize hA0 : Act.mk _ _ = a0
              have hF := Fr.nil (n := 107) (a := a0) (by rw [← hA0]; rfl)
              replace hF := Fr.cons hF 4 (.int .i64 (i : Int)) (by rw [← hA0]; rfl)
              replace hF := Fr.cons hF 3 (.iface t pv) (by rw [← hA0]; rfl)
              replace hF := Fr.cons hF 1 (.pointer (some ⟨BZ, 0, none⟩)) (by rw [← hA0]; rfl)
              have hS : Below wr.heap.size wr (World.drew _) := (Below.refl _ wr).drew
              change wpAnyH _ _ _ _ _ _ _ _ (World.drew _)
              refine tk (i := 0) (d := 71) (v := .iface t pv) hF rfl rfl (by kernel_rfl) (by kernel_rfl) (by kernel_rfl) (fun _ _ _ h => h) (yi_go rfl (fun W hW => ex_move W rfl (fr_at hF 1 rfl))) hS rfl (by decide) (fun a1 hA1 hF' => ?_)
              replace hF := hF'; clear hF'
              refine tk (i := 1) (d := 72) (v := .pointer (some ⟨BZ, 5, none⟩)) hF rfl rfl (by kernel_rfl) (by kernel_rfl) (by kernel_rfl) (fun _ _ _ h => h) (yi_go rfl (fun W hW => by have f1 := fr_at hF 1 rfl; go_simp)) hS rfl (by decide) (fun a2 hA2 hF' => ?_)
              replace hF := hF'; clear hF'
              refine tk (i := 2) (d := 73) (v := .slice (some ⟨bV, oV, none⟩) k c3) hF rfl rfl (by kernel_rfl) (by kernel_rfl) (by kernel_rfl) (fun _ _ _ h => h) (yi_go rfl (fun W hW => by replace z5 := (hW.cell (p := ⟨BZ, 5, none⟩) (World.block_lt_of_cell? _ _ z5)).trans z5; have f72 := fr_at hF 0 rfl; go_simp)) hS rfl (by decide) (fun a3 hA3 hF' => ?_)
              replace hF := hF'; clear hF'
              refine tk (i := 3) (d := 74) (v := .int .i64 (i : Int)) hF rfl rfl (by kernel_rfl) (by kernel_rfl) (by kernel_rfl) (fun _ _ _ h => h) (yi_go rfl (fun W hW => ex_move W rfl (fr_at hF 5 rfl))) hS rfl (by decide) (fun a4 hA4 hF' => ?_)
              replace hF := hF'; clear hF'
              refine tk (i := 4) (d := 75) (v := .slice (some ⟨bV, oV, none⟩) i c3) hF rfl rfl (by kernel_rfl) (by kernel_rfl) (by kernel_rfl) (fun _ _ _ h => h) (yi_go rfl (fun W hW => by have f73 := fr_at hF 1 rfl; have f74 := fr_at hF 0 rfl; go_simp)) hS rfl (by decide) (fun a5 hA5 hF' => ?_)
              replace hF := hF'; clear hF'
              refine tk (i := 5) (d := 76) (v := .pointer (some ⟨BZ, 4, none⟩)) hF rfl rfl (by kernel_rfl) (by kernel_rfl) (by kernel_rfl) (fun _ _ _ h => h) (yi_go rfl (fun W hW => by have f1 := fr_at hF 5 rfl; go_simp)) hS rfl (by decide) (fun a6 hA6 hF' => ?_)
              replace hF := hF'; clear hF'
              refine tk (i := 6) (d := 77) (v := .slice A2 m c2) hF rfl rfl (by kernel_rfl) (by kernel_rfl) (by kernel_rfl) (fun _ _ _ h => h) (yi_go rfl (fun W hW => by replace z4 := (hW.cell (p := ⟨BZ, 4, none⟩) (World.block_lt_of_cell? _ _ z4)).trans z4; have f76 := fr_at hF 0 rfl; go_simp)) hS rfl (by decide) (fun a7 hA7 hF' => ?_)
              replace hF := hF'; clear hF'
              refine wpAnyH_ready (rs := [7]) (by kernel_rfl) (by simp) ?_
              refine AllReadyH.cons rfl (fun K hK => ?_) AllReadyH.nil
              have f71 := fr_at hF 6 rfl
              have f75 := fr_at hF 2 rfl
              have f77 := fr_at hF 0 rfl
              go_simp
              clear f71 f75 f77
              go_at_call 36
              refine (HH1.out _ hS).mono ?_
              rintro e wa ⟨rfl, hb⟩
              go_wp2_with fail
              refine hK.out _ _ (on hS hb) (fun _ => ?_)
              replace hS := on hS hb
              clear hK K
              change wpAnyH _ _ _ _ _ _ _ (a7.put (some 78) (.bool false)) _
              have hF' := fr_put hF 78 (.bool false) rfl (by decide)
              generalize hA8 : Act.put a7 (some 78) (.bool false) = a8 at hF' ⊢
              replace hF := hF'; clear hF'
              refine tk (i := 8) (d := 79) (v := .bool true) hF rfl rfl (by kernel_rfl) (by kernel_rfl) (by kernel_rfl) (fun _ _ _ h => h) (yi_go rfl (fun W hW => by have f78 := fr_at hF 0 rfl; go_simp)) hS rfl (by decide) (fun a9 hA9 hF' => ?_)
              replace hF := hF'; clear hF'
              refine tk (i := 9) (d := 80) (v := .bool true) hF rfl rfl (by kernel_rfl) (by kernel_rfl) (by kernel_rfl) (fun _ _ _ h => h) (yi_go rfl (fun W hW => ex_move W rfl (fr_at hF 0 rfl))) hS rfl (by decide) (fun a10 hA10 hF' => ?_)
              replace hF := hF'; clear hF'
              refine tk (i := 10) (d := 81) (v := undef) hF rfl rfl (by kernel_rfl) (by kernel_rfl) (by kernel_rfl) (fun _ _ _ h => h) (yi_skip rfl rfl (fr_at hF 0 rfl)) hS rfl (by decide) (fun a11 hA11 hF' => ?_)
              replace hF := hF'; clear hF'
              refine tk (i := 11) (d := 82) (v := undef) hF rfl rfl (by kernel_rfl) (by kernel_rfl) (by kernel_rfl) (fun _ _ _ h => h) (yi_skip rfl rfl (fr_at hF 1 rfl)) hS rfl (by decide) (fun a12 hA12 hF' => ?_)
              replace hF := hF'; clear hF'
              refine tk (i := 12) (d := 83) (v := undef) hF rfl rfl (by kernel_rfl) (by kernel_rfl) (by kernel_rfl) (fun _ _ _ h => h) (yi_skip rfl rfl (fr_at hF 2 rfl)) hS rfl (by decide) (fun a13 hA13 hF' => ?_)
              replace hF := hF'; clear hF'
              refine tk (i := 13) (d := 84) (v := undef) hF rfl rfl (by kernel_rfl) (by kernel_rfl) (by kernel_rfl) (fun _ _ _ h => h) (yi_skip rfl rfl (fr_at hF 3 rfl)) hS rfl (by decide) (fun a14 hA14 hF' => ?_)
              replace hF := hF'; clear hF'
              refine tk (i := 14) (d := 85) (v := undef) hF rfl rfl (by kernel_rfl) (by kernel_rfl) (by kernel_rfl) (fun _ _ _ h => h) (yi_skip rfl rfl (fr_at hF 4 rfl)) hS rfl (by decide) (fun a15 hA15 hF' => ?_)
              replace hF := hF'; clear hF'
              refine tk (i := 15) (d := 86) (v := undef) hF rfl rfl (by kernel_rfl) (by kernel_rfl) (by kernel_rfl) (fun _ _ _ h => h) (yi_skip rfl rfl (fr_at hF 5 rfl)) hS rfl (by decide) (fun a16 hA16 hF' => ?_)
              replace hF := hF'; clear hF'
              refine tk (i := 16) (d := 87) (v := undef) hF rfl rfl (by kernel_rfl) (by kernel_rfl) (by kernel_rfl) (fun _ _ _ h => h) (yi_skip rfl rfl (fr_at hF 6 rfl)) hS rfl (by decide) (fun a17 hA17 hF' => ?_)
              replace hF := hF'; clear hF'
              refine tk (i := 17) (d := 88) (v := undef) hF rfl rfl (by kernel_rfl) (by kernel_rfl) (by kernel_rfl) (fun _ _ _ h => h) (yi_skip rfl rfl (fr_at hF 7 rfl)) hS rfl (by decide) (fun a18 hA18 hF' => ?_)
              replace hF := hF'; clear hF'
              refine tk (i := 18) (d := 89) (v := undef) hF rfl rfl (by kernel_rfl) (by kernel_rfl) (by kernel_rfl) (fun _ _ _ h => h) (yi_skip rfl rfl (fr_at hF 8 rfl)) hS rfl (by decide) (fun a19 hA19 hF' => ?_)
              replace hF := hF'; clear hF'
              refine tk (i := 19) (d := 90) (v := .bool true) hF rfl rfl (by kernel_rfl) (by kernel_rfl) (by kernel_rfl) (fun _ _ _ h => h) (yi_go rfl (fun W hW => by have f80 := fr_at hF 9 rfl; have f89 := fr_at hF 0 rfl; go_simp)) hS rfl (by decide) (fun a20 hA20 hF' => ?_)
              replace hF := hF'; clear hF'
              refine wpAnyH_done (by kernel_rfl) ?_ _
              rw [← hA20, ← hA19, ← hA18, ← hA17, ← hA16, ← hA15, ← hA14, ← hA13, ← hA12, ← hA11, ← hA10, ← hA9, ← hA8, ← hA7, ← hA6, ← hA5, ← hA4, ← hA3, ← hA2, ← hA1, ← hA0]
              simp only [Act.put, List.setIfInBounds_toArray, List.set_cons_zero, List.set_cons_succ]
              clear hF
              have HBx := Lib.hid (on HBr.out hS)
              clear hS
              go_wp2_with fail
              refine (alive10_any _ (HT.out.below HBx.out)).mono ?_
              rintro e wz ⟨rfl, hb⟩
              have HBz := Lib.hid (on HBx.out hb)
              clear hb
              go_wp2_with fail
              go_ret
              exact ⟨rfl, HBz.out⟩
            | true =>
              cases r2 with
              | false =>
                go_wp2_with fail
                refine wp_region_held (S := fun W => Below wr.heap.size wr W) (by kernel_rfl) ?_
                generalize hA0 : Act.mk _ _ = a0
                have hF := Fr.nil (n := 107) (a := a0) (by rw [← hA0]; rfl)
                replace hF := Fr.cons hF 4 (.int .i64 (i : Int)) (by rw [← hA0]; rfl)
                replace hF := Fr.cons hF 3 (.iface t pv) (by rw [← hA0]; rfl)
                replace hF := Fr.cons hF 1 (.pointer (some ⟨BZ, 0, none⟩)) (by rw [← hA0]; rfl)
                have hS : Below wr.heap.size wr (World.drew _) := (Below.refl _ wr).drew
                change wpAnyH _ _ _ _ _ _ _ _ (World.drew _)
                refine tk (i := 0) (d := 71) (v := .iface t pv) hF rfl rfl (by kernel_rfl) (by kernel_rfl) (by kernel_rfl) (fun _ _ _ h => h) (yi_go rfl (fun W hW => ex_move W rfl (fr_at hF 1 rfl))) hS rfl (by decide) (fun a1 hA1 hF' => ?_)
                replace hF := hF'; clear hF'
                refine tk (i := 1) (d := 72) (v := .pointer (some ⟨BZ, 5, none⟩)) hF rfl rfl (by kernel_rfl) (by kernel_rfl) (by kernel_rfl) (fun _ _ _ h => h) (yi_go rfl (fun W hW => by have f1 := fr_at hF 1 rfl; go_simp)) hS rfl (by decide) (fun a2 hA2 hF' => ?_)
                replace hF := hF'; clear hF'
                refine tk (i := 2) (d := 73) (v := .slice (some ⟨bV, oV, none⟩) k c3) hF rfl rfl (by kernel_rfl) (by kernel_rfl) (by kernel_rfl) (fun _ _ _ h => h) (yi_go rfl (fun W hW => by replace z5 := (hW.cell (p := ⟨BZ, 5, none⟩) (World.block_lt_of_cell? _ _ z5)).trans z5; have f72 := fr_at hF 0 rfl; go_simp)) hS rfl (by decide) (fun a3 hA3 hF' => ?_)
                replace hF := hF'; clear hF'
                refine tk (i := 3) (d := 74) (v := .int .i64 (i : Int)) hF rfl rfl (by kernel_rfl) (by kernel_rfl) (by kernel_rfl) (fun _ _ _ h => h) (yi_go rfl (fun W hW => ex_move W rfl (fr_at hF 5 rfl))) hS rfl (by decide) (fun a4 hA4 hF' => ?_)
                replace hF := hF'; clear hF'
                refine tk (i := 4) (d := 75) (v := .slice (some ⟨bV, oV, none⟩) i c3) hF rfl rfl (by kernel_rfl) (by kernel_rfl) (by kernel_rfl) (fun _ _ _ h => h) (yi_go rfl (fun W hW => by have f73 := fr_at hF 1 rfl; have f74 := fr_at hF 0 rfl; go_simp)) hS rfl (by decide) (fun a5 hA5 hF' => ?_)
                replace hF := hF'; clear hF'
                refine tk (i := 5) (d := 76) (v := .pointer (some ⟨BZ, 4, none⟩)) hF rfl rfl (by kernel_rfl) (by kernel_rfl) (by kernel_rfl) (fun _ _ _ h => h) (yi_go rfl (fun W hW => by have f1 := fr_at hF 5 rfl; go_simp)) hS rfl (by decide) (fun a6 hA6 hF' => ?_)
                replace hF := hF'; clear hF'
                refine tk (i := 6) (d := 77) (v := .slice A2 m c2) hF rfl rfl (by kernel_rfl) (by kernel_rfl) (by kernel_rfl) (fun _ _ _ h => h) (yi_go rfl (fun W hW => by replace z4 := (hW.cell (p := ⟨BZ, 4, none⟩) (World.block_lt_of_cell? _ _ z4)).trans z4; have f76 := fr_at hF 0 rfl; go_simp)) hS rfl (by decide) (fun a7 hA7 hF' => ?_)
                replace hF := hF'; clear hF'
                refine wpAnyH_ready (rs := [7]) (by kernel_rfl) (by simp) ?_
                refine AllReadyH.cons rfl (fun K hK => ?_) AllReadyH.nil
                have f71 := fr_at hF 6 rfl
                have f75 := fr_at hF 2 rfl
                have f77 := fr_at hF 0 rfl
                go_simp
                clear f71 f75 f77
                go_at_call 36
                refine (HH1.out _ hS).mono ?_
                rintro e wa ⟨rfl, hb⟩
                go_wp2_with fail
                refine hK.out _ _ (on hS hb) (fun _ => ?_)
                replace hS := on hS hb
                clear hK K
                change wpAnyH _ _ _ _ _ _ _ (a7.put (some 78) (.bool true)) _
                have hF' := fr_put hF 78 (.bool true) rfl (by decide)
                generalize hA8 : Act.put a7 (some 78) (.bool true) = a8 at hF' ⊢
                replace hF := hF'; clear hF'
                refine tk (i := 8) (d := 79) (v := .bool false) hF rfl rfl (by kernel_rfl) (by kernel_rfl) (by kernel_rfl) (fun _ _ _ h => h) (yi_go rfl (fun W hW => by have f78 := fr_at hF 0 rfl; go_simp)) hS rfl (by decide) (fun a9 hA9 hF' => ?_)
                replace hF := hF'; clear hF'
                refine tk (i := 9) (d := 80) (v := .bool false) hF rfl rfl (by kernel_rfl) (by kernel_rfl) (by kernel_rfl) (fun _ _ _ h => h) (yi_go rfl (fun W hW => ex_move W rfl (fr_at hF 0 rfl))) hS rfl (by decide) (fun a10 hA10 hF' => ?_)
                replace hF := hF'; clear hF'
                refine tk (i := 10) (d := 81) (v := .iface t pv) hF rfl rfl (by kernel_rfl) (by kernel_rfl) (by kernel_rfl) (fun _ _ _ h => h) (yi_want rfl rfl (fr_at hF 0 rfl) (fun W hW => ex_move W rfl (fr_at hF 11 rfl))) hS rfl (by decide) (fun a11 hA11 hF' => ?_)
                replace hF := hF'; clear hF'
                refine tk (i := 11) (d := 82) (v := .pointer (some ⟨BZ, 5, none⟩)) hF rfl rfl (by kernel_rfl) (by kernel_rfl) (by kernel_rfl) (fun _ _ _ h => h) (yi_want rfl rfl (fr_at hF 1 rfl) (fun W hW => by have f1 := fr_at hF 11 rfl; go_simp)) hS rfl (by decide) (fun a12 hA12 hF' => ?_)
                replace hF := hF'; clear hF'
                refine tk (i := 12) (d := 83) (v := .slice (some ⟨bV, oV, none⟩) k c3) hF rfl rfl (by kernel_rfl) (by kernel_rfl) (by kernel_rfl) (fun _ _ _ h => h) (yi_want rfl rfl (fr_at hF 2 rfl) (fun W hW => by replace z5 := (hW.cell (p := ⟨BZ, 5, none⟩) (World.block_lt_of_cell? _ _ z5)).trans z5; have f82 := fr_at hF 0 rfl; go_simp)) hS rfl (by decide) (fun a13 hA13 hF' => ?_)
                replace hF := hF'; clear hF'
                refine tk (i := 13) (d := 84) (v := .int .i64 (i : Int)) hF rfl rfl (by kernel_rfl) (by kernel_rfl) (by kernel_rfl) (fun _ _ _ h => h) (yi_want rfl rfl (fr_at hF 3 rfl) (fun W hW => ex_move W rfl (fr_at hF 15 rfl))) hS rfl (by decide) (fun a14 hA14 hF' => ?_)
                replace hF := hF'; clear hF'
                refine tk (i := 14) (d := 85) (v := .slice (some ⟨bV, oV + i, none⟩) (k - i) (c3 - i)) hF rfl rfl (by kernel_rfl) (by kernel_rfl) (by kernel_rfl) (fun _ _ _ h => h) (yi_want rfl rfl (fr_at hF 4 rfl) (fun W hW => by have f83 := fr_at hF 1 rfl; have f84 := fr_at hF 0 rfl; go_simp)) hS rfl (by decide) (fun a15 hA15 hF' => ?_)
                replace hF := hF'; clear hF'
                refine tk (i := 15) (d := 86) (v := .pointer (some ⟨BZ, 4, none⟩)) hF rfl rfl (by kernel_rfl) (by kernel_rfl) (by kernel_rfl) (fun _ _ _ h => h) (yi_want rfl rfl (fr_at hF 5 rfl) (fun W hW => by have f1 := fr_at hF 15 rfl; go_simp)) hS rfl (by decide) (fun a16 hA16 hF' => ?_)
                replace hF := hF'; clear hF'
                refine tk (i := 16) (d := 87) (v := .slice A2 m c2) hF rfl rfl (by kernel_rfl) (by kernel_rfl) (by kernel_rfl) (fun _ _ _ h => h) (yi_want rfl rfl (fr_at hF 6 rfl) (fun W hW => by replace z4 := (hW.cell (p := ⟨BZ, 4, none⟩) (World.block_lt_of_cell? _ _ z4)).trans z4; have f86 := fr_at hF 0 rfl; go_simp)) hS rfl (by decide) (fun a17 hA17 hF' => ?_)
                replace hF := hF'; clear hF'
                refine wpAnyH_ready (rs := [17]) (by kernel_rfl) (by simp) ?_
                refine AllReadyH.cons rfl (fun K hK => ?_) AllReadyH.nil
                rw [if_pos (by rw [guard_at rfl rfl (fr_at hF 7 rfl)]; rfl)]
                have f81 := fr_at hF 6 rfl
                have f85 := fr_at hF 2 rfl
                have f87 := fr_at hF 0 rfl
                go_simp
                clear f81 f85 f87
                go_at_call 36
                refine (HH2.out _ hS).mono ?_
                rintro e wb ⟨rfl, hb⟩
                go_wp2_with fail
                refine hK.out _ _ (on hS hb) (fun _ => ?_)
                replace hS := on hS hb
                clear hK K
                change wpAnyH _ _ _ _ _ _ _ (a17.put (some 88) (.bool false)) _
                have hF' := fr_put hF 88 (.bool false) rfl (by decide)
                generalize hA18 : Act.put a17 (some 88) (.bool false) = a18 at hF' ⊢
                replace hF := hF'; clear hF'
                refine tk (i := 18) (d := 89) (v := .bool true) hF rfl rfl (by kernel_rfl) (by kernel_rfl) (by kernel_rfl) (fun _ _ _ h => h) (yi_want rfl rfl (fr_at hF 8 rfl) (fun W hW => by have f88 := fr_at hF 0 rfl; go_simp)) hS rfl (by decide) (fun a19 hA19 hF' => ?_)
                replace hF := hF'; clear hF'
                refine tk (i := 19) (d := 90) (v := .bool true) hF rfl rfl (by kernel_rfl) (by kernel_rfl) (by kernel_rfl) (fun _ _ _ h => h) (yi_go rfl (fun W hW => by have f80 := fr_at hF 9 rfl; have f89 := fr_at hF 0 rfl; go_simp)) hS rfl (by decide) (fun a20 hA20 hF' => ?_)
                replace hF := hF'; clear hF'
                refine wpAnyH_done (by kernel_rfl) ?_ _
                rw [← hA20, ← hA19, ← hA18, ← hA17, ← hA16, ← hA15, ← hA14, ← hA13, ← hA12, ← hA11, ← hA10, ← hA9, ← hA8, ← hA7, ← hA6, ← hA5, ← hA4, ← hA3, ← hA2, ← hA1, ← hA0]
                simp only [Act.put, List.setIfInBounds_toArray, List.set_cons_zero, List.set_cons_succ]
                clear hF
                have HBx := Lib.hid (on HBr.out hS)
                clear hS
                go_wp2_with fail
                refine (alive10_any _ (HT.out.below HBx.out)).mono ?_
                rintro e wz ⟨rfl, hb⟩
                have HBz := Lib.hid (on HBx.out hb)
                clear hb
                go_wp2_with fail
                go_ret
                exact ⟨rfl, HBz.out⟩
              | true =>
                have HLW := Lib.hid (HLAW.out rfl rfl)
                rw [HLW.out.1] at HHJ
                rw [HLW.out.2] at HHM
                go_wp2_with fail
                refine wp_region_held (S := fun W => Below wr.heap.size wr W) (by kernel_rfl) ?_
                generalize hA0 : Act.mk _ _ = a0
                have hF := Fr.nil (n := 107) (a := a0) (by rw [← hA0]; rfl)
                replace hF := Fr.cons hF 4 (.int .i64 (i : Int)) (by rw [← hA0]; rfl)
                replace hF := Fr.cons hF 3 (.iface t pv) (by rw [← hA0]; rfl)
                replace hF := Fr.cons hF 1 (.pointer (some ⟨BZ, 0, none⟩)) (by rw [← hA0]; rfl)
                have hS : Below wr.heap.size wr (World.drew _) := (Below.refl _ wr).drew
                change wpAnyH _ _ _ _ _ _ _ _ (World.drew _)
                refine tk (i := 0) (d := 71) (v := .iface t pv) hF rfl rfl (by kernel_rfl) (by kernel_rfl) (by kernel_rfl) (fun _ _ _ h => h) (yi_go rfl (fun W hW => ex_move W rfl (fr_at hF 1 rfl))) hS rfl (by decide) (fun a1 hA1 hF' => ?_)
                replace hF := hF'; clear hF'
                refine tk (i := 1) (d := 72) (v := .pointer (some ⟨BZ, 5, none⟩)) hF rfl rfl (by kernel_rfl) (by kernel_rfl) (by kernel_rfl) (fun _ _ _ h => h) (yi_go rfl (fun W hW => by have f1 := fr_at hF 1 rfl; go_simp)) hS rfl (by decide) (fun a2 hA2 hF' => ?_)
                replace hF := hF'; clear hF'
                refine tk (i := 2) (d := 73) (v := .slice (some ⟨bV, oV, none⟩) k c3) hF rfl rfl (by kernel_rfl) (by kernel_rfl) (by kernel_rfl) (fun _ _ _ h => h) (yi_go rfl (fun W hW => by replace z5 := (hW.cell (p := ⟨BZ, 5, none⟩) (World.block_lt_of_cell? _ _ z5)).trans z5; have f72 := fr_at hF 0 rfl; go_simp)) hS rfl (by decide) (fun a3 hA3 hF' => ?_)
                replace hF := hF'; clear hF'
                refine tk (i := 3) (d := 74) (v := .int .i64 (i : Int)) hF rfl rfl (by kernel_rfl) (by kernel_rfl) (by kernel_rfl) (fun _ _ _ h => h) (yi_go rfl (fun W hW => ex_move W rfl (fr_at hF 5 rfl))) hS rfl (by decide) (fun a4 hA4 hF' => ?_)
                replace hF := hF'; clear hF'
                refine tk (i := 4) (d := 75) (v := .slice (some ⟨bV, oV, none⟩) i c3) hF rfl rfl (by kernel_rfl) (by kernel_rfl) (by kernel_rfl) (fun _ _ _ h => h) (yi_go rfl (fun W hW => by have f73 := fr_at hF 1 rfl; have f74 := fr_at hF 0 rfl; go_simp)) hS rfl (by decide) (fun a5 hA5 hF' => ?_)
                replace hF := hF'; clear hF'
                refine tk (i := 5) (d := 76) (v := .pointer (some ⟨BZ, 4, none⟩)) hF rfl rfl (by kernel_rfl) (by kernel_rfl) (by kernel_rfl) (fun _ _ _ h => h) (yi_go rfl (fun W hW => by have f1 := fr_at hF 5 rfl; go_simp)) hS rfl (by decide) (fun a6 hA6 hF' => ?_)
                replace hF := hF'; clear hF'
                refine tk (i := 6) (d := 77) (v := .slice A2 m c2) hF rfl rfl (by kernel_rfl) (by kernel_rfl) (by kernel_rfl) (fun _ _ _ h => h) (yi_go rfl (fun W hW => by replace z4 := (hW.cell (p := ⟨BZ, 4, none⟩) (World.block_lt_of_cell? _ _ z4)).trans z4; have f76 := fr_at hF 0 rfl; go_simp)) hS rfl (by decide) (fun a7 hA7 hF' => ?_)
                replace hF := hF'; clear hF'
                refine wpAnyH_ready (rs := [7]) (by kernel_rfl) (by simp) ?_
                refine AllReadyH.cons rfl (fun K hK => ?_) AllReadyH.nil
                have f71 := fr_at hF 6 rfl
                have f75 := fr_at hF 2 rfl
                have f77 := fr_at hF 0 rfl
                go_simp
                clear f71 f75 f77
                go_at_call 36
                refine (HH1.out _ hS).mono ?_
                rintro e wa ⟨rfl, hb⟩
                go_wp2_with fail
                refine hK.out _ _ (on hS hb) (fun _ => ?_)
                replace hS := on hS hb
                clear hK K
                change wpAnyH _ _ _ _ _ _ _ (a7.put (some 78) (.bool true)) _
                have hF' := fr_put hF 78 (.bool true) rfl (by decide)
                generalize hA8 : Act.put a7 (some 78) (.bool true) = a8 at hF' ⊢
                replace hF := hF'; clear hF'
                refine tk (i := 8) (d := 79) (v := .bool false) hF rfl rfl (by kernel_rfl) (by kernel_rfl) (by kernel_rfl) (fun _ _ _ h => h) (yi_go rfl (fun W hW => by have f78 := fr_at hF 0 rfl; go_simp)) hS rfl (by decide) (fun a9 hA9 hF' => ?_)
                replace hF := hF'; clear hF'
                refine tk (i := 9) (d := 80) (v := .bool false) hF rfl rfl (by kernel_rfl) (by kernel_rfl) (by kernel_rfl) (fun _ _ _ h => h) (yi_go rfl (fun W hW => ex_move W rfl (fr_at hF 0 rfl))) hS rfl (by decide) (fun a10 hA10 hF' => ?_)
                replace hF := hF'; clear hF'
                refine tk (i := 10) (d := 81) (v := .iface t pv) hF rfl rfl (by kernel_rfl) (by kernel_rfl) (by kernel_rfl) (fun _ _ _ h => h) (yi_want rfl rfl (fr_at hF 0 rfl) (fun W hW => ex_move W rfl (fr_at hF 11 rfl))) hS rfl (by decide) (fun a11 hA11 hF' => ?_)
                replace hF := hF'; clear hF'
                refine tk (i := 11) (d := 82) (v := .pointer (some ⟨BZ, 5, none⟩)) hF rfl rfl (by kernel_rfl) (by kernel_rfl) (by kernel_rfl) (fun _ _ _ h => h) (yi_want rfl rfl (fr_at hF 1 rfl) (fun W hW => by have f1 := fr_at hF 11 rfl; go_simp)) hS rfl (by decide) (fun a12 hA12 hF' => ?_)
                replace hF := hF'; clear hF'
                refine tk (i := 12) (d := 83) (v := .slice (some ⟨bV, oV, none⟩) k c3) hF rfl rfl (by kernel_rfl) (by kernel_rfl) (by kernel_rfl) (fun _ _ _ h => h) (yi_want rfl rfl (fr_at hF 2 rfl) (fun W hW => by replace z5 := (hW.cell (p := ⟨BZ, 5, none⟩) (World.block_lt_of_cell? _ _ z5)).trans z5; have f82 := fr_at hF 0 rfl; go_simp)) hS rfl (by decide) (fun a13 hA13 hF' => ?_)
                replace hF := hF'; clear hF'
                refine tk (i := 13) (d := 84) (v := .int .i64 (i : Int)) hF rfl rfl (by kernel_rfl) (by kernel_rfl) (by kernel_rfl) (fun _ _ _ h => h) (yi_want rfl rfl (fr_at hF 3 rfl) (fun W hW => ex_move W rfl (fr_at hF 15 rfl))) hS rfl (by decide) (fun a14 hA14 hF' => ?_)
                replace hF := hF'; clear hF'
                refine tk (i := 14) (d := 85) (v := .slice (some ⟨bV, oV + i, none⟩) (k - i) (c3 - i)) hF rfl rfl (by kernel_rfl) (by kernel_rfl) (by kernel_rfl) (fun _ _ _ h => h) (yi_want rfl rfl (fr_at hF 4 rfl) (fun W hW => by have f83 := fr_at hF 1 rfl; have f84 := fr_at hF 0 rfl; go_simp)) hS rfl (by decide) (fun a15 hA15 hF' => ?_)
                replace hF := hF'; clear hF'
                refine tk (i := 15) (d := 86) (v := .pointer (some ⟨BZ, 4, none⟩)) hF rfl rfl (by kernel_rfl) (by kernel_rfl) (by kernel_rfl) (fun _ _ _ h => h) (yi_want rfl rfl (fr_at hF 5 rfl) (fun W hW => by have f1 := fr_at hF 15 rfl; go_simp)) hS rfl (by decide) (fun a16 hA16 hF' => ?_)
                replace hF := hF'; clear hF'
                refine tk (i := 16) (d := 87) (v := .slice A2 m c2) hF rfl rfl (by kernel_rfl) (by kernel_rfl) (by kernel_rfl) (fun _ _ _ h => h) (yi_want rfl rfl (fr_at hF 6 rfl) (fun W hW => by replace z4 := (hW.cell (p := ⟨BZ, 4, none⟩) (World.block_lt_of_cell? _ _ z4)).trans z4; have f86 := fr_at hF 0 rfl; go_simp)) hS rfl (by decide) (fun a17 hA17 hF' => ?_)
                replace hF := hF'; clear hF'
                refine wpAnyH_ready (rs := [17]) (by kernel_rfl) (by simp) ?_
                refine AllReadyH.cons rfl (fun K hK => ?_) AllReadyH.nil
                rw [if_pos (by rw [guard_at rfl rfl (fr_at hF 7 rfl)]; rfl)]
                have f81 := fr_at hF 6 rfl
                have f85 := fr_at hF 2 rfl
                have f87 := fr_at hF 0 rfl
                go_simp
                clear f81 f85 f87
                go_at_call 36
                refine (HH2.out _ hS).mono ?_
                rintro e wb ⟨rfl, hb⟩
                go_wp2_with fail
                refine hK.out _ _ (on hS hb) (fun _ => ?_)
                replace hS := on hS hb
                clear hK K
                change wpAnyH _ _ _ _ _ _ _ (a17.put (some 88) (.bool true)) _
                have hF' := fr_put hF 88 (.bool true) rfl (by decide)
                generalize hA18 : Act.put a17 (some 88) (.bool true) = a18 at hF' ⊢
                replace hF := hF'; clear hF'
                refine tk (i := 18) (d := 89) (v := .bool false) hF rfl rfl (by kernel_rfl) (by kernel_rfl) (by kernel_rfl) (fun _ _ _ h => h) (yi_want rfl rfl (fr_at hF 8 rfl) (fun W hW => by have f88 := fr_at hF 0 rfl; go_simp)) hS rfl (by decide) (fun a19 hA19 hF' => ?_)
                replace hF := hF'; clear hF'
                refine tk (i := 19) (d := 90) (v := .bool false) hF rfl rfl (by kernel_rfl) (by kernel_rfl) (by kernel_rfl) (fun _ _ _ h => h) (yi_go rfl (fun W hW => by have f80 := fr_at hF 9 rfl; have f89 := fr_at hF 0 rfl; go_simp)) hS rfl (by decide) (fun a20 hA20 hF' => ?_)
                replace hF := hF'; clear hF'
                refine wpAnyH_done (by kernel_rfl) ?_ _
                rw [← hA20, ← hA19, ← hA18, ← hA17, ← hA16, ← hA15, ← hA14, ← hA13, ← hA12, ← hA11, ← hA10, ← hA9, ← hA8, ← hA7, ← hA6, ← hA5, ← hA4, ← hA3, ← hA2, ← hA1, ← hA0]
                simp only [Act.put, List.setIfInBounds_toArray, List.set_cons_zero, List.set_cons_succ]
                clear hF
                have HSx := Lib.hid hS
                have HBx := Lib.hid (on HBr.out hS)
                clear hS
                go_wp2_with fail
                refine (alive10_any _ (HT.out.below HBx.out)).mono ?_
                rintro e w10 ⟨rfl, hb⟩
                have HS10 := Lib.hid (on HSx.out hb)
                obtain ⟨z0, z1, z2, z3, z4, z5⟩ := six_on (six_on HZ.out HB.out) HS10.out
                clear hb
                go_wp2_with fail
                refine (HHJ.out _ HS10.out).mono ?_
                rintro e w11 ⟨rfl, hb⟩
                have HS11 := Lib.hid (on HS10.out hb)
                obtain ⟨z0, z1, z2, z3, z4, z5⟩ := six_on (six_on HZ.out HB.out) HS11.out
                clear hb
                go_wp2_with fail
                refine (HHM.out _ HS11.out).mono ?_
                rintro e w12 ⟨rfl, hb⟩
                have HS12 := Lib.hid (on HBr.out (on HS11.out hb))
                clear hb
                go_wp2_with fail
                go_ret
                exact ⟨rfl, HS12.out⟩
    · have d2 : (k : Int).tmod 2 = 1 := by rw [Int.tmod_eq_emod_of_nonneg (by omega)]; omega
      clear hp
      go_wp2_with fail
      refine (alive10_any _ (HT.out.below HB2.out)).mono ?_
      rintro e wz ⟨rfl, hb⟩
      have HBz := Lib.hid (on HB2.out hb)
      clear hb
      go_wp2_with fail
      go_ret
      exact ⟨rfl, HBz.out⟩
end Go.Proofs.YtappaokjlnpbnaaDoor
