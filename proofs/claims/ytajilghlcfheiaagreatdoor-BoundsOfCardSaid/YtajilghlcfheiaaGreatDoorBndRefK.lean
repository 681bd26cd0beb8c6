/- The document's Check of bounds. -/
import Derived.Test.YtajilghlcfheiaaGreatDoorBndRefS
import Derived.Test.YtajilghlcfheiaaGreatDoorBndBase
import Derived.Deep.QuietTactic
import Derived.BigQuiet
namespace Go.Proofs.YtajilghlcfheiaaGreatDoor.Bnd
set_option maxRecDepth 20000
open Go.RowKit Go.Proofs.YtajilghlcfheiaaGreatDoorW.PrintWords
set_option linter.unusedVariables false
set_option maxRecDepth 20000
set_option maxHeartbeats 4000000
theorem rs_check (v : Value) (S : SI) (vars : Int) (A2 : Option Addr) (m c2 : Nat) (L : List Rea.Bd) (hm : m = L.length) (hmm : m ≤ 9223372036854775807) (w : World) (h : RS w v S) (hL : Rea.Bds w A2 L) :
    Calls Tryz.prog 15 #[v, .int .i64 vars, .slice A2 m c2] w fun e w' => e = .returned (.int .i64 ((chkF S vars L : Nat) : Int)) ∧ Below w.heap.size w w' := by
  have HRS := Lib.hid h
  obtain ⟨o, A, n', c, y, rfl⟩ := h.shape
  clear h
  have HM := Lib.hid hm
  have HL := Lib.hid hL
  have HZ := Lib.hid (three_cells w (.int .i64 o) (.slice A n' c) (.int .i64 y) 31)
  have HB0 := Lib.hid (lit_below w (.cells #[.int .i64 o, .slice A n' c, .int .i64 y] 31))
  clear hm hL
  by_cases h1 : vars < 0
  · have d1 : decide (vars < 0) = true := by simp; omega
    have HR := Lib.hid (show chkF S vars L = 3 by unfold chkF; rw [if_pos (.inl h1)])
    clear h1
    go_enter Tryz.func15, Tryz.ntmps15
    go_wp2_with fail
    go_ret
    exact ⟨by rw [HR.out]; rfl, HB0.out⟩
  · have d1 : decide (vars < 0) = false := by simp; omega
    by_cases h2 : 64 < vars
    · have d2 : decide (vars > 64) = true := by simp; omega
      have HR := Lib.hid (show chkF S vars L = 3 by unfold chkF; rw [if_pos (.inr (.inl h2))])
      clear h1 h2
      go_enter Tryz.func15, Tryz.ntmps15
      go_wp2_with fail
      go_ret
      exact ⟨by rw [HR.out]; rfl, HB0.out⟩
    · have d2 : decide (vars > 64) = false := by simp; omega
      by_cases h3 : 256 < m
      · have d3 : decide ((m : Int) > 256) = true := by simp; omega
        have d4 : decide (256 < m) = true := by simp; omega
        have HR := Lib.hid (show chkF S vars L = 3 by unfold chkF; rw [if_pos (.inr (.inr (by rw [← HM.out]; exact h3)))])
        clear h1 h2 h3
        go_enter Tryz.func15, Tryz.ntmps15
        go_wp2_with fail
        go_ret
        exact ⟨by rw [HR.out]; rfl, HB0.out⟩
      · have d3 : decide ((m : Int) > 256) = false := by simp; omega
        have d4 : decide (256 < m) = false := by simp; omega
        obtain ⟨N, rfl⟩ : ∃ N : Nat, vars = N := ⟨vars.toNat, by omega⟩
        have h64 : N ≤ 64 := by omega
        have hl256 : L.length ≤ 256 := by rw [← HM.out]; omega
        have HNO := Lib.hid (fun k hk h => chk_bad (S := S) (L := L) h64 hl256 (k := k) hk h)
        have HYE := Lib.hid (fun h => chk_ok (S := S) (L := L) h64 hl256 h)
        generalize chkF S (N : Int) L = r at HNO HYE ⊢
        clear h1 h2 h3 hl256
        go_enter Tryz.func15, Tryz.ntmps15
        go_wp2_with fail
        obtain ⟨BZ, hBZ⟩ : ∃ B, B = w.heap.size := ⟨_, rfl⟩
        rw [← hBZ] at HZ ⊢
        clear hBZ
        replace HRS := Lib.hid (HRS.out.below HB0.out)
        replace HL := Lib.hid (HL.out.below HB0.out)
        generalize hw1 : w.alloc _ = w1 at *
        clear hw1
        go_loopw [7] (fun x wr => ∃ i : Nat, i ≤ m ∧ x = .int .i64 i ∧ Hid (∀ j (hj : j < L.length), j < i → okB S N L[j] = true) ∧ Hid (Below w1.heap.size w1 wr)) (fun x _ => m - (intOf x).toNat)
        case atStart => exact ⟨0, by omega, rfl, fun j _ h => by omega, Below.refl _ _⟩
        case round =>
          obtain ⟨i, hi, rfl, HH, HB⟩ := hrel
          by_cases him : i < m
          · have hil : i < L.length := by rw [← HM.out]; exact him
            obtain ⟨b, oo, rfl, hrest⟩ := HL.out i hil
            clear hrest
            obtain ⟨d, hd⟩ : ∃ d, L[i] = d := ⟨_, rfl⟩
            obtain ⟨⟨c0, c1⟩, ⟨c2', c3⟩, l1, l2⟩ := bd_at (HL.out.below HB.out) hil hd
            have HNI := Lib.hid (HNO.out i hil)
            have HST := Lib.hid (fun (h : okB S N d = true) => (show ∀ j (hj : j < L.length), j < i + 1 → okB S N L[j] = true from fun j hj hji => by
              by_cases e : j = i
              · subst e
                rw [hd]
                exact h
              · exact HH.out j hj (by omega)))
            rw [hd] at HNI
            obtain ⟨av, an, bv, bn⟩ := d
            simp only at c0 c1 c2' c3 l1 l2
            have HO := Lib.hid (show okB S N ⟨av, an, bv, bn⟩ = (okT S N av an && okT S N bv bn) from rfl)
            generalize okB S N ⟨av, an, bv, bn⟩ = q at HNI HST HO
            have i1 : (0 : Int) ≤ (i : Int) := by omega
            have i2 : (i : Int) < (m : Int) := by omega
            have hz0 := cell_below HZ.out.1 HB.out
            have hz1 := cell_below HZ.out.2.1 HB.out
            have hz2 := cell_below HZ.out.2.2 HB.out
            have HT1 := Lib.hid (fun W (h : Below wr.heap.size wr W) => rs_term (.agg #[.int .i64 o, .slice A n' c, .int .i64 y]) S N h64 av an l1 W (HRS.out.below (on HB.out h)))
            have HT2 := Lib.hid (fun W (h : Below wr.heap.size wr W) => rs_term (.agg #[.int .i64 o, .slice A n' c, .int .i64 y]) S N h64 bv bn l2 W (HRS.out.below (on HB.out h)))
            generalize okT S N av an = q1 at HO HT1
            generalize okT S N bv bn = q2 at HO HT2
            have HBw := Lib.hid (on HB0.out HB.out)
            clear hd
            cases q1 with
            | false =>
              have HR := Lib.hid (HNI.out (by rw [HO.out]; rfl))
              go_upto_region 6 with fail
              refine wp_region_held (S := fun W => Below wr.heap.size wr W) (by kernel_rfl) ?_
              generalize hA0 : Act.mk _ _ = a0
              have hF := Fr.nil (n := 45) (a := a0) (by rw [← hA0]; rfl)
              replace hF := Fr.cons hF 7 (.int .i64 (i : Int)) (by rw [← hA0]; rfl)
              replace hF := Fr.cons hF 3 (.pointer (some ⟨BZ, 0, none⟩)) (by rw [← hA0]; rfl)
              replace hF := Fr.cons hF 2 (.slice (some ⟨b, oo, none⟩) m c2) (by rw [← hA0]; rfl)
              replace hF := Fr.cons hF 1 (.int .i64 (N : Int)) (by rw [← hA0]; rfl)
              have hS : Below wr.heap.size wr (World.drew _) := (Below.refl _ wr).drew
              change wpAnyH _ _ _ _ _ _ _ _ (World.drew _)
              refine tk (i := 0) (d := 25) (v := .agg #[.int .i64 o, .slice A n' c, .int .i64 y]) hF rfl rfl (by kernel_rfl) (by kernel_rfl) (by kernel_rfl) (fun _ _ _ h => h) (yi_go rfl (fun W hW => by replace hz0 := (hW.cell (p := ⟨BZ, 0, none⟩) (World.block_lt_of_cell? _ _ hz0)).trans hz0; replace hz1 := (hW.cell (p := ⟨BZ, 1, none⟩) (World.block_lt_of_cell? _ _ hz1)).trans hz1; replace hz2 := (hW.cell (p := ⟨BZ, 2, none⟩) (World.block_lt_of_cell? _ _ hz2)).trans hz2; have f3 := fr_at hF 2 rfl; go_simp)) hS rfl (by decide) (fun a1 hA1 hF' => ?_)
              replace hF := hF'; clear hF'
              refine tk (i := 1) (d := 26) (v := .int .i64 (N : Int)) hF rfl rfl (by kernel_rfl) (by kernel_rfl) (by kernel_rfl) (fun _ _ _ h => h) (yi_go rfl (fun W hW => ex_move W rfl (fr_at hF 1 rfl))) hS rfl (by decide) (fun a2 hA2 hF' => ?_)
              replace hF := hF'; clear hF'
              refine tk (i := 2) (d := 27) (v := .slice (some ⟨b, oo, none⟩) m c2) hF rfl rfl (by kernel_rfl) (by kernel_rfl) (by kernel_rfl) (fun _ _ _ h => h) (yi_go rfl (fun W hW => ex_move W rfl (fr_at hF 3 rfl))) hS rfl (by decide) (fun a3 hA3 hF' => ?_)
              replace hF := hF'; clear hF'
              refine tk (i := 3) (d := 28) (v := .int .i64 (i : Int)) hF rfl rfl (by kernel_rfl) (by kernel_rfl) (by kernel_rfl) (fun _ _ _ h => h) (yi_go rfl (fun W hW => ex_move W rfl (fr_at hF 6 rfl))) hS rfl (by decide) (fun a4 hA4 hF' => ?_)
              replace hF := hF'; clear hF'
              refine tk (i := 4) (d := 29) (v := .pointer (some ⟨b, oo + i * 4, none⟩)) hF rfl rfl (by kernel_rfl) (by kernel_rfl) (by kernel_rfl) (fun _ _ _ h => h) (yi_go rfl (fun W hW => by have f27 := fr_at hF 1 rfl; have f28 := fr_at hF 0 rfl; go_simp)) hS rfl (by decide) (fun a5 hA5 hF' => ?_)
              replace hF := hF'; clear hF'
              refine tk (i := 5) (d := 30) (v := .pointer (some ⟨b, oo + i * 4, none⟩)) hF rfl rfl (by kernel_rfl) (by kernel_rfl) (by kernel_rfl) (fun _ _ _ h => h) (yi_go rfl (fun W hW => by have f29 := fr_at hF 0 rfl; go_simp)) hS rfl (by decide) (fun a6 hA6 hF' => ?_)
              replace hF := hF'; clear hF'
              refine tk (i := 6) (d := 31) (v := .agg #[.bool av, .int .u64 (an : Int)]) hF rfl rfl (by kernel_rfl) (by kernel_rfl) (by kernel_rfl) (fun _ _ _ h => h) (yi_go rfl (fun W hW => by replace c0 := (hW.cell (p := ⟨b, oo + i * 4, none⟩) (World.block_lt_of_cell? _ _ c0)).trans c0; replace c1 := (hW.cell (p := ⟨b, oo + i * 4 + 1, none⟩) (World.block_lt_of_cell? _ _ c1)).trans c1; have f30 := fr_at hF 0 rfl; go_simp)) hS rfl (by decide) (fun a7 hA7 hF' => ?_)
              replace hF := hF'; clear hF'
              refine wpAnyH_ready (rs := [7]) (by kernel_rfl) (by simp) ?_
              refine AllReadyH.cons rfl (fun K hK => ?_) AllReadyH.nil
              have f25 := fr_at hF 6 rfl
              have f26 := fr_at hF 5 rfl
              have f31 := fr_at hF 0 rfl
              go_simp
              clear f25 f26 f31
              go_at_call 60
              refine (HT1.out _ hS).mono ?_
              rintro e wa ⟨rfl, hb⟩
              go_wp2_with fail
              refine hK.out _ _ (on hS hb) (fun _ => ?_)
              replace hS := on hS hb
              clear hK K
              change wpAnyH _ _ _ _ _ _ _ (a7.put (some 32) (.bool false)) _
              have hF' := fr_put hF 32 (.bool false) rfl (by decide)
              generalize hA8 : Act.put a7 (some 32) (.bool false) = a8 at hF' ⊢
              replace hF := hF'; clear hF'
              refine tk (i := 8) (d := 33) (v := .bool true) hF rfl rfl (by kernel_rfl) (by kernel_rfl) (by kernel_rfl) (fun _ _ _ h => h) (yi_go rfl (fun W hW => by have f32 := fr_at hF 0 rfl; go_simp)) hS rfl (by decide) (fun a9 hA9 hF' => ?_)
              replace hF := hF'; clear hF'
              refine tk (i := 9) (d := 34) (v := .bool true) hF rfl rfl (by kernel_rfl) (by kernel_rfl) (by kernel_rfl) (fun _ _ _ h => h) (yi_go rfl (fun W hW => ex_move W rfl (fr_at hF 0 rfl))) hS rfl (by decide) (fun a10 hA10 hF' => ?_)
              replace hF := hF'; clear hF'
              refine tk (i := 10) (d := 35) (v := undef) hF rfl rfl (by kernel_rfl) (by kernel_rfl) (by kernel_rfl) (fun _ _ _ h => h) (yi_skip rfl rfl (fr_at hF 0 rfl)) hS rfl (by decide) (fun a11 hA11 hF' => ?_)
              replace hF := hF'; clear hF'
              refine tk (i := 11) (d := 36) (v := undef) hF rfl rfl (by kernel_rfl) (by kernel_rfl) (by kernel_rfl) (fun _ _ _ h => h) (yi_skip rfl rfl (fr_at hF 1 rfl)) hS rfl (by decide) (fun a12 hA12 hF' => ?_)
              replace hF := hF'; clear hF'
              refine tk (i := 12) (d := 37) (v := undef) hF rfl rfl (by kernel_rfl) (by kernel_rfl) (by kernel_rfl) (fun _ _ _ h => h) (yi_skip rfl rfl (fr_at hF 2 rfl)) hS rfl (by decide) (fun a13 hA13 hF' => ?_)
              replace hF := hF'; clear hF'
              refine tk (i := 13) (d := 38) (v := undef) hF rfl rfl (by kernel_rfl) (by kernel_rfl) (by kernel_rfl) (fun _ _ _ h => h) (yi_skip rfl rfl (fr_at hF 3 rfl)) hS rfl (by decide) (fun a14 hA14 hF' => ?_)
              replace hF := hF'; clear hF'
              refine tk (i := 14) (d := 39) (v := undef) hF rfl rfl (by kernel_rfl) (by kernel_rfl) (by kernel_rfl) (fun _ _ _ h => h) (yi_skip rfl rfl (fr_at hF 4 rfl)) hS rfl (by decide) (fun a15 hA15 hF' => ?_)
              replace hF := hF'; clear hF'
              refine tk (i := 15) (d := 40) (v := undef) hF rfl rfl (by kernel_rfl) (by kernel_rfl) (by kernel_rfl) (fun _ _ _ h => h) (yi_skip rfl rfl (fr_at hF 5 rfl)) hS rfl (by decide) (fun a16 hA16 hF' => ?_)
              replace hF := hF'; clear hF'
              refine tk (i := 16) (d := 41) (v := undef) hF rfl rfl (by kernel_rfl) (by kernel_rfl) (by kernel_rfl) (fun _ _ _ h => h) (yi_skip rfl rfl (fr_at hF 6 rfl)) hS rfl (by decide) (fun a17 hA17 hF' => ?_)
              replace hF := hF'; clear hF'
              refine tk (i := 17) (d := 42) (v := undef) hF rfl rfl (by kernel_rfl) (by kernel_rfl) (by kernel_rfl) (fun _ _ _ h => h) (yi_skip rfl rfl (fr_at hF 7 rfl)) hS rfl (by decide) (fun a18 hA18 hF' => ?_)
              replace hF := hF'; clear hF'
              refine tk (i := 18) (d := 43) (v := undef) hF rfl rfl (by kernel_rfl) (by kernel_rfl) (by kernel_rfl) (fun _ _ _ h => h) (yi_skip rfl rfl (fr_at hF 8 rfl)) hS rfl (by decide) (fun a19 hA19 hF' => ?_)
              replace hF := hF'; clear hF'
              refine tk (i := 19) (d := 44) (v := .bool true) hF rfl rfl (by kernel_rfl) (by kernel_rfl) (by kernel_rfl) (fun _ _ _ h => h) (yi_go rfl (fun W hW => by have f34 := fr_at hF 9 rfl; have f43 := fr_at hF 0 rfl; go_simp)) hS rfl (by decide) (fun a20 hA20 hF' => ?_)
              replace hF := hF'; clear hF'
              refine wpAnyH_done (by kernel_rfl) ?_ _
              rw [← hA20, ← hA19, ← hA18, ← hA17, ← hA16, ← hA15, ← hA14, ← hA13, ← hA12, ← hA11, ← hA10, ← hA9, ← hA8, ← hA7, ← hA6, ← hA5, ← hA4, ← hA3, ← hA2, ← hA1, ← hA0]
              simp only [Act.put, List.setIfInBounds_toArray, List.set_cons_zero, List.set_cons_succ]
              clear hF
              have HBx := Lib.hid (on HBw.out hS)
              clear hS
              go_wp2_with fail
              go_ret
              exact ⟨by rw [HR.out]; rfl, HBx.out⟩
            | true =>
              cases q2 with
              | false =>
                have HR := Lib.hid (HNI.out (by rw [HO.out]; rfl))
                go_upto_region 6 with fail
                refine wp_region_held (S := fun W => Below wr.heap.size wr W) (by kernel_rfl) ?_
                generalize hA0 : Act.mk _ _ = a0
                have hF := Fr.nil (n := 45) (a := a0) (by rw [← hA0]; rfl)
                replace hF := Fr.cons hF 7 (.int .i64 (i : Int)) (by rw [← hA0]; rfl)
                replace hF := Fr.cons hF 3 (.pointer (some ⟨BZ, 0, none⟩)) (by rw [← hA0]; rfl)
                replace hF := Fr.cons hF 2 (.slice (some ⟨b, oo, none⟩) m c2) (by rw [← hA0]; rfl)
                replace hF := Fr.cons hF 1 (.int .i64 (N : Int)) (by rw [← hA0]; rfl)
                have hS : Below wr.heap.size wr (World.drew _) := (Below.refl _ wr).drew
                change wpAnyH _ _ _ _ _ _ _ _ (World.drew _)
                refine tk (i := 0) (d := 25) (v := .agg #[.int .i64 o, .slice A n' c, .int .i64 y]) hF rfl rfl (by kernel_rfl) (by kernel_rfl) (by kernel_rfl) (fun _ _ _ h => h) (yi_go rfl (fun W hW => by replace hz0 := (hW.cell (p := ⟨BZ, 0, none⟩) (World.block_lt_of_cell? _ _ hz0)).trans hz0; replace hz1 := (hW.cell (p := ⟨BZ, 1, none⟩) (World.block_lt_of_cell? _ _ hz1)).trans hz1; replace hz2 := (hW.cell (p := ⟨BZ, 2, none⟩) (World.block_lt_of_cell? _ _ hz2)).trans hz2; have f3 := fr_at hF 2 rfl; go_simp)) hS rfl (by decide) (fun a1 hA1 hF' => ?_)
                replace hF := hF'; clear hF'
                refine tk (i := 1) (d := 26) (v := .int .i64 (N : Int)) hF rfl rfl (by kernel_rfl) (by kernel_rfl) (by kernel_rfl) (fun _ _ _ h => h) (yi_go rfl (fun W hW => ex_move W rfl (fr_at hF 1 rfl))) hS rfl (by decide) (fun a2 hA2 hF' => ?_)
                replace hF := hF'; clear hF'
                refine tk (i := 2) (d := 27) (v := .slice (some ⟨b, oo, none⟩) m c2) hF rfl rfl (by kernel_rfl) (by kernel_rfl) (by kernel_rfl) (fun _ _ _ h => h) (yi_go rfl (fun W hW => ex_move W rfl (fr_at hF 3 rfl))) hS rfl (by decide) (fun a3 hA3 hF' => ?_)
                replace hF := hF'; clear hF'
                refine tk (i := 3) (d := 28) (v := .int .i64 (i : Int)) hF rfl rfl (by kernel_rfl) (by kernel_rfl) (by kernel_rfl) (fun _ _ _ h => h) (yi_go rfl (fun W hW => ex_move W rfl (fr_at hF 6 rfl))) hS rfl (by decide) (fun a4 hA4 hF' => ?_)
                replace hF := hF'; clear hF'
                refine tk (i := 4) (d := 29) (v := .pointer (some ⟨b, oo + i * 4, none⟩)) hF rfl rfl (by kernel_rfl) (by kernel_rfl) (by kernel_rfl) (fun _ _ _ h => h) (yi_go rfl (fun W hW => by have f27 := fr_at hF 1 rfl; have f28 := fr_at hF 0 rfl; go_simp)) hS rfl (by decide) (fun a5 hA5 hF' => ?_)
                replace hF := hF'; clear hF'
                refine tk (i := 5) (d := 30) (v := .pointer (some ⟨b, oo + i * 4, none⟩)) hF rfl rfl (by kernel_rfl) (by kernel_rfl) (by kernel_rfl) (fun _ _ _ h => h) (yi_go rfl (fun W hW => by have f29 := fr_at hF 0 rfl; go_simp)) hS rfl (by decide) (fun a6 hA6 hF' => ?_)
                replace hF := hF'; clear hF'
                refine tk (i := 6) (d := 31) (v := .agg #[.bool av, .int .u64 (an : Int)]) hF rfl rfl (by kernel_rfl) (by kernel_rfl) (by kernel_rfl) (fun _ _ _ h => h) (yi_go rfl (fun W hW => by replace c0 := (hW.cell (p := ⟨b, oo + i * 4, none⟩) (World.block_lt_of_cell? _ _ c0)).trans c0; replace c1 := (hW.cell (p := ⟨b, oo + i * 4 + 1, none⟩) (World.block_lt_of_cell? _ _ c1)).trans c1; have f30 := fr_at hF 0 rfl; go_simp)) hS rfl (by decide) (fun a7 hA7 hF' => ?_)
                replace hF := hF'; clear hF'
                refine wpAnyH_ready (rs := [7]) (by kernel_rfl) (by simp) ?_
                refine AllReadyH.cons rfl (fun K hK => ?_) AllReadyH.nil
                have f25 := fr_at hF 6 rfl
                have f26 := fr_at hF 5 rfl
                have f31 := fr_at hF 0 rfl
                go_simp
                clear f25 f26 f31
                go_at_call 60
                refine (HT1.out _ hS).mono ?_
                rintro e wa ⟨rfl, hb⟩
                go_wp2_with fail
                refine hK.out _ _ (on hS hb) (fun _ => ?_)
                replace hS := on hS hb
                clear hK K
                change wpAnyH _ _ _ _ _ _ _ (a7.put (some 32) (.bool true)) _
                have hF' := fr_put hF 32 (.bool true) rfl (by decide)
                generalize hA8 : Act.put a7 (some 32) (.bool true) = a8 at hF' ⊢
                replace hF := hF'; clear hF'
                refine tk (i := 8) (d := 33) (v := .bool false) hF rfl rfl (by kernel_rfl) (by kernel_rfl) (by kernel_rfl) (fun _ _ _ h => h) (yi_go rfl (fun W hW => by have f32 := fr_at hF 0 rfl; go_simp)) hS rfl (by decide) (fun a9 hA9 hF' => ?_)
                replace hF := hF'; clear hF'
                refine tk (i := 9) (d := 34) (v := .bool false) hF rfl rfl (by kernel_rfl) (by kernel_rfl) (by kernel_rfl) (fun _ _ _ h => h) (yi_go rfl (fun W hW => ex_move W rfl (fr_at hF 0 rfl))) hS rfl (by decide) (fun a10 hA10 hF' => ?_)
                replace hF := hF'; clear hF'
                refine tk (i := 10) (d := 35) (v := .agg #[.int .i64 o, .slice A n' c, .int .i64 y]) hF rfl rfl (by kernel_rfl) (by kernel_rfl) (by kernel_rfl) (fun _ _ _ h => h) (yi_want rfl rfl (fr_at hF 0 rfl) (fun W hW => by replace hz0 := (hW.cell (p := ⟨BZ, 0, none⟩) (World.block_lt_of_cell? _ _ hz0)).trans hz0; replace hz1 := (hW.cell (p := ⟨BZ, 1, none⟩) (World.block_lt_of_cell? _ _ hz1)).trans hz1; replace hz2 := (hW.cell (p := ⟨BZ, 2, none⟩) (World.block_lt_of_cell? _ _ hz2)).trans hz2; have f3 := fr_at hF 12 rfl; go_simp)) hS rfl (by decide) (fun a11 hA11 hF' => ?_)
                replace hF := hF'; clear hF'
                refine tk (i := 11) (d := 36) (v := .int .i64 (N : Int)) hF rfl rfl (by kernel_rfl) (by kernel_rfl) (by kernel_rfl) (fun _ _ _ h => h) (yi_want rfl rfl (fr_at hF 1 rfl) (fun W hW => ex_move W rfl (fr_at hF 11 rfl))) hS rfl (by decide) (fun a12 hA12 hF' => ?_)
                replace hF := hF'; clear hF'
                refine tk (i := 12) (d := 37) (v := .slice (some ⟨b, oo, none⟩) m c2) hF rfl rfl (by kernel_rfl) (by kernel_rfl) (by kernel_rfl) (fun _ _ _ h => h) (yi_want rfl rfl (fr_at hF 2 rfl) (fun W hW => ex_move W rfl (fr_at hF 13 rfl))) hS rfl (by decide) (fun a13 hA13 hF' => ?_)
                replace hF := hF'; clear hF'
                refine tk (i := 13) (d := 38) (v := .int .i64 (i : Int)) hF rfl rfl (by kernel_rfl) (by kernel_rfl) (by kernel_rfl) (fun _ _ _ h => h) (yi_want rfl rfl (fr_at hF 3 rfl) (fun W hW => ex_move W rfl (fr_at hF 16 rfl))) hS rfl (by decide) (fun a14 hA14 hF' => ?_)
                replace hF := hF'; clear hF'
                refine tk (i := 14) (d := 39) (v := .pointer (some ⟨b, oo + i * 4, none⟩)) hF rfl rfl (by kernel_rfl) (by kernel_rfl) (by kernel_rfl) (fun _ _ _ h => h) (yi_want rfl rfl (fr_at hF 4 rfl) (fun W hW => by have f37 := fr_at hF 1 rfl; have f38 := fr_at hF 0 rfl; go_simp)) hS rfl (by decide) (fun a15 hA15 hF' => ?_)
                replace hF := hF'; clear hF'
                refine tk (i := 15) (d := 40) (v := .pointer (some ⟨b, oo + i * 4 + 2, none⟩)) hF rfl rfl (by kernel_rfl) (by kernel_rfl) (by kernel_rfl) (fun _ _ _ h => h) (yi_want rfl rfl (fr_at hF 5 rfl) (fun W hW => by have f39 := fr_at hF 0 rfl; go_simp)) hS rfl (by decide) (fun a16 hA16 hF' => ?_)
                replace hF := hF'; clear hF'
                refine tk (i := 16) (d := 41) (v := .agg #[.bool bv, .int .u64 (bn : Int)]) hF rfl rfl (by kernel_rfl) (by kernel_rfl) (by kernel_rfl) (fun _ _ _ h => h) (yi_want rfl rfl (fr_at hF 6 rfl) (fun W hW => by replace c2' := (hW.cell (p := ⟨b, oo + i * 4 + 2, none⟩) (World.block_lt_of_cell? _ _ c2')).trans c2'; replace c3 := (hW.cell (p := ⟨b, oo + i * 4 + 3, none⟩) (World.block_lt_of_cell? _ _ c3)).trans c3; have f40 := fr_at hF 0 rfl; go_simp)) hS rfl (by decide) (fun a17 hA17 hF' => ?_)
                replace hF := hF'; clear hF'
                refine wpAnyH_ready (rs := [17]) (by kernel_rfl) (by simp) ?_
                refine AllReadyH.cons rfl (fun K hK => ?_) AllReadyH.nil
                rw [if_pos (by rw [guard_at rfl rfl (fr_at hF 7 rfl)]; rfl)]
                have f35 := fr_at hF 6 rfl
                have f36 := fr_at hF 5 rfl
                have f41 := fr_at hF 0 rfl
                go_simp
                clear f35 f36 f41
                go_at_call 60
                refine (HT2.out _ hS).mono ?_
                rintro e wb ⟨rfl, hb⟩
                go_wp2_with fail
                refine hK.out _ _ (on hS hb) (fun _ => ?_)
                replace hS := on hS hb
                clear hK K
                change wpAnyH _ _ _ _ _ _ _ (a17.put (some 42) (.bool false)) _
                have hF' := fr_put hF 42 (.bool false) rfl (by decide)
                generalize hA18 : Act.put a17 (some 42) (.bool false) = a18 at hF' ⊢
                replace hF := hF'; clear hF'
                refine tk (i := 18) (d := 43) (v := .bool true) hF rfl rfl (by kernel_rfl) (by kernel_rfl) (by kernel_rfl) (fun _ _ _ h => h) (yi_want rfl rfl (fr_at hF 8 rfl) (fun W hW => by have f42 := fr_at hF 0 rfl; go_simp)) hS rfl (by decide) (fun a19 hA19 hF' => ?_)
                replace hF := hF'; clear hF'
                refine tk (i := 19) (d := 44) (v := .bool true) hF rfl rfl (by kernel_rfl) (by kernel_rfl) (by kernel_rfl) (fun _ _ _ h => h) (yi_go rfl (fun W hW => by have f34 := fr_at hF 9 rfl; have f43 := fr_at hF 0 rfl; go_simp)) hS rfl (by decide) (fun a20 hA20 hF' => ?_)
                replace hF := hF'; clear hF'
                refine wpAnyH_done (by kernel_rfl) ?_ _
                rw [← hA20, ← hA19, ← hA18, ← hA17, ← hA16, ← hA15, ← hA14, ← hA13, ← hA12, ← hA11, ← hA10, ← hA9, ← hA8, ← hA7, ← hA6, ← hA5, ← hA4, ← hA3, ← hA2, ← hA1, ← hA0]
                simp only [Act.put, List.setIfInBounds_toArray, List.set_cons_zero, List.set_cons_succ]
                clear hF
                have HBx := Lib.hid (on HBw.out hS)
                clear hS
                go_wp2_with fail
                go_ret
                exact ⟨by rw [HR.out]; rfl, HBx.out⟩
              | true =>
                have HR := Lib.hid (HST.out (by rw [HO.out]; rfl))
                go_upto_region 6 with fail
                refine wp_region_held (S := fun W => Below wr.heap.size wr W) (by kernel_rfl) ?_
                generalize hA0 : Act.mk _ _ = a0
                have hF := Fr.nil (n := 45) (a := a0) (by rw [← hA0]; rfl)
                replace hF := Fr.cons hF 7 (.int .i64 (i : Int)) (by rw [← hA0]; rfl)
                replace hF := Fr.cons hF 3 (.pointer (some ⟨BZ, 0, none⟩)) (by rw [← hA0]; rfl)
                replace hF := Fr.cons hF 2 (.slice (some ⟨b, oo, none⟩) m c2) (by rw [← hA0]; rfl)
                replace hF := Fr.cons hF 1 (.int .i64 (N : Int)) (by rw [← hA0]; rfl)
                have hS : Below wr.heap.size wr (World.drew _) := (Below.refl _ wr).drew
                change wpAnyH _ _ _ _ _ _ _ _ (World.drew _)
                refine tk (i := 0) (d := 25) (v := .agg #[.int .i64 o, .slice A n' c, .int .i64 y]) hF rfl rfl (by kernel_rfl) (by kernel_rfl) (by kernel_rfl) (fun _ _ _ h => h) (yi_go rfl (fun W hW => by replace hz0 := (hW.cell (p := ⟨BZ, 0, none⟩) (World.block_lt_of_cell? _ _ hz0)).trans hz0; replace hz1 := (hW.cell (p := ⟨BZ, 1, none⟩) (World.block_lt_of_cell? _ _ hz1)).trans hz1; replace hz2 := (hW.cell (p := ⟨BZ, 2, none⟩) (World.block_lt_of_cell? _ _ hz2)).trans hz2; have f3 := fr_at hF 2 rfl; go_simp)) hS rfl (by decide) (fun a1 hA1 hF' => ?_)
                replace hF := hF'; clear hF'
                refine tk (i := 1) (d := 26) (v := .int .i64 (N : Int)) hF rfl rfl (by kernel_rfl) (by kernel_rfl) (by kernel_rfl) (fun _ _ _ h => h) (yi_go rfl (fun W hW => ex_move W rfl (fr_at hF 1 rfl))) hS rfl (by decide) (fun a2 hA2 hF' => ?_)
                replace hF := hF'; clear hF'
                refine tk (i := 2) (d := 27) (v := .slice (some ⟨b, oo, none⟩) m c2) hF rfl rfl (by kernel_rfl) (by kernel_rfl) (by kernel_rfl) (fun _ _ _ h => h) (yi_go rfl (fun W hW => ex_move W rfl (fr_at hF 3 rfl))) hS rfl (by decide) (fun a3 hA3 hF' => ?_)
                replace hF := hF'; clear hF'
                refine tk (i := 3) (d := 28) (v := .int .i64 (i : Int)) hF rfl rfl (by kernel_rfl) (by kernel_rfl) (by kernel_rfl) (fun _ _ _ h => h) (yi_go rfl (fun W hW => ex_move W rfl (fr_at hF 6 rfl))) hS rfl (by decide) (fun a4 hA4 hF' => ?_)
                replace hF := hF'; clear hF'
                refine tk (i := 4) (d := 29) (v := .pointer (some ⟨b, oo + i * 4, none⟩)) hF rfl rfl (by kernel_rfl) (by kernel_rfl) (by kernel_rfl) (fun _ _ _ h => h) (yi_go rfl (fun W hW => by have f27 := fr_at hF 1 rfl; have f28 := fr_at hF 0 rfl; go_simp)) hS rfl (by decide) (fun a5 hA5 hF' => ?_)
                replace hF := hF'; clear hF'
                refine tk (i := 5) (d := 30) (v := .pointer (some ⟨b, oo + i * 4, none⟩)) hF rfl rfl (by kernel_rfl) (by kernel_rfl) (by kernel_rfl) (fun _ _ _ h => h) (yi_go rfl (fun W hW => by have f29 := fr_at hF 0 rfl; go_simp)) hS rfl (by decide) (fun a6 hA6 hF' => ?_)
                replace hF := hF'; clear hF'
                refine tk (i := 6) (d := 31) (v := .agg #[.bool av, .int .u64 (an : Int)]) hF rfl rfl (by kernel_rfl) (by kernel_rfl) (by kernel_rfl) (fun _ _ _ h => h) (yi_go rfl (fun W hW => by replace c0 := (hW.cell (p := ⟨b, oo + i * 4, none⟩) (World.block_lt_of_cell? _ _ c0)).trans c0; replace c1 := (hW.cell (p := ⟨b, oo + i * 4 + 1, none⟩) (World.block_lt_of_cell? _ _ c1)).trans c1; have f30 := fr_at hF 0 rfl; go_simp)) hS rfl (by decide) (fun a7 hA7 hF' => ?_)
                replace hF := hF'; clear hF'
                refine wpAnyH_ready (rs := [7]) (by kernel_rfl) (by simp) ?_
                refine AllReadyH.cons rfl (fun K hK => ?_) AllReadyH.nil
                have f25 := fr_at hF 6 rfl
                have f26 := fr_at hF 5 rfl
                have f31 := fr_at hF 0 rfl
                go_simp
                clear f25 f26 f31
                go_at_call 60
                refine (HT1.out _ hS).mono ?_
                rintro e wa ⟨rfl, hb⟩
                go_wp2_with fail
                refine hK.out _ _ (on hS hb) (fun _ => ?_)
                replace hS := on hS hb
                clear hK K
                change wpAnyH _ _ _ _ _ _ _ (a7.put (some 32) (.bool true)) _
                have hF' := fr_put hF 32 (.bool true) rfl (by decide)
                generalize hA8 : Act.put a7 (some 32) (.bool true) = a8 at hF' ⊢
                replace hF := hF'; clear hF'
                refine tk (i := 8) (d := 33) (v := .bool false) hF rfl rfl (by kernel_rfl) (by kernel_rfl) (by kernel_rfl) (fun _ _ _ h => h) (yi_go rfl (fun W hW => by have f32 := fr_at hF 0 rfl; go_simp)) hS rfl (by decide) (fun a9 hA9 hF' => ?_)
                replace hF := hF'; clear hF'
                refine tk (i := 9) (d := 34) (v := .bool false) hF rfl rfl (by kernel_rfl) (by kernel_rfl) (by kernel_rfl) (fun _ _ _ h => h) (yi_go rfl (fun W hW => ex_move W rfl (fr_at hF 0 rfl))) hS rfl (by decide) (fun a10 hA10 hF' => ?_)
                replace hF := hF'; clear hF'
                refine tk (i := 10) (d := 35) (v := .agg #[.int .i64 o, .slice A n' c, .int .i64 y]) hF rfl rfl (by kernel_rfl) (by kernel_rfl) (by kernel_rfl) (fun _ _ _ h => h) (yi_want rfl rfl (fr_at hF 0 rfl) (fun W hW => by replace hz0 := (hW.cell (p := ⟨BZ, 0, none⟩) (World.block_lt_of_cell? _ _ hz0)).trans hz0; replace hz1 := (hW.cell (p := ⟨BZ, 1, none⟩) (World.block_lt_of_cell? _ _ hz1)).trans hz1; replace hz2 := (hW.cell (p := ⟨BZ, 2, none⟩) (World.block_lt_of_cell? _ _ hz2)).trans hz2; have f3 := fr_at hF 12 rfl; go_simp)) hS rfl (by decide) (fun a11 hA11 hF' => ?_)
                replace hF := hF'; clear hF'
                refine tk (i := 11) (d := 36) (v := .int .i64 (N : Int)) hF rfl rfl (by kernel_rfl) (by kernel_rfl) (by kernel_rfl) (fun _ _ _ h => h) (yi_want rfl rfl (fr_at hF 1 rfl) (fun W hW => ex_move W rfl (fr_at hF 11 rfl))) hS rfl (by decide) (fun a12 hA12 hF' => ?_)
                replace hF := hF'; clear hF'
                refine tk (i := 12) (d := 37) (v := .slice (some ⟨b, oo, none⟩) m c2) hF rfl rfl (by kernel_rfl) (by kernel_rfl) (by kernel_rfl) (fun _ _ _ h => h) (yi_want rfl rfl (fr_at hF 2 rfl) (fun W hW => ex_move W rfl (fr_at hF 13 rfl))) hS rfl (by decide) (fun a13 hA13 hF' => ?_)
                replace hF := hF'; clear hF'
                refine tk (i := 13) (d := 38) (v := .int .i64 (i : Int)) hF rfl rfl (by kernel_rfl) (by kernel_rfl) (by kernel_rfl) (fun _ _ _ h => h) (yi_want rfl rfl (fr_at hF 3 rfl) (fun W hW => ex_move W rfl (fr_at hF 16 rfl))) hS rfl (by decide) (fun a14 hA14 hF' => ?_)
                replace hF := hF'; clear hF'
                refine tk (i := 14) (d := 39) (v := .pointer (some ⟨b, oo + i * 4, none⟩)) hF rfl rfl (by kernel_rfl) (by kernel_rfl) (by kernel_rfl) (fun _ _ _ h => h) (yi_want rfl rfl (fr_at hF 4 rfl) (fun W hW => by have f37 := fr_at hF 1 rfl; have f38 := fr_at hF 0 rfl; go_simp)) hS rfl (by decide) (fun a15 hA15 hF' => ?_)
                replace hF := hF'; clear hF'
                refine tk (i := 15) (d := 40) (v := .pointer (some ⟨b, oo + i * 4 + 2, none⟩)) hF rfl rfl (by kernel_rfl) (by kernel_rfl) (by kernel_rfl) (fun _ _ _ h => h) (yi_want rfl rfl (fr_at hF 5 rfl) (fun W hW => by have f39 := fr_at hF 0 rfl; go_simp)) hS rfl (by decide) (fun a16 hA16 hF' => ?_)
                replace hF := hF'; clear hF'
                refine tk (i := 16) (d := 41) (v := .agg #[.bool bv, .int .u64 (bn : Int)]) hF rfl rfl (by kernel_rfl) (by kernel_rfl) (by kernel_rfl) (fun _ _ _ h => h) (yi_want rfl rfl (fr_at hF 6 rfl) (fun W hW => by replace c2' := (hW.cell (p := ⟨b, oo + i * 4 + 2, none⟩) (World.block_lt_of_cell? _ _ c2')).trans c2'; replace c3 := (hW.cell (p := ⟨b, oo + i * 4 + 3, none⟩) (World.block_lt_of_cell? _ _ c3)).trans c3; have f40 := fr_at hF 0 rfl; go_simp)) hS rfl (by decide) (fun a17 hA17 hF' => ?_)
                replace hF := hF'; clear hF'
                refine wpAnyH_ready (rs := [17]) (by kernel_rfl) (by simp) ?_
                refine AllReadyH.cons rfl (fun K hK => ?_) AllReadyH.nil
                rw [if_pos (by rw [guard_at rfl rfl (fr_at hF 7 rfl)]; rfl)]
                have f35 := fr_at hF 6 rfl
                have f36 := fr_at hF 5 rfl
                have f41 := fr_at hF 0 rfl
                go_simp
                clear f35 f36 f41
                go_at_call 60
                refine (HT2.out _ hS).mono ?_
                rintro e wb ⟨rfl, hb⟩
                go_wp2_with fail
                refine hK.out _ _ (on hS hb) (fun _ => ?_)
                replace hS := on hS hb
                clear hK K
                change wpAnyH _ _ _ _ _ _ _ (a17.put (some 42) (.bool true)) _
                have hF' := fr_put hF 42 (.bool true) rfl (by decide)
                generalize hA18 : Act.put a17 (some 42) (.bool true) = a18 at hF' ⊢
                replace hF := hF'; clear hF'
                refine tk (i := 18) (d := 43) (v := .bool false) hF rfl rfl (by kernel_rfl) (by kernel_rfl) (by kernel_rfl) (fun _ _ _ h => h) (yi_want rfl rfl (fr_at hF 8 rfl) (fun W hW => by have f42 := fr_at hF 0 rfl; go_simp)) hS rfl (by decide) (fun a19 hA19 hF' => ?_)
                replace hF := hF'; clear hF'
                refine tk (i := 19) (d := 44) (v := .bool false) hF rfl rfl (by kernel_rfl) (by kernel_rfl) (by kernel_rfl) (fun _ _ _ h => h) (yi_go rfl (fun W hW => by have f34 := fr_at hF 9 rfl; have f43 := fr_at hF 0 rfl; go_simp)) hS rfl (by decide) (fun a20 hA20 hF' => ?_)
                replace hF := hF'; clear hF'
                refine wpAnyH_done (by kernel_rfl) ?_ _
                rw [← hA20, ← hA19, ← hA18, ← hA17, ← hA16, ← hA15, ← hA14, ← hA13, ← hA12, ← hA11, ← hA10, ← hA9, ← hA8, ← hA7, ← hA6, ← hA5, ← hA4, ← hA3, ← hA2, ← hA1, ← hA0]
                simp only [Act.put, List.setIfInBounds_toArray, List.set_cons_zero, List.set_cons_succ]
                clear hF
                have HBx := Lib.hid (on HB.out hS)
                clear hS
                go_wp2_with fail
                go_roundw
                case rel => exact ⟨i + 1, by omega, by go_num, HR.out, HBx.out⟩
                case measure => simp [intOf]; omega
          · obtain rfl : i = m := by omega
            have HR := Lib.hid (HYE.out (fun j hj => HH.out j hj (by rw [HM.out]; exact hj)))
            have HBw := Lib.hid (on HB0.out HB.out)
            go_wp2_with fail
            go_ret
            exact ⟨by rw [HR.out]; rfl, HBw.out⟩
end Go.Proofs.YtajilghlcfheiaaGreatDoor.Bnd
