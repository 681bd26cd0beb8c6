/- BoundsMore: the walk. -/
import Derived.Test.YtappaokjlnpbnaaDoorSix
import Derived.Test.YtappaokjlnpbnaaDoorAns
import Derived.Test.YtappaokjlnpbnaaDoorRea
namespace Go.Proofs.YtappaokjlnpbnaaDoor
open Go.RowKit Go.Proofs.YtappaokjlnpbnaaDoorW.PrintWords
set_option linter.unusedVariables false
theorem four_below {w w' : World} {B : Nat} {a b c d : Value} (h : w.cell? ⟨B, 0, none⟩ = some a ∧ w.cell? ⟨B, 1, none⟩ = some b ∧ w.cell? ⟨B, 2, none⟩ = some c ∧ w.cell? ⟨B, 3, none⟩ = some d) (hb : Below w.heap.size w w') : w'.cell? ⟨B, 0, none⟩ = some a ∧ w'.cell? ⟨B, 1, none⟩ = some b ∧ w'.cell? ⟨B, 2, none⟩ = some c ∧ w'.cell? ⟨B, 3, none⟩ = some d :=
  ⟨cell_below h.1 hb, cell_below h.2.1 hb, cell_below h.2.2.1 hb, cell_below h.2.2.2 hb⟩
/-- with a bound more, least values are above, greatest ones below. -/
theorem ans_more {S : SI} {vars : Int} {L : List Rea.Bd} {b : Rea.Bd} {xs ys xs' ys' : List Nat} {e e' : Nat} (h : Ans2 S vars L xs ys e) (h' : Ans2 S vars (L ++ [b]) xs' ys' e') (h0 : e' = 0) :
    e = 0 ∧ xs.length = xs'.length ∧ (∀ i (h1 : i < xs.length) (h2 : i < xs'.length), S.below xs[i] xs'[i] = true) ∧ ∀ i (h1 : i < ys'.length) (h2 : i < ys.length), S.below ys'[i] ys[i] = true := by
  rcases h' with ⟨k1, _⟩ | ⟨_, k1, f', g', hf', hg', rfl, rfl⟩
  · exact absurd h0 k1
  · have sub : ∀ k, Sol S vars.toNat (L ++ [b]) k → Sol S vars.toNat L k := fun k hk => ⟨hk.1, fun c hc => hk.2 c (List.mem_append.2 (.inl hc))⟩
    have hc : chkF S vars L = 0 := by
      obtain ⟨c1, c2, c3, c4⟩ := chk_vars k1
      rw [List.length_append] at c3
      exact chk_zero.2 ⟨c1, c2, by omega, fun c hc => c4 c (List.mem_append.2 (.inl hc))⟩
    rcases h with ⟨j1, _, _, _, j2⟩ | ⟨rfl, _, f, g, hf, hg, rfl, rfl⟩
    · exact absurd ⟨f', sub _ hf'.1⟩ (j2 hc)
    · refine ⟨rfl, by rw [lst_length, lst_length], fun i h1 h2 => ?_, fun i h1 h2 => ?_⟩
      · rw [lst_length] at h1
        simpa [lst] using hf.2 _ (sub _ hf'.1) i h1
      · rw [lst_length] at h1
        simpa [lst] using hg.2 _ (sub _ hg'.1) i h1
theorem ans_vars {S : SI} {vars : Int} {L : List Rea.Bd} {xs ys : List Nat} {e : Nat} (h : Ans2 S vars L xs ys e) (h0 : e = 0) : 0 ≤ vars ∧ vars ≤ 64 ∧ xs.length = vars.toNat := by
  rcases h with ⟨k1, _⟩ | ⟨_, k1, f', g', hf', hg', rfl, rfl⟩
  · exact absurd h0 k1
  · obtain ⟨c1, c2, _⟩ := chk_vars k1
    exact ⟨c1, c2, lst_length _ _⟩
set_option maxRecDepth 100000 in
set_option maxHeartbeats 16000000 in
theorem more_in (A1 : Option Addr) (n1 c1 : Nat) (rows : List Nat) (s : Bool) (ef vr : Int) (A2 : Option Addr) (m c2 : Nat) (L : List Rea.Bd) (A3 : Option Addr) (k c3 : Nat) (vals : List Nat) (av : Bool) (an : Nat) (bv : Bool) (bn : Nat) (l1 : an < 18446744073709551616) (l2 : bn < 18446744073709551616)
    (h1 : n1 = rows.length) (hm1 : n1 ≤ 9223372036854775807) (h2 : m = L.length) (hm2 : m ≤ 9223372036854775807) (hcm : m ≤ c2) (h3 : k = vals.length) (hm3 : k ≤ c3) (hc3 : c3 ≤ 9223372036854775807) (w : World) (hR : Nums w A1 rows) (hL : Rea.Bds w A2 L) (hV : Nums w A3 vals) (hT : Tab w) :
    Calls Tryd.prog 11 #[.agg #[.slice A1 n1 c1, .bool s, .int .i64 ef, .int .i64 vr, .slice A2 m c2, .slice A3 k c3], .agg #[.bool av, .int .u64 (an : Int), .bool bv, .int .u64 (bn : Int)]] w fun e w' => e = .returned (.bool true) ∧ Below w.heap.size w w' := by
  have HR := Lib.hid hR
  have HL := Lib.hid hL
  have HV := Lib.hid hV
  have HT := Lib.hid hT
  have H1 := Lib.hid h1
  have H2 := Lib.hid h2
  have H3 := Lib.hid h3
  clear hR hL hV hT h1 h2 h3
  obtain ⟨wa, hwa⟩ : ∃ wa, wa = w.alloc (.cells #[.slice A1 n1 c1, .bool s, .int .i64 ef, .int .i64 vr, .slice A2 m c2, .slice A3 k c3] 53) := ⟨_, rfl⟩
  have hwas : wa.heap.size = w.heap.size + 1 := by rw [hwa]; simp
  have HZ0 := Lib.hid (six_cells w (.slice A1 n1 c1) (.bool s) (.int .i64 ef) (.int .i64 vr) (.slice A2 m c2) (.slice A3 k c3) 53)
  have HBA := Lib.hid (lit_below w (.cells #[.slice A1 n1 c1, .bool s, .int .i64 ef, .int .i64 vr, .slice A2 m c2, .slice A3 k c3] 53))
  rw [← hwa] at HZ0 HBA
  have HY := Lib.hid (four_cells wa (.bool av) (.int .u64 (an : Int)) (.bool bv) (.int .u64 (bn : Int)) 72)
  have HB0 := Lib.hid (on HBA.out (lit_below wa (.cells #[.bool av, .int .u64 (an : Int), .bool bv, .int .u64 (bn : Int)] 72)))
  have HZ := Lib.hid (six_on HZ0.out (lit_below wa (.cells #[.bool av, .int .u64 (an : Int), .bool bv, .int .u64 (bn : Int)] 72)))
  rw [hwas] at HY
  rw [hwa] at HZ HY HB0
  clear hwas HZ0 HBA hwa
  obtain ⟨z0, z1, z2, z3, z4, z5⟩ := HZ.out
  obtain ⟨y0, y1, y2, y3⟩ := HY.out
  have HGR := Lib.hid (fun W => great_any A1 n1 c1 s ef vr A2 m c2 A3 k c3 W)
  have HSO := Lib.hid (fun W (h : Below w.heap.size w W) => sort_any A1 n1 c1 s ef vr A2 m c2 A3 k c3 rows H1.out hm1 W (HR.out.below h) (HT.out.below h))
  generalize greatB n1 m k = gr at HGR
  go_enter Tryd.func11, Tryd.ntmps11
  go_wp2_with fail
  obtain ⟨BY, hBY⟩ : ∃ B, B = w.heap.size + 1 := ⟨_, rfl⟩
  rw [← hBY] at HY ⊢
  obtain ⟨BZ, hBZ⟩ : ∃ B, B = w.heap.size := ⟨_, rfl⟩
  rw [← hBZ] at HZ ⊢
  clear hBZ hBY z0 z1 z2 z3 z4 z5 y0 y1 y2 y3 wa
  generalize hw1 : (w.alloc _).alloc _ = w1 at *
  clear hw1
  refine (HGR.out _).mono ?_
  rintro e w2 ⟨rfl, hb⟩
  obtain ⟨z0, z1, z2, z3, z4, z5⟩ := six_on HZ.out hb
  replace HZ := Lib.hid (six_on HZ.out hb)
  replace HY := Lib.hid (four_below HY.out hb)
  have HB2 := Lib.hid (on HB0.out hb)
  clear hb HB0 HGR
  cases gr with
  | true =>
    go_wp2_with fail
    refine (alive10_any _ (HT.out.below HB2.out)).mono ?_
    rintro e wz ⟨rfl, hb⟩
    have HBz := Lib.hid (on HB2.out hb)
    clear hb
    go_wp2_with fail
    go_ret
    exact ⟨rfl, HBz.out⟩
  | false =>
    by_cases h255 : 255 < m
    · have d2 : decide (255 < (m : Int)) = true := by simp; omega
      have d3 : decide (255 < m) = true := by simp; omega
      clear h255
      go_wp2_with fail
      refine (alive10_any _ (HT.out.below HB2.out)).mono ?_
      rintro e wz ⟨rfl, hb⟩
      have HBz := Lib.hid (on HB2.out hb)
      clear hb
      go_wp2_with fail
      go_ret
      exact ⟨rfl, HBz.out⟩
    · have d2 : decide (255 < (m : Int)) = false := by simp; omega
      have d3 : decide (255 < m) = false := by simp; omega
      go_wp2_with fail
      refine (HSO.out _ HB2.out).mono ?_
      rintro e w3 ⟨⟨v, rfl, hv, hs⟩, hb⟩
      obtain ⟨z0, z1, z2, z3, z4, z5⟩ := six_on HZ.out hb
      replace HZ := Lib.hid (six_on HZ.out hb)
      replace HY := Lib.hid (four_below HY.out hb)
      have HB3 := Lib.hid (on HB2.out hb)
      have HL3 := Lib.hid (HL.out.below HB3.out)
      generalize sortS rows s ef = S at hs
      have HS := Lib.hid hs
      obtain ⟨t, pv, rfl, hsc, hfn⟩ := hs
      clear hb hv hsc hfn HSO HB2
      go_wp2_with fail
      refine (solve_ans (.iface t pv) S HS.out.fn vr A2 m c2 L H2.out _ HS.out.n HL3.out).mono ?_
      rintro e wr ⟨hb, A, B, ca, xs, ys, e1, rfl, hans, hc1, hc2, hc64, hn1, hn2⟩
      obtain ⟨z0, z1, z2, z3, z4, z5⟩ := six_on HZ.out hb
      replace HZ := Lib.hid (six_on HZ.out hb)
      replace HY := Lib.hid (four_below HY.out hb)
      obtain ⟨y0, y1, y2, y3⟩ := HY.out
      have HB4 := Lib.hid (on HB3.out hb)
      have HS4 := Lib.hid (HS.out.below hb)
      have HLr := Lib.hid (HL3.out.below hb)
      have HA1 := Lib.hid hans
      have HC1 := Lib.hid hc1
      have HC2 := Lib.hid hc2
      have HN1 := Lib.hid hn1
      have HN2 := Lib.hid hn2
      clear hb hans hc1 hc2 hn1 hn2 HB3 HL3
      go_wp2_with fail
      refine wp_region_held (S := fun W => Below wr.heap.size wr W) (by kernel_rfl) ?_
      generalize hA0 : Act.mk _ _ = a0
      have hF := Fr.nil (n := 163) (a := a0) (by rw [← hA0]; rfl)
      replace hF := Fr.cons hF 3 (.pointer (some ⟨BY, 0, none⟩)) (by rw [← hA0]; rfl)
      replace hF := Fr.cons hF 2 (.pointer (some ⟨BZ, 0, none⟩)) (by rw [← hA0]; rfl)
      have hS : Below wr.heap.size wr (World.drew _) := (Below.refl _ wr).drew
      change wpAnyH _ _ _ _ _ _ _ _ (World.drew _)
      refine tk (i := 0) (d := 41) (v := .pointer (some ⟨BZ, 4, none⟩)) hF rfl rfl (by kernel_rfl) (by kernel_rfl) (by kernel_rfl) (fun _ _ _ h => h) (yi_go rfl (fun W hW => by have f2 := fr_at hF 0 rfl; go_simp)) hS rfl (by decide) (fun a1 hA1 hF' => ?_)
      replace hF := hF'; clear hF'
      refine tk (i := 1) (d := 42) (v := .slice A2 m c2) hF rfl rfl (by kernel_rfl) (by kernel_rfl) (by kernel_rfl) (fun _ _ _ h => h) (yi_go rfl (fun W hW => by replace z4 := (hW.cell (p := ⟨BZ, 4, none⟩) (World.block_lt_of_cell? _ _ z4)).trans z4; have f41 := fr_at hF 0 rfl; go_simp)) hS rfl (by decide) (fun a2 hA2 hF' => ?_)
      replace hF := hF'; clear hF'
      refine tk (i := 3) (d := 44) (v := .agg #[.bool av, .int .u64 (an : Int), .bool bv, .int .u64 (bn : Int)]) hF rfl rfl (by kernel_rfl) (by kernel_rfl) (by kernel_rfl) (fun _ _ _ h => h) (yi_go rfl (fun W hW => by replace y0 := (hW.cell (p := ⟨BY, 0, none⟩) (World.block_lt_of_cell? _ _ y0)).trans y0; replace y1 := (hW.cell (p := ⟨BY, 1, none⟩) (World.block_lt_of_cell? _ _ y1)).trans y1; replace y2 := (hW.cell (p := ⟨BY, 2, none⟩) (World.block_lt_of_cell? _ _ y2)).trans y2; replace y3 := (hW.cell (p := ⟨BY, 3, none⟩) (World.block_lt_of_cell? _ _ y3)).trans y3; have f3 := fr_at hF 3 rfl; go_simp)) hS rfl (by decide) (fun a3 hA3 hF' => ?_)
      replace hF := hF'; clear hF'
      refine wpAnyH_ready (rs := [2, 4]) (by kernel_rfl) (by simp) ?_
      refine AllReadyH.cons rfl (fun K hK => ?_) (AllReadyH.cons rfl (fun K hK => ?_) AllReadyH.nil)
      focus
        refine Rea.step_own2 rfl (.const (.slice none 0 0)) (.tmp 42) rfl rfl (Rea.Own.nil wr.heap.size _) A2 m c2 (ev_tmp (fr_at hF 1 rfl)) H2.out (HLr.out.below hS) (by simp; have := H2.out; omega) hS.size ?_
        intro v1 wq1 ho1 hg1
        rw [List.nil_append] at ho1
        have hb1 : Below wr.heap.size wr wq1 := hS.grown hg1 hS.size (fun k hk => by cases hk)
        refine hK.out _ _ hb1 (fun _ => ?_)
        clear hK K
        replace hS := hb1
        change wpAnyH _ _ _ _ _ _ _ (a3.put (some 43) (v1)) _
        have hF' := fr_put hF 43 (v1) rfl (by decide)
        generalize hA4 : Act.put a3 (some 43) (v1) = a4 at hF' ⊢
        replace hF := hF'; clear hF'
        refine wpAnyH_ready (rs := [4]) (by kernel_rfl) (by simp) ?_
        refine AllReadyH.cons rfl (fun K hK => ?_) AllReadyH.nil
        have f44 := fr_at hF 1 rfl
        go_simp
        clear f44
        have hbb : Below wq1.heap.size wq1 (wq1.alloc (.cells #[.bool av, .int .u64 (an : Int), .bool bv, .int .u64 (bn : Int)] 72)) := ((Below.refl _ _).alloc (Nat.le_refl _) _)
        have hob : Rea.Bds (wq1.alloc (.cells #[.bool av, .int .u64 (an : Int), .bool bv, .int .u64 (bn : Int)] 72)) (some ⟨wq1.heap.size, 0, none⟩) [⟨av, an, bv, bn⟩] := Rea.Bds.below (bds1 wq1 av an bv bn l1 l2) (Below.refl _ _)
        refine hK.out _ _ (hS.trans (hbb.mono hS.size)) (fun _ => ?_)
        clear hK K
        replace hS : Below wr.heap.size wr _ := hS.trans (hbb.mono hS.size)
        generalize (wq1.alloc (.cells #[.bool av, .int .u64 (an : Int), .bool bv, .int .u64 (bn : Int)] 72)) = wq2 at *
        change wpAnyH _ _ _ _ _ _ _ (a4.put (some 45) (.slice (some ⟨wq1.heap.size, 0, none⟩) 1 1)) _
        have hF' := fr_put hF 45 (.slice (some ⟨wq1.heap.size, 0, none⟩) 1 1) rfl (by decide)
        generalize hA5 : Act.put a4 (some 45) (.slice (some ⟨wq1.heap.size, 0, none⟩) 1 1) = a5 at hF' ⊢
        replace hF := hF'; clear hF'
        replace ho1 : Rea.Own wr.heap.size wq2 v1 L := ho1.below hbb
        refine wpAnyH_ready (rs := [5]) (by kernel_rfl) (by simp) ?_
        refine AllReadyH.cons rfl (fun K hK => ?_) AllReadyH.nil
        refine Rea.step_own2 rfl (.tmp 43) (.tmp 45) rfl (ev_tmp (fr_at hF 1 rfl)) ho1 (some ⟨wq1.heap.size, 0, none⟩) 1 1 (ev_tmp (fr_at hF 0 rfl)) rfl hob (by have := H2.out; simp; omega) hS.size ?_
        intro v3 wq3 ho3 hg3
        have hb3 : Below wr.heap.size wr wq3 := hS.grown hg3 hS.size (fun k hk => (ho1.1.lt k hk).1)
        refine hK.out _ _ hb3 (fun _ => ?_)
        clear hK K
        replace hS := hb3
        change wpAnyH _ _ _ _ _ _ _ (a5.put (some 46) (v3)) _
        have hF' := fr_put hF 46 (v3) rfl (by decide)
        generalize hA6 : Act.put a5 (some 46) (v3) = a6 at hF' ⊢
        replace hF := hF'; clear hF'
        clear ho1 hob hg1 hg3 hb1 hb3 hbb
        refine tk (i := 6) (d := 9) (v := v3) hF rfl rfl (by kernel_rfl) (by kernel_rfl) (by kernel_rfl) (fun _ _ _ h => h) (yi_go rfl (fun W hW => ex_assign W rfl (fr_at hF 0 rfl))) hS rfl (by decide) (fun a7 hA7 hF' => ?_)
        replace hF := hF'; clear hF'
        refine wpAnyH_done (by kernel_rfl) ?_ _
        rw [← hA7, ← hA6, ← hA5, ← hA4, ← hA3, ← hA2, ← hA1, ← hA0]
        simp only [Act.put, List.setIfInBounds_toArray, List.set_cons_zero, List.set_cons_succ]
        clear hF
      rotate_left 1
      focus
        have f44 := fr_at hF 0 rfl
        go_simp
        clear f44
        have hbb : Below wr.heap.size wr (wr.alloc (.cells #[.bool av, .int .u64 (an : Int), .bool bv, .int .u64 (bn : Int)] 72)).drew := Below.drew ((Below.refl _ _).alloc (Nat.le_refl _) _)
        have hob : Rea.Bds (wr.alloc (.cells #[.bool av, .int .u64 (an : Int), .bool bv, .int .u64 (bn : Int)] 72)).drew (some ⟨wr.heap.size, 0, none⟩) [⟨av, an, bv, bn⟩] := Rea.Bds.below (bds1 wr av an bv bn l1 l2) (Below.drew (Below.refl _ _))
        refine hK.out _ _ (hbb) (fun _ => ?_)
        clear hK K
        replace hS : Below wr.heap.size wr _ := hbb
        generalize (wr.alloc (.cells #[.bool av, .int .u64 (an : Int), .bool bv, .int .u64 (bn : Int)] 72)).drew = wq2 at *
        change wpAnyH _ _ _ _ _ _ _ (a3.put (some 45) (.slice (some ⟨wr.heap.size, 0, none⟩) 1 1)) _
        have hF' := fr_put hF 45 (.slice (some ⟨wr.heap.size, 0, none⟩) 1 1) rfl (by decide)
        generalize hA4 : Act.put a3 (some 45) (.slice (some ⟨wr.heap.size, 0, none⟩) 1 1) = a4 at hF' ⊢
        replace hF := hF'; clear hF'
        refine wpAnyH_ready (rs := [2]) (by kernel_rfl) (by simp) ?_
        refine AllReadyH.cons rfl (fun K hK => ?_) AllReadyH.nil
        refine Rea.step_own2 rfl (.const (.slice none 0 0)) (.tmp 42) rfl rfl (Rea.Own.nil wr.heap.size _) A2 m c2 (ev_tmp (fr_at hF 2 rfl)) H2.out (HLr.out.below hS) (by simp; have := H2.out; omega) hS.size ?_
        intro v1 wq1 ho1 hg1
        rw [List.nil_append] at ho1
        have hb1 : Below wr.heap.size wr wq1 := hS.grown hg1 hS.size (fun k hk => by cases hk)
        refine hK.out _ _ hb1 (fun _ => ?_)
        clear hK K
        replace hS := hb1
        change wpAnyH _ _ _ _ _ _ _ (a4.put (some 43) (v1)) _
        have hF' := fr_put hF 43 (v1) rfl (by decide)
        generalize hA5 : Act.put a4 (some 43) (v1) = a5 at hF' ⊢
        replace hF := hF'; clear hF'
        replace hob := hob.below ((Below.refl _ wq2).grown hg1 (Nat.le_refl _) (fun k hk => by cases hk))
        refine wpAnyH_ready (rs := [5]) (by kernel_rfl) (by simp) ?_
        refine AllReadyH.cons rfl (fun K hK => ?_) AllReadyH.nil
        refine Rea.step_own2 rfl (.tmp 43) (.tmp 45) rfl (ev_tmp (fr_at hF 0 rfl)) ho1 (some ⟨wr.heap.size, 0, none⟩) 1 1 (ev_tmp (fr_at hF 1 rfl)) rfl hob (by have := H2.out; simp; omega) hS.size ?_
        intro v3 wq3 ho3 hg3
        have hb3 : Below wr.heap.size wr wq3 := hS.grown hg3 hS.size (fun k hk => (ho1.1.lt k hk).1)
        refine hK.out _ _ hb3 (fun _ => ?_)
        clear hK K
        replace hS := hb3
        change wpAnyH _ _ _ _ _ _ _ (a5.put (some 46) (v3)) _
        have hF' := fr_put hF 46 (v3) rfl (by decide)
        generalize hA6 : Act.put a5 (some 46) (v3) = a6 at hF' ⊢
        replace hF := hF'; clear hF'
        clear ho1 hob hg1 hg3 hb1 hb3 hbb
        refine tk (i := 6) (d := 9) (v := v3) hF rfl rfl (by kernel_rfl) (by kernel_rfl) (by kernel_rfl) (fun _ _ _ h => h) (yi_go rfl (fun W hW => ex_assign W rfl (fr_at hF 0 rfl))) hS rfl (by decide) (fun a7 hA7 hF' => ?_)
        replace hF := hF'; clear hF'
        refine wpAnyH_done (by kernel_rfl) ?_ _
        rw [← hA7, ← hA6, ← hA5, ← hA4, ← hA3, ← hA2, ← hA1, ← hA0]
        simp only [Act.put, List.setIfInBounds_toArray, List.set_cons_zero, List.set_cons_succ]
        clear hF
      all_goals
        obtain ⟨MV, hMV⟩ : ∃ MV, MV = L ++ [⟨av, an, bv, bn⟩] := ⟨_, rfl⟩
        have HMV := Lib.hid hMV
        rw [← hMV] at ho3
        obtain ⟨a3, cap3, rfl, hL3, _⟩ := ho3.bds
        obtain ⟨m3, hm3⟩ : ∃ m3, m3 = MV.length := ⟨_, rfl⟩
        rw [← hm3]
        have HM3 := Lib.hid hm3
        obtain ⟨z0, z1, z2, z3, z4, z5⟩ := six_on HZ.out hS
        replace HZ := Lib.hid (six_on HZ.out hS)
        have HB5 := Lib.hid (on HB4.out hS)
        have HS5 := Lib.hid (HS4.out.below hS)
        have HL5 := Lib.hid (HLr.out.below hS)
        have HL3 := Lib.hid hL3
        have HN1r := Lib.hid (HN1.out.below hS)
        have HN2r := Lib.hid (HN2.out.below hS)
        clear hMV hm3 hL3 ho3 hS HB4 HS4 HLr HN1 HN2 y0 y1 y2 y3 HY
        go_wp2_with fail
        refine (solve_ans (.iface t pv) S HS.out.fn vr a3 m3 cap3 MV HM3.out _ HS5.out.n HL3.out).mono ?_
        rintro e w6 ⟨hb, A', B', ca', xs', ys', e2, rfl, hans, hc1, hc2, hc64', hn1, hn2⟩
        obtain ⟨z0, z1, z2, z3, z4, z5⟩ := six_on HZ.out hb
        replace HZ := Lib.hid (six_on HZ.out hb)
        have HB6 := Lib.hid (on HB5.out hb)
        have HS6 := Lib.hid (HS5.out.below hb)
        have HL6 := Lib.hid (HL5.out.below hb)
        have HN16 := Lib.hid (HN1r.out.below hb)
        have HN26 := Lib.hid (HN2r.out.below hb)
        rw [HMV.out] at hans
        have HMO := Lib.hid (ans_more HA1.out hans)
        have HC3 := Lib.hid hc1
        have HC4 := Lib.hid hc2
        have HN36 := Lib.hid hn1
        have HN46 := Lib.hid hn2
        clear hb hans hc1 hc2 hn1 hn2 HB5 HS5 HL5 HL3 HN1r HN2r
        by_cases h20 : e2 = 0
        · obtain ⟨he1, hlen, hbe1, hbe2⟩ := HMO.out h20
          subst h20
          subst he1
          obtain rfl : ca = ca' := by rw [HC1.out, HC3.out, hlen]
          have HBE1 := Lib.hid hbe1
          have HBE2 := Lib.hid hbe2
          have dn : ((ca : Int) != (ca : Int)) = false := by simp
          clear hlen hbe1 hbe2 HMO
          obtain ⟨t2, p2, ee, hsc, hfn⟩ := HS6.out
          obtain ⟨et, ep⟩ : t2 = t ∧ p2 = pv := by
            cases ee
            exact ⟨rfl, rfl⟩
          rw [et, ep] at hsc
          clear et ep
          obtain ⟨fb, ib, cb⟩ := hsc.below
          have mbel := ib.meth
          have kbel := ib.call
          have abel := ib.ahead
          have HCB := Lib.hid cb
          clear ee hsc hfn ib cb
          go_wp2_with fail
          go_loopw [13] (fun x wr => ∃ j : Nat, j ≤ ca ∧ x = .int .i64 j ∧ Hid (Below w6.heap.size w6 wr)) (fun x _ => ca - (intOf x).toNat)
          case atStart => exact ⟨0, by omega, rfl, Below.refl _ _⟩
          case round =>
            obtain ⟨j, hj, rfl, HB⟩ := hrel
            by_cases hja : j < ca
            · have q1 : j < xs.length := by rw [← HC1.out]; exact hja
              have q2 : j < ys.length := by rw [← HC2.out]; exact hja
              have q3 : j < xs'.length := by rw [← HC3.out]; exact hja
              have q4 : j < ys'.length := by rw [← HC4.out]; exact hja
              obtain ⟨b1, o1, e1', _, k1⟩ := (HN16.out.below HB.out).2 (by omega)
              obtain ⟨b2, o2, e2', _, k2⟩ := (HN26.out.below HB.out).2 (by omega)
              obtain ⟨b3, o3, e3', _, k3⟩ := (HN36.out.below HB.out).2 (by omega)
              obtain ⟨b4, o4, e4', _, k4⟩ := (HN46.out.below HB.out).2 (by omega)
              subst e1' e2' e3' e4'
              have r1 := k1 j q1
              have r2 := k2 j q2
              have r3 := k3 j q3
              have r4 := k4 j q4
              have t1 := HN16.out.1 _ (List.getElem_mem q1)
              have t2 := HN26.out.1 _ (List.getElem_mem q2)
              have t3 := HN36.out.1 _ (List.getElem_mem q3)
              have t4 := HN46.out.1 _ (List.getElem_mem q4)
              have g1 := HBE1.out j q1 q3
              have g2 := HBE2.out j q4 q2
              generalize xs[j] = x1 at r1 t1 g1
              generalize ys[j] = x2 at r2 t2 g2
              generalize xs'[j] = x3 at r3 t3 g1
              generalize ys'[j] = x4 at r4 t4 g2
              have HQ1 := Lib.hid (fun W (h : Below wr.heap.size wr W) => g1 ▸ HCB.out W x1 x3 (on HB.out h) t1 t3)
              have HQ2 := Lib.hid (fun W (h : Below wr.heap.size wr W) => g2 ▸ HCB.out W x4 x2 (on HB.out h) t4 t2)
              have j1 : (0 : Int) ≤ (j : Int) := by omega
              have j2 : (j : Int) < (ca : Int) := by omega
              clear k1 k2 k3 k4 g1 g2 q1 q2 q3 q4
              go_upto_region 16 with fail
              refine wp_region_held (S := fun W => Below wr.heap.size wr W) (by kernel_rfl) ?_
              generalize hA0 : Act.mk _ _ = a0
              have hF := Fr.nil (n := 163) (a := a0) (by rw [← hA0]; rfl)
              replace hF := Fr.cons hF 13 (.int .i64 (j : Int)) (by rw [← hA0]; rfl)
              replace hF := Fr.cons hF 11 (.slice (some ⟨b4, o4, none⟩) ca ca) (by rw [← hA0]; rfl)
              replace hF := Fr.cons hF 10 (.slice (some ⟨b3, o3, none⟩) ca ca) (by rw [← hA0]; rfl)
              replace hF := Fr.cons hF 7 (.slice (some ⟨b2, o2, none⟩) ca ca) (by rw [← hA0]; rfl)
              replace hF := Fr.cons hF 6 (.slice (some ⟨b1, o1, none⟩) ca ca) (by rw [← hA0]; rfl)
              replace hF := Fr.cons hF 5 (.iface t pv) (by rw [← hA0]; rfl)
              have hS : Below wr.heap.size wr (World.drew _) := (Below.refl _ wr).drew
              change wpAnyH _ _ _ _ _ _ _ _ (World.drew _)
              refine tk (i := 0) (d := 96) (v := .iface t pv) hF rfl rfl (by kernel_rfl) (by kernel_rfl) (by kernel_rfl) (fun _ _ _ h => h) (yi_go rfl (fun W hW => ex_move W rfl (fr_at hF 0 rfl))) hS rfl (by decide) (fun a1 hA1 hF' => ?_)
              replace hF := hF'; clear hF'
              refine tk (i := 1) (d := 97) (v := .slice (some ⟨b1, o1, none⟩) ca ca) hF rfl rfl (by kernel_rfl) (by kernel_rfl) (by kernel_rfl) (fun _ _ _ h => h) (yi_go rfl (fun W hW => ex_move W rfl (fr_at hF 2 rfl))) hS rfl (by decide) (fun a2 hA2 hF' => ?_)
              replace hF := hF'; clear hF'
              refine tk (i := 2) (d := 98) (v := .int .i64 (j : Int)) hF rfl rfl (by kernel_rfl) (by kernel_rfl) (by kernel_rfl) (fun _ _ _ h => h) (yi_go rfl (fun W hW => ex_move W rfl (fr_at hF 7 rfl))) hS rfl (by decide) (fun a3 hA3 hF' => ?_)
              replace hF := hF'; clear hF'
              refine tk (i := 3) (d := 99) (v := .pointer (some ⟨b1, o1 + j, none⟩)) hF rfl rfl (by kernel_rfl) (by kernel_rfl) (by kernel_rfl) (fun _ _ _ h => h) (yi_go rfl (fun W hW => by have f97 := fr_at hF 1 rfl; have f98 := fr_at hF 0 rfl; go_simp)) hS rfl (by decide) (fun a4 hA4 hF' => ?_)
              replace hF := hF'; clear hF'
              refine tk (i := 4) (d := 100) (v := .int .u64 (x1 : Int)) hF rfl rfl (by kernel_rfl) (by kernel_rfl) (by kernel_rfl) (fun _ _ _ h => h) (yi_go rfl (fun W hW => by replace r1 := (hW.cell (p := ⟨b1, o1 + j, none⟩) (World.block_lt_of_cell? _ _ r1)).trans r1; have f99 := fr_at hF 0 rfl; go_simp)) hS rfl (by decide) (fun a5 hA5 hF' => ?_)
              replace hF := hF'; clear hF'
              refine tk (i := 5) (d := 101) (v := .slice (some ⟨b3, o3, none⟩) ca ca) hF rfl rfl (by kernel_rfl) (by kernel_rfl) (by kernel_rfl) (fun _ _ _ h => h) (yi_go rfl (fun W hW => ex_move W rfl (fr_at hF 8 rfl))) hS rfl (by decide) (fun a6 hA6 hF' => ?_)
              replace hF := hF'; clear hF'
              refine tk (i := 6) (d := 102) (v := .int .i64 (j : Int)) hF rfl rfl (by kernel_rfl) (by kernel_rfl) (by kernel_rfl) (fun _ _ _ h => h) (yi_go rfl (fun W hW => ex_move W rfl (fr_at hF 11 rfl))) hS rfl (by decide) (fun a7 hA7 hF' => ?_)
              replace hF := hF'; clear hF'
              refine tk (i := 7) (d := 103) (v := .pointer (some ⟨b3, o3 + j, none⟩)) hF rfl rfl (by kernel_rfl) (by kernel_rfl) (by kernel_rfl) (fun _ _ _ h => h) (yi_go rfl (fun W hW => by have f101 := fr_at hF 1 rfl; have f102 := fr_at hF 0 rfl; go_simp)) hS rfl (by decide) (fun a8 hA8 hF' => ?_)
              replace hF := hF'; clear hF'
              refine tk (i := 8) (d := 104) (v := .int .u64 (x3 : Int)) hF rfl rfl (by kernel_rfl) (by kernel_rfl) (by kernel_rfl) (fun _ _ _ h => h) (yi_go rfl (fun W hW => by replace r3 := (hW.cell (p := ⟨b3, o3 + j, none⟩) (World.block_lt_of_cell? _ _ r3)).trans r3; have f103 := fr_at hF 0 rfl; go_simp)) hS rfl (by decide) (fun a9 hA9 hF' => ?_)
              replace hF := hF'; clear hF'
              refine tk (i := 9) (d := 105) (v := .func (.method "Below") #[.iface t pv] #[]) hF rfl rfl (by kernel_rfl) (by kernel_rfl) (by kernel_rfl) (fun _ _ _ h => h) (yi_go rfl (fun W hW => by have f96 := fr_at hF 8 rfl; go_simp)) hS rfl (by decide) (fun a10 hA10 hF' => ?_)
              replace hF := hF'; clear hF'
              refine tk (i := 10) (d := 106) (v := .func (.method "Below") #[.iface t pv] #[]) hF rfl rfl (by kernel_rfl) (by kernel_rfl) (by kernel_rfl) (fun _ _ _ h => h) (yi_go rfl (fun W hW => by have f105 := fr_at hF 0 rfl; go_simp)) hS rfl (by decide) (fun a11 hA11 hF' => ?_)
              replace hF := hF'; clear hF'
              refine tk (i := 11) (d := 107) (v := .iface t pv) hF rfl rfl (by kernel_rfl) (by kernel_rfl) (by kernel_rfl) (fun _ _ _ h => h) (yi_go rfl (fun W hW => ex_move W rfl (fr_at hF 10 rfl))) hS rfl (by decide) (fun a12 hA12 hF' => ?_)
              replace hF := hF'; clear hF'
              refine wpAnyH_ready (rs := [12]) (by kernel_rfl) (by simp) ?_
              refine AllReadyH.cons rfl (fun K hK => ?_) AllReadyH.nil
              have f107 := fr_at hF 0 rfl
              have f100 := fr_at hF 7 rfl
              have f104 := fr_at hF 3 rfl
              go_simp
              clear f107 f100 f104
              refine (HQ1.out _ hS).mono ?_
              rintro e wa ⟨rfl, hb⟩
              go_wp2_with fail
              refine hK.out _ _ (on hS hb) (fun _ => ?_)
              replace hS := on hS hb
              clear hK K
              change wpAnyH _ _ _ _ _ _ _ (a12.put (some 108) (.bool true)) _
              have hF' := fr_put hF 108 (.bool true) rfl (by decide)
              generalize hA13 : Act.put a12 (some 108) (.bool true) = a13 at hF' ⊢
              replace hF := hF'; clear hF'
              refine tk (i := 13) (d := 109) (v := .bool false) hF rfl rfl (by kernel_rfl) (by kernel_rfl) (by kernel_rfl) (fun _ _ _ h => h) (yi_go rfl (fun W hW => by have f108 := fr_at hF 0 rfl; go_simp)) hS rfl (by decide) (fun a14 hA14 hF' => ?_)
              replace hF := hF'; clear hF'
              refine tk (i := 14) (d := 110) (v := .bool false) hF rfl rfl (by kernel_rfl) (by kernel_rfl) (by kernel_rfl) (fun _ _ _ h => h) (yi_go rfl (fun W hW => ex_move W rfl (fr_at hF 0 rfl))) hS rfl (by decide) (fun a15 hA15 hF' => ?_)
              replace hF := hF'; clear hF'
              refine tk (i := 15) (d := 111) (v := .iface t pv) hF rfl rfl (by kernel_rfl) (by kernel_rfl) (by kernel_rfl) (fun _ _ _ h => h) (yi_want rfl rfl (fr_at hF 0 rfl) (fun W hW => ex_move W rfl (fr_at hF 15 rfl))) hS rfl (by decide) (fun a16 hA16 hF' => ?_)
              replace hF := hF'; clear hF'
              refine tk (i := 16) (d := 112) (v := .slice (some ⟨b4, o4, none⟩) ca ca) hF rfl rfl (by kernel_rfl) (by kernel_rfl) (by kernel_rfl) (fun _ _ _ h => h) (yi_want rfl rfl (fr_at hF 1 rfl) (fun W hW => ex_move W rfl (fr_at hF 20 rfl))) hS rfl (by decide) (fun a17 hA17 hF' => ?_)
              replace hF := hF'; clear hF'
              refine tk (i := 17) (d := 113) (v := .int .i64 (j : Int)) hF rfl rfl (by kernel_rfl) (by kernel_rfl) (by kernel_rfl) (fun _ _ _ h => h) (yi_want rfl rfl (fr_at hF 2 rfl) (fun W hW => ex_move W rfl (fr_at hF 22 rfl))) hS rfl (by decide) (fun a18 hA18 hF' => ?_)
              replace hF := hF'; clear hF'
              refine tk (i := 18) (d := 114) (v := .pointer (some ⟨b4, o4 + j, none⟩)) hF rfl rfl (by kernel_rfl) (by kernel_rfl) (by kernel_rfl) (fun _ _ _ h => h) (yi_want rfl rfl (fr_at hF 3 rfl) (fun W hW => by have f112 := fr_at hF 1 rfl; have f113 := fr_at hF 0 rfl; go_simp)) hS rfl (by decide) (fun a19 hA19 hF' => ?_)
              replace hF := hF'; clear hF'
              refine tk (i := 19) (d := 115) (v := .int .u64 (x4 : Int)) hF rfl rfl (by kernel_rfl) (by kernel_rfl) (by kernel_rfl) (fun _ _ _ h => h) (yi_want rfl rfl (fr_at hF 4 rfl) (fun W hW => by replace r4 := (hW.cell (p := ⟨b4, o4 + j, none⟩) (World.block_lt_of_cell? _ _ r4)).trans r4; have f114 := fr_at hF 0 rfl; go_simp)) hS rfl (by decide) (fun a20 hA20 hF' => ?_)
              replace hF := hF'; clear hF'
              refine tk (i := 20) (d := 116) (v := .slice (some ⟨b2, o2, none⟩) ca ca) hF rfl rfl (by kernel_rfl) (by kernel_rfl) (by kernel_rfl) (fun _ _ _ h => h) (yi_want rfl rfl (fr_at hF 5 rfl) (fun W hW => ex_move W rfl (fr_at hF 22 rfl))) hS rfl (by decide) (fun a21 hA21 hF' => ?_)
              replace hF := hF'; clear hF'
              refine tk (i := 21) (d := 117) (v := .int .i64 (j : Int)) hF rfl rfl (by kernel_rfl) (by kernel_rfl) (by kernel_rfl) (fun _ _ _ h => h) (yi_want rfl rfl (fr_at hF 6 rfl) (fun W hW => ex_move W rfl (fr_at hF 26 rfl))) hS rfl (by decide) (fun a22 hA22 hF' => ?_)
              replace hF := hF'; clear hF'
              refine tk (i := 22) (d := 118) (v := .pointer (some ⟨b2, o2 + j, none⟩)) hF rfl rfl (by kernel_rfl) (by kernel_rfl) (by kernel_rfl) (fun _ _ _ h => h) (yi_want rfl rfl (fr_at hF 7 rfl) (fun W hW => by have f116 := fr_at hF 1 rfl; have f117 := fr_at hF 0 rfl; go_simp)) hS rfl (by decide) (fun a23 hA23 hF' => ?_)
              replace hF := hF'; clear hF'
              refine tk (i := 23) (d := 119) (v := .int .u64 (x2 : Int)) hF rfl rfl (by kernel_rfl) (by kernel_rfl) (by kernel_rfl) (fun _ _ _ h => h) (yi_want rfl rfl (fr_at hF 8 rfl) (fun W hW => by replace r2 := (hW.cell (p := ⟨b2, o2 + j, none⟩) (World.block_lt_of_cell? _ _ r2)).trans r2; have f118 := fr_at hF 0 rfl; go_simp)) hS rfl (by decide) (fun a24 hA24 hF' => ?_)
              replace hF := hF'; clear hF'
              refine tk (i := 24) (d := 120) (v := .func (.method "Below") #[.iface t pv] #[]) hF rfl rfl (by kernel_rfl) (by kernel_rfl) (by kernel_rfl) (fun _ _ _ h => h) (yi_want rfl rfl (fr_at hF 9 rfl) (fun W hW => by have f111 := fr_at hF 8 rfl; go_simp)) hS rfl (by decide) (fun a25 hA25 hF' => ?_)
              replace hF := hF'; clear hF'
              refine tk (i := 25) (d := 121) (v := .func (.method "Below") #[.iface t pv] #[]) hF rfl rfl (by kernel_rfl) (by kernel_rfl) (by kernel_rfl) (fun _ _ _ h => h) (yi_want rfl rfl (fr_at hF 10 rfl) (fun W hW => by have f120 := fr_at hF 0 rfl; go_simp)) hS rfl (by decide) (fun a26 hA26 hF' => ?_)
              replace hF := hF'; clear hF'
              refine tk (i := 26) (d := 122) (v := .iface t pv) hF rfl rfl (by kernel_rfl) (by kernel_rfl) (by kernel_rfl) (fun _ _ _ h => h) (yi_want rfl rfl (fr_at hF 11 rfl) (fun W hW => ex_move W rfl (fr_at hF 10 rfl))) hS rfl (by decide) (fun a27 hA27 hF' => ?_)
              replace hF := hF'; clear hF'
              refine wpAnyH_ready (rs := [27]) (by kernel_rfl) (by simp) ?_
              refine AllReadyH.cons rfl (fun K hK => ?_) AllReadyH.nil
              rw [if_pos (by rw [guard_at rfl rfl (fr_at hF 12 rfl)]; rfl)]
              have f122 := fr_at hF 0 rfl
              have f115 := fr_at hF 7 rfl
              have f119 := fr_at hF 3 rfl
              go_simp
              clear f122 f115 f119
              refine (HQ2.out _ hS).mono ?_
              rintro e wb ⟨rfl, hb⟩
              go_wp2_with fail
              refine hK.out _ _ (on hS hb) (fun _ => ?_)
              replace hS := on hS hb
              clear hK K
              change wpAnyH _ _ _ _ _ _ _ (a27.put (some 123) (.bool true)) _
              have hF' := fr_put hF 123 (.bool true) rfl (by decide)
              generalize hA28 : Act.put a27 (some 123) (.bool true) = a28 at hF' ⊢
              replace hF := hF'; clear hF'
              refine tk (i := 28) (d := 124) (v := .bool false) hF rfl rfl (by kernel_rfl) (by kernel_rfl) (by kernel_rfl) (fun _ _ _ h => h) (yi_want rfl rfl (fr_at hF 13 rfl) (fun W hW => by have f123 := fr_at hF 0 rfl; go_simp)) hS rfl (by decide) (fun a29 hA29 hF' => ?_)
              replace hF := hF'; clear hF'
              refine tk (i := 29) (d := 125) (v := .bool false) hF rfl rfl (by kernel_rfl) (by kernel_rfl) (by kernel_rfl) (fun _ _ _ h => h) (yi_go rfl (fun W hW => by have f110 := fr_at hF 14 rfl; have f124 := fr_at hF 0 rfl; go_simp)) hS rfl (by decide) (fun a30 hA30 hF' => ?_)
              replace hF := hF'; clear hF'
              refine wpAnyH_done (by kernel_rfl) ?_ _
              rw [← hA30, ← hA29, ← hA28, ← hA27, ← hA26, ← hA25, ← hA24, ← hA23, ← hA22, ← hA21, ← hA20, ← hA19, ← hA18, ← hA17, ← hA16, ← hA15, ← hA14, ← hA13, ← hA12, ← hA11, ← hA10, ← hA9, ← hA8, ← hA7, ← hA6, ← hA5, ← hA4, ← hA3, ← hA2, ← hA1, ← hA0]
              simp only [Act.put, List.setIfInBounds_toArray, List.set_cons_zero, List.set_cons_succ]
              clear hF
              have HB8 := Lib.hid (on HB.out hS)
              clear hS
              go_wp2_with fail
              go_roundw
              case rel => exact ⟨j + 1, by omega, by go_num, HB8.out⟩
              case measure => simp [intOf]; omega
            · obtain rfl : j = ca := by omega
              clear hja
              obtain ⟨z0, z1, z2, z3, z4, z5⟩ := six_on HZ.out HB.out
              have HBr := Lib.hid (on HB6.out HB.out)
              by_cases hm0 : m = 0
              · have f0 : ((m : Int) == 0) = true := by simp; omega
                have f1 : (m == 0) = true := by simp; omega
                clear hm0
                go_wp2_with fail
                refine (alive10_any _ (HT.out.below HBr.out)).mono ?_
                rintro e wz ⟨rfl, hb⟩
                have HBz := Lib.hid (on HBr.out hb)
                clear hb
                go_wp2_with fail
                go_ret
                exact ⟨rfl, HBz.out⟩
              · have f0 : ((m : Int) == 0) = false := by simp; omega
                have f1 : (m == 0) = false := by simp; omega
                have HLr := Lib.hid (HL6.out.below HB.out)
                have HSr := Lib.hid (HS6.out.below HB.out)
                have HN1 := Lib.hid (HN16.out.below HB.out)
                have HN2 := Lib.hid (HN26.out.below HB.out)
                have hm0L : 0 < L.length := by rw [← H2.out]; omega
                obtain ⟨bb, oo, eA, hrest⟩ := HLr.out 0 hm0L
                subst eA
                obtain ⟨d, hd⟩ : ∃ d, L[0] = d := ⟨_, rfl⟩
                obtain ⟨⟨c0, c1⟩, ⟨c2', c3'⟩, u1, u2⟩ := bd_at HLr.out hm0L hd
                have HMEM := Lib.hid (show d ∈ L from hd ▸ List.getElem_mem hm0L)
                obtain ⟨dav, dan, dbv, dbn⟩ := d
                simp only [Nat.zero_mul, Nat.add_zero] at c0 c1 c2' c3' u1 u2
                have i1 : (0 : Int) < (m : Int) := by omega
                have i2 : 0 < m := by omega
                have HSM := Lib.hid (show ∀ b, b ∈ L ↔ b ∈ L ++ [⟨dav, dan, dbv, dbn⟩] from fun b => by
                  rw [List.mem_append, List.mem_singleton]
                  exact ⟨.inl, fun h => h.elim id fun h => h ▸ HMEM.out⟩)
                have HLE := Lib.hid (show L.length ≤ 256 by rw [← H2.out]; omega)
                have HLE2 := Lib.hid (show (L ++ [(⟨dav, dan, dbv, dbn⟩ : Rea.Bd)]).length ≤ 256 by rw [List.length_append, ← H2.out]; simp; omega)
                clear hrest hm0 hm0L hd HB
                go_wp2_with fail
                refine wp_region_held (S := fun W => Below wr.heap.size wr W) (by kernel_rfl) ?_
                generalize hA0 : Act.mk _ _ = a0
                have hF := Fr.nil (n := 163) (a := a0) (by rw [← hA0]; rfl)
                replace hF := Fr.cons hF 5 (.iface t pv) (by rw [← hA0]; rfl)
                replace hF := Fr.cons hF 2 (.pointer (some ⟨BZ, 0, none⟩)) (by rw [← hA0]; rfl)
                have hS : Below wr.heap.size wr (World.drew _) := (Below.refl _ wr).drew
                change wpAnyH _ _ _ _ _ _ _ _ (World.drew _)
                refine tk (i := 0) (d := 132) (v := .iface t pv) hF rfl rfl (by kernel_rfl) (by kernel_rfl) (by kernel_rfl) (fun _ _ _ h => h) (yi_go rfl (fun W hW => ex_move W rfl (fr_at hF 1 rfl))) hS rfl (by decide) (fun a1 hA1 hF' => ?_)
                replace hF := hF'; clear hF'
                refine tk (i := 1) (d := 133) (v := .pointer (some ⟨BZ, 3, none⟩)) hF rfl rfl (by kernel_rfl) (by kernel_rfl) (by kernel_rfl) (fun _ _ _ h => h) (yi_go rfl (fun W hW => by have f2 := fr_at hF 1 rfl; go_simp)) hS rfl (by decide) (fun a2 hA2 hF' => ?_)
                replace hF := hF'; clear hF'
                refine tk (i := 2) (d := 134) (v := .int .i64 vr) hF rfl rfl (by kernel_rfl) (by kernel_rfl) (by kernel_rfl) (fun _ _ _ h => h) (yi_go rfl (fun W hW => by replace z3 := (hW.cell (p := ⟨BZ, 3, none⟩) (World.block_lt_of_cell? _ _ z3)).trans z3; have f133 := fr_at hF 0 rfl; go_simp)) hS rfl (by decide) (fun a3 hA3 hF' => ?_)
                replace hF := hF'; clear hF'
                refine tk (i := 3) (d := 135) (v := .pointer (some ⟨BZ, 4, none⟩)) hF rfl rfl (by kernel_rfl) (by kernel_rfl) (by kernel_rfl) (fun _ _ _ h => h) (yi_go rfl (fun W hW => by have f2 := fr_at hF 3 rfl; go_simp)) hS rfl (by decide) (fun a4 hA4 hF' => ?_)
                replace hF := hF'; clear hF'
                refine tk (i := 4) (d := 136) (v := .slice (some ⟨bb, oo, none⟩) m c2) hF rfl rfl (by kernel_rfl) (by kernel_rfl) (by kernel_rfl) (fun _ _ _ h => h) (yi_go rfl (fun W hW => by replace z4 := (hW.cell (p := ⟨BZ, 4, none⟩) (World.block_lt_of_cell? _ _ z4)).trans z4; have f135 := fr_at hF 0 rfl; go_simp)) hS rfl (by decide) (fun a5 hA5 hF' => ?_)
                replace hF := hF'; clear hF'
                refine tk (i := 6) (d := 138) (v := .pointer (some ⟨BZ, 4, none⟩)) hF rfl rfl (by kernel_rfl) (by kernel_rfl) (by kernel_rfl) (fun _ _ _ h => h) (yi_go rfl (fun W hW => by have f2 := fr_at hF 5 rfl; go_simp)) hS rfl (by decide) (fun a6 hA6 hF' => ?_)
                replace hF := hF'; clear hF'
                refine tk (i := 7) (d := 139) (v := .slice (some ⟨bb, oo, none⟩) m c2) hF rfl rfl (by kernel_rfl) (by kernel_rfl) (by kernel_rfl) (fun _ _ _ h => h) (yi_go rfl (fun W hW => by replace z4 := (hW.cell (p := ⟨BZ, 4, none⟩) (World.block_lt_of_cell? _ _ z4)).trans z4; have f138 := fr_at hF 0 rfl; go_simp)) hS rfl (by decide) (fun a7 hA7 hF' => ?_)
                replace hF := hF'; clear hF'
                refine tk (i := 8) (d := 140) (v := .pointer (some ⟨bb, oo, none⟩)) hF rfl rfl (by kernel_rfl) (by kernel_rfl) (by kernel_rfl) (fun _ _ _ h => h) (yi_go rfl (fun W hW => by have f139 := fr_at hF 0 rfl; go_simp)) hS rfl (by decide) (fun a8 hA8 hF' => ?_)
                replace hF := hF'; clear hF'
                refine tk (i := 9) (d := 141) (v := .agg #[.bool dav, .int .u64 (dan : Int), .bool dbv, .int .u64 (dbn : Int)]) hF rfl rfl (by kernel_rfl) (by kernel_rfl) (by kernel_rfl) (fun _ _ _ h => h) (yi_go rfl (fun W hW => by replace c0 := (hW.cell (p := ⟨bb, oo, none⟩) (World.block_lt_of_cell? _ _ c0)).trans c0; replace c1 := (hW.cell (p := ⟨bb, oo + 1, none⟩) (World.block_lt_of_cell? _ _ c1)).trans c1; replace c2' := (hW.cell (p := ⟨bb, oo + 2, none⟩) (World.block_lt_of_cell? _ _ c2')).trans c2'; replace c3' := (hW.cell (p := ⟨bb, oo + 3, none⟩) (World.block_lt_of_cell? _ _ c3')).trans c3'; have f140 := fr_at hF 0 rfl; go_simp)) hS rfl (by decide) (fun a9 hA9 hF' => ?_)
                replace hF := hF'; clear hF'
                refine wpAnyH_ready (rs := [5, 10]) (by kernel_rfl) (by simp) ?_
                refine AllReadyH.cons rfl (fun K hK => ?_) (AllReadyH.cons rfl (fun K hK => ?_) AllReadyH.nil)
                focus
                  refine Rea.step_own2 rfl (.const (.slice none 0 0)) (.tmp 136) rfl rfl (Rea.Own.nil wr.heap.size _) (some ⟨bb, oo, none⟩) m c2 (ev_tmp (fr_at hF 4 rfl)) H2.out (HLr.out.below hS) (by simp; have := H2.out; omega) hS.size ?_
                  intro v1 wq1 ho1 hg1
                  rw [List.nil_append] at ho1
                  have hb1 : Below wr.heap.size wr wq1 := hS.grown hg1 hS.size (fun k hk => by cases hk)
                  refine hK.out _ _ hb1 (fun _ => ?_)
                  clear hK K
                  replace hS := hb1
                  change wpAnyH _ _ _ _ _ _ _ (a9.put (some 137) (v1)) _
                  have hF' := fr_put hF 137 (v1) rfl (by decide)
                  generalize hA10 : Act.put a9 (some 137) (v1) = a10 at hF' ⊢
                  replace hF := hF'; clear hF'
                  refine wpAnyH_ready (rs := [10]) (by kernel_rfl) (by simp) ?_
                  refine AllReadyH.cons rfl (fun K hK => ?_) AllReadyH.nil
                  have f141 := fr_at hF 1 rfl
                  go_simp
                  clear f141
                  have hbb : Below wq1.heap.size wq1 (wq1.alloc (.cells #[.bool dav, .int .u64 (dan : Int), .bool dbv, .int .u64 (dbn : Int)] 72)) := ((Below.refl _ _).alloc (Nat.le_refl _) _)
                  have hob : Rea.Bds (wq1.alloc (.cells #[.bool dav, .int .u64 (dan : Int), .bool dbv, .int .u64 (dbn : Int)] 72)) (some ⟨wq1.heap.size, 0, none⟩) [⟨dav, dan, dbv, dbn⟩] := Rea.Bds.below (bds1 wq1 dav dan dbv dbn u1 u2) (Below.refl _ _)
                  refine hK.out _ _ (hS.trans (hbb.mono hS.size)) (fun _ => ?_)
                  clear hK K
                  replace hS : Below wr.heap.size wr _ := hS.trans (hbb.mono hS.size)
                  generalize (wq1.alloc (.cells #[.bool dav, .int .u64 (dan : Int), .bool dbv, .int .u64 (dbn : Int)] 72)) = wq2 at *
                  change wpAnyH _ _ _ _ _ _ _ (a10.put (some 142) (.slice (some ⟨wq1.heap.size, 0, none⟩) 1 1)) _
                  have hF' := fr_put hF 142 (.slice (some ⟨wq1.heap.size, 0, none⟩) 1 1) rfl (by decide)
                  generalize hA11 : Act.put a10 (some 142) (.slice (some ⟨wq1.heap.size, 0, none⟩) 1 1) = a11 at hF' ⊢
                  replace hF := hF'; clear hF'
                  replace ho1 : Rea.Own wr.heap.size wq2 v1 L := ho1.below hbb
                  refine wpAnyH_ready (rs := [11]) (by kernel_rfl) (by simp) ?_
                  refine AllReadyH.cons rfl (fun K hK => ?_) AllReadyH.nil
                  refine Rea.step_own2 rfl (.tmp 137) (.tmp 142) rfl (ev_tmp (fr_at hF 1 rfl)) ho1 (some ⟨wq1.heap.size, 0, none⟩) 1 1 (ev_tmp (fr_at hF 0 rfl)) rfl hob (by have := H2.out; simp; omega) hS.size ?_
                  intro v3 wq3 ho3 hg3
                  have hb3 : Below wr.heap.size wr wq3 := hS.grown hg3 hS.size (fun k hk => (ho1.1.lt k hk).1)
                  refine hK.out _ _ hb3 (fun _ => ?_)
                  clear hK K
                  replace hS := hb3
                  change wpAnyH _ _ _ _ _ _ _ (a11.put (some 143) (v3)) _
                  have hF' := fr_put hF 143 (v3) rfl (by decide)
                  generalize hA12 : Act.put a11 (some 143) (v3) = a12 at hF' ⊢
                  replace hF := hF'; clear hF'
                  clear ho1 hob hg1 hg3 hb1 hb3 hbb
                  obtain ⟨a5, cap5, e5, hL5, _⟩ := ho3.bds
                  obtain ⟨m5, hm5⟩ : ∃ m5, m5 = (L ++ [(⟨dav, dan, dbv, dbn⟩ : Rea.Bd)]).length := ⟨_, rfl⟩
                  rw [← hm5] at e5
                  subst e5
                  have HL5 := Lib.hid hL5
                  have HM5 := Lib.hid hm5
                  clear ho3 hL5 hm5
                  refine wpAnyH_ready (rs := [12]) (by kernel_rfl) (by simp) ?_
                  refine AllReadyH.cons rfl (fun K hK => ?_) AllReadyH.nil
                  have f132 := fr_at hF 11 rfl
                  have f134 := fr_at hF 9 rfl
                  have f143 := fr_at hF 0 rfl
                  go_simp
                  clear f132 f134 f143
                  go_at_call 38
                  refine (solve_ans (.iface t pv) S HS.out.fn vr a5 m5 cap5 (L ++ [⟨dav, dan, dbv, dbn⟩]) HM5.out _ (HSr.out.below hS).n HL5.out).mono ?_
                  rintro e wa ⟨hb, A5, B5, ca5, xs5, ys5, e5, rfl, hans5, hc51, hc52, hc564, hn51, hn52⟩
                  have HA5 := Lib.hid hans5
                  have HC51 := Lib.hid hc51
                  have HC52 := Lib.hid hc52
                  have HN51 := Lib.hid hn51
                  have HN52 := Lib.hid hn52
                  clear hans5 hc51 hc52 hn51 hn52
                  go_wp2_with fail
                  refine hK.out _ _ (on hS hb) (fun _ => ?_)
                  replace hS := on hS hb
                  clear hK K
                  change wpAnyH _ _ _ _ _ _ _ (a12.put (some 144) (.tuple #[.slice A5 ca5 ca5, .slice B5 ca5 ca5, .int .i64 ((e5 : Nat) : Int)])) _
                  have hF' := fr_put hF 144 (.tuple #[.slice A5 ca5 ca5, .slice B5 ca5 ca5, .int .i64 ((e5 : Nat) : Int)]) rfl (by decide)
                  generalize hA13 : Act.put a12 (some 144) (.tuple #[.slice A5 ca5 ca5, .slice B5 ca5 ca5, .int .i64 ((e5 : Nat) : Int)]) = a13 at hF' ⊢
                  replace hF := hF'; clear hF'
                  refine tk (i := 13) (d := 131) (v := .tuple #[.slice A5 ca5 ca5, .slice B5 ca5 ca5, .int .i64 ((e5 : Nat) : Int)]) hF rfl rfl (by kernel_rfl) (by kernel_rfl) (by kernel_rfl) (fun _ _ _ h => h) (yi_go rfl (fun W hW => ex_move W rfl (fr_at hF 0 rfl))) hS rfl (by decide) (fun a14 hA14 hF' => ?_)
                  replace hF := hF'; clear hF'
                  refine tk (i := 14) (d := 145) (v := .slice A5 ca5 ca5) hF rfl rfl (by kernel_rfl) (by kernel_rfl) (by kernel_rfl) (fun _ _ _ h => h) (yi_go rfl (fun W hW => by have f131 := fr_at hF 0 rfl; go_simp)) hS rfl (by decide) (fun a15 hA15 hF' => ?_)
                  replace hF := hF'; clear hF'
                  refine tk (i := 15) (d := 146) (v := .slice B5 ca5 ca5) hF rfl rfl (by kernel_rfl) (by kernel_rfl) (by kernel_rfl) (fun _ _ _ h => h) (yi_go rfl (fun W hW => by have f131 := fr_at hF 1 rfl; go_simp)) hS rfl (by decide) (fun a16 hA16 hF' => ?_)
                  replace hF := hF'; clear hF'
                  refine tk (i := 16) (d := 147) (v := .int .i64 ((e5 : Nat) : Int)) hF rfl rfl (by kernel_rfl) (by kernel_rfl) (by kernel_rfl) (fun _ _ _ h => h) (yi_go rfl (fun W hW => by have f131 := fr_at hF 2 rfl; go_simp)) hS rfl (by decide) (fun a17 hA17 hF' => ?_)
                  replace hF := hF'; clear hF'
                  refine tk (i := 17) (d := 14) (v := .slice A5 ca5 ca5) hF rfl rfl (by kernel_rfl) (by kernel_rfl) (by kernel_rfl) (fun _ _ _ h => h) (yi_go rfl (fun W hW => ex_assign W rfl (fr_at hF 2 rfl))) hS rfl (by decide) (fun a18 hA18 hF' => ?_)
                  replace hF := hF'; clear hF'
                  refine tk (i := 18) (d := 15) (v := .slice B5 ca5 ca5) hF rfl rfl (by kernel_rfl) (by kernel_rfl) (by kernel_rfl) (fun _ _ _ h => h) (yi_go rfl (fun W hW => ex_assign W rfl (fr_at hF 2 rfl))) hS rfl (by decide) (fun a19 hA19 hF' => ?_)
                  replace hF := hF'; clear hF'
                  refine tk (i := 19) (d := 16) (v := .int .i64 ((e5 : Nat) : Int)) hF rfl rfl (by kernel_rfl) (by kernel_rfl) (by kernel_rfl) (fun _ _ _ h => h) (yi_go rfl (fun W hW => ex_assign W rfl (fr_at hF 2 rfl))) hS rfl (by decide) (fun a20 hA20 hF' => ?_)
                  replace hF := hF'; clear hF'
                  refine wpAnyH_done (by kernel_rfl) ?_ _
                  rw [← hA20, ← hA19, ← hA18, ← hA17, ← hA16, ← hA15, ← hA14, ← hA13, ← hA12, ← hA11, ← hA10, ← hA9, ← hA8, ← hA7, ← hA6, ← hA5, ← hA4, ← hA3, ← hA2, ← hA1, ← hA0]
                  simp only [Act.put, List.setIfInBounds_toArray, List.set_cons_zero, List.set_cons_succ]
                  clear hF
                rotate_left 1
                focus
                  have f141 := fr_at hF 0 rfl
                  go_simp
                  clear f141
                  have hbb : Below wr.heap.size wr (wr.alloc (.cells #[.bool dav, .int .u64 (dan : Int), .bool dbv, .int .u64 (dbn : Int)] 72)).drew := Below.drew ((Below.refl _ _).alloc (Nat.le_refl _) _)
                  have hob : Rea.Bds (wr.alloc (.cells #[.bool dav, .int .u64 (dan : Int), .bool dbv, .int .u64 (dbn : Int)] 72)).drew (some ⟨wr.heap.size, 0, none⟩) [⟨dav, dan, dbv, dbn⟩] := Rea.Bds.below (bds1 wr dav dan dbv dbn u1 u2) (Below.drew (Below.refl _ _))
                  refine hK.out _ _ (hbb) (fun _ => ?_)
                  clear hK K
                  replace hS : Below wr.heap.size wr _ := hbb
                  generalize (wr.alloc (.cells #[.bool dav, .int .u64 (dan : Int), .bool dbv, .int .u64 (dbn : Int)] 72)).drew = wq2 at *
                  change wpAnyH _ _ _ _ _ _ _ (a9.put (some 142) (.slice (some ⟨wr.heap.size, 0, none⟩) 1 1)) _
                  have hF' := fr_put hF 142 (.slice (some ⟨wr.heap.size, 0, none⟩) 1 1) rfl (by decide)
                  generalize hA10 : Act.put a9 (some 142) (.slice (some ⟨wr.heap.size, 0, none⟩) 1 1) = a10 at hF' ⊢
                  replace hF := hF'; clear hF'
                  refine wpAnyH_ready (rs := [5]) (by kernel_rfl) (by simp) ?_
                  refine AllReadyH.cons rfl (fun K hK => ?_) AllReadyH.nil
                  refine Rea.step_own2 rfl (.const (.slice none 0 0)) (.tmp 136) rfl rfl (Rea.Own.nil wr.heap.size _) (some ⟨bb, oo, none⟩) m c2 (ev_tmp (fr_at hF 5 rfl)) H2.out (HLr.out.below hS) (by simp; have := H2.out; omega) hS.size ?_
                  intro v1 wq1 ho1 hg1
                  rw [List.nil_append] at ho1
                  have hb1 : Below wr.heap.size wr wq1 := hS.grown hg1 hS.size (fun k hk => by cases hk)
                  refine hK.out _ _ hb1 (fun _ => ?_)
                  clear hK K
                  replace hS := hb1
                  change wpAnyH _ _ _ _ _ _ _ (a10.put (some 137) (v1)) _
                  have hF' := fr_put hF 137 (v1) rfl (by decide)
                  generalize hA11 : Act.put a10 (some 137) (v1) = a11 at hF' ⊢
                  replace hF := hF'; clear hF'
                  replace hob := hob.below ((Below.refl _ wq2).grown hg1 (Nat.le_refl _) (fun k hk => by cases hk))
                  refine wpAnyH_ready (rs := [11]) (by kernel_rfl) (by simp) ?_
                  refine AllReadyH.cons rfl (fun K hK => ?_) AllReadyH.nil
                  refine Rea.step_own2 rfl (.tmp 137) (.tmp 142) rfl (ev_tmp (fr_at hF 0 rfl)) ho1 (some ⟨wr.heap.size, 0, none⟩) 1 1 (ev_tmp (fr_at hF 1 rfl)) rfl hob (by have := H2.out; simp; omega) hS.size ?_
                  intro v3 wq3 ho3 hg3
                  have hb3 : Below wr.heap.size wr wq3 := hS.grown hg3 hS.size (fun k hk => (ho1.1.lt k hk).1)
                  refine hK.out _ _ hb3 (fun _ => ?_)
                  clear hK K
                  replace hS := hb3
                  change wpAnyH _ _ _ _ _ _ _ (a11.put (some 143) (v3)) _
                  have hF' := fr_put hF 143 (v3) rfl (by decide)
                  generalize hA12 : Act.put a11 (some 143) (v3) = a12 at hF' ⊢
                  replace hF := hF'; clear hF'
                  clear ho1 hob hg1 hg3 hb1 hb3 hbb
                  obtain ⟨a5, cap5, e5, hL5, _⟩ := ho3.bds
                  obtain ⟨m5, hm5⟩ : ∃ m5, m5 = (L ++ [(⟨dav, dan, dbv, dbn⟩ : Rea.Bd)]).length := ⟨_, rfl⟩
                  rw [← hm5] at e5
                  subst e5
                  have HL5 := Lib.hid hL5
                  have HM5 := Lib.hid hm5
                  clear ho3 hL5 hm5
                  refine wpAnyH_ready (rs := [12]) (by kernel_rfl) (by simp) ?_
                  refine AllReadyH.cons rfl (fun K hK => ?_) AllReadyH.nil
                  have f132 := fr_at hF 11 rfl
                  have f134 := fr_at hF 9 rfl
                  have f143 := fr_at hF 0 rfl
                  go_simp
                  clear f132 f134 f143
                  go_at_call 38
                  refine (solve_ans (.iface t pv) S HS.out.fn vr a5 m5 cap5 (L ++ [⟨dav, dan, dbv, dbn⟩]) HM5.out _ (HSr.out.below hS).n HL5.out).mono ?_
                  rintro e wa ⟨hb, A5, B5, ca5, xs5, ys5, e5, rfl, hans5, hc51, hc52, hc564, hn51, hn52⟩
                  have HA5 := Lib.hid hans5
                  have HC51 := Lib.hid hc51
                  have HC52 := Lib.hid hc52
                  have HN51 := Lib.hid hn51
                  have HN52 := Lib.hid hn52
                  clear hans5 hc51 hc52 hn51 hn52
                  go_wp2_with fail
                  refine hK.out _ _ (on hS hb) (fun _ => ?_)
                  replace hS := on hS hb
                  clear hK K
                  change wpAnyH _ _ _ _ _ _ _ (a12.put (some 144) (.tuple #[.slice A5 ca5 ca5, .slice B5 ca5 ca5, .int .i64 ((e5 : Nat) : Int)])) _
                  have hF' := fr_put hF 144 (.tuple #[.slice A5 ca5 ca5, .slice B5 ca5 ca5, .int .i64 ((e5 : Nat) : Int)]) rfl (by decide)
                  generalize hA13 : Act.put a12 (some 144) (.tuple #[.slice A5 ca5 ca5, .slice B5 ca5 ca5, .int .i64 ((e5 : Nat) : Int)]) = a13 at hF' ⊢
                  replace hF := hF'; clear hF'
                  refine tk (i := 13) (d := 131) (v := .tuple #[.slice A5 ca5 ca5, .slice B5 ca5 ca5, .int .i64 ((e5 : Nat) : Int)]) hF rfl rfl (by kernel_rfl) (by kernel_rfl) (by kernel_rfl) (fun _ _ _ h => h) (yi_go rfl (fun W hW => ex_move W rfl (fr_at hF 0 rfl))) hS rfl (by decide) (fun a14 hA14 hF' => ?_)
                  replace hF := hF'; clear hF'
                  refine tk (i := 14) (d := 145) (v := .slice A5 ca5 ca5) hF rfl rfl (by kernel_rfl) (by kernel_rfl) (by kernel_rfl) (fun _ _ _ h => h) (yi_go rfl (fun W hW => by have f131 := fr_at hF 0 rfl; go_simp)) hS rfl (by decide) (fun a15 hA15 hF' => ?_)
                  replace hF := hF'; clear hF'
                  refine tk (i := 15) (d := 146) (v := .slice B5 ca5 ca5) hF rfl rfl (by kernel_rfl) (by kernel_rfl) (by kernel_rfl) (fun _ _ _ h => h) (yi_go rfl (fun W hW => by have f131 := fr_at hF 1 rfl; go_simp)) hS rfl (by decide) (fun a16 hA16 hF' => ?_)
                  replace hF := hF'; clear hF'
                  refine tk (i := 16) (d := 147) (v := .int .i64 ((e5 : Nat) : Int)) hF rfl rfl (by kernel_rfl) (by kernel_rfl) (by kernel_rfl) (fun _ _ _ h => h) (yi_go rfl (fun W hW => by have f131 := fr_at hF 2 rfl; go_simp)) hS rfl (by decide) (fun a17 hA17 hF' => ?_)
                  replace hF := hF'; clear hF'
                  refine tk (i := 17) (d := 14) (v := .slice A5 ca5 ca5) hF rfl rfl (by kernel_rfl) (by kernel_rfl) (by kernel_rfl) (fun _ _ _ h => h) (yi_go rfl (fun W hW => ex_assign W rfl (fr_at hF 2 rfl))) hS rfl (by decide) (fun a18 hA18 hF' => ?_)
                  replace hF := hF'; clear hF'
                  refine tk (i := 18) (d := 15) (v := .slice B5 ca5 ca5) hF rfl rfl (by kernel_rfl) (by kernel_rfl) (by kernel_rfl) (fun _ _ _ h => h) (yi_go rfl (fun W hW => ex_assign W rfl (fr_at hF 2 rfl))) hS rfl (by decide) (fun a19 hA19 hF' => ?_)
                  replace hF := hF'; clear hF'
                  refine tk (i := 19) (d := 16) (v := .int .i64 ((e5 : Nat) : Int)) hF rfl rfl (by kernel_rfl) (by kernel_rfl) (by kernel_rfl) (fun _ _ _ h => h) (yi_go rfl (fun W hW => ex_assign W rfl (fr_at hF 2 rfl))) hS rfl (by decide) (fun a20 hA20 hF' => ?_)
                  replace hF := hF'; clear hF'
                  refine wpAnyH_done (by kernel_rfl) ?_ _
                  rw [← hA20, ← hA19, ← hA18, ← hA17, ← hA16, ← hA15, ← hA14, ← hA13, ← hA12, ← hA11, ← hA10, ← hA9, ← hA8, ← hA7, ← hA6, ← hA5, ← hA4, ← hA3, ← hA2, ← hA1, ← hA0]
                  simp only [Act.put, List.setIfInBounds_toArray, List.set_cons_zero, List.set_cons_succ]
                  clear hF
                all_goals
                  obtain ⟨q0, q1, q2⟩ := ans_same HS.out.fn HA1.out HA5.out (chk_mem HSM.out HLE.out HLE2.out) (sol_mem HSM.out)
                  subst q0 q1 q2
                  have HB9 := Lib.hid (on HBr.out hS)
                  have HNx1 := Lib.hid (HN1.out.below hS)
                  have HNx2 := Lib.hid (HN2.out.below hS)
                  clear hS HA5
                  go_wp2_with fail
                  refine (alive10_any _ (HT.out.below HB9.out)).mono ?_
                  rintro e w10 ⟨rfl, hb⟩
                  have HBx := Lib.hid hb
                  clear hb
                  go_wp2_with fail
                  refine (same_nums A5 ca5 ca5 A j j xs xs HC51.out HC1.out (by omega) (by omega) _ (HN51.out.below HBx.out) (HNx1.out.below HBx.out)).mono ?_
                  rintro e w11 ⟨rfl, hb⟩
                  have HBy := Lib.hid (on HBx.out hb)
                  clear hb
                  have dx : decide (xs = xs) = true := by simp
                  rw [dx]
                  go_wp2_with fail
                  refine (same_nums B5 ca5 ca5 B j j ys ys HC52.out HC2.out (by omega) (by omega) _ (HN52.out.below HBy.out) (HNx2.out.below HBy.out)).mono ?_
                  rintro e w12 ⟨rfl, hb⟩
                  have HBz := Lib.hid (on HB9.out (on HBy.out hb))
                  clear hb
                  have dy : decide (ys = ys) = true := by simp
                  rw [dy]
                  go_wp2_with fail
                  go_ret
                  exact ⟨rfl, HBz.out⟩
        · have de2 : (((e2 : Nat) : Int) != 0) = true := by simp; omega
          by_cases h10 : e1 = 0
          · subst h10
            clear HMO h20
            go_wp2_with fail
            refine (alive10_any _ (HT.out.below HB6.out)).mono ?_
            rintro e wz ⟨rfl, hb⟩
            have HBz := Lib.hid (on HB6.out hb)
            clear hb
            go_wp2_with fail
            go_ret
            exact ⟨rfl, HBz.out⟩
          · have de1 : (((e1 : Nat) : Int) != 0) = true := by simp; omega
            clear HMO h20 h10
            go_wp2_with fail
            refine (alive10_any _ (HT.out.below HB6.out)).mono ?_
            rintro e wz ⟨rfl, hb⟩
            have HBz := Lib.hid (on HB6.out hb)
            clear hb
            go_wp2_with fail
            go_ret
            exact ⟨rfl, HBz.out⟩
end Go.Proofs.YtappaokjlnpbnaaDoor
