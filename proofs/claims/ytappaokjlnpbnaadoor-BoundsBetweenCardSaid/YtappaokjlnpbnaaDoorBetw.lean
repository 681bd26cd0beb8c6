/- Between: the walk. -/
import Derived.Test.YtappaokjlnpbnaaDoorSix
import Derived.Deep.QuietTactic
import Derived.BigQuiet
import Derived.Deep.Cut
import Derived.Deep.CutRange
namespace Go.Proofs.YtappaokjlnpbnaaDoor
open Go.RowKit Go.Proofs.YtappaokjlnpbnaaDoorW.PrintWords
set_option linter.unusedVariables false
theorem chk_not10 (S : SI) (vars : Int) (L : List Rea.Bd) : chkF S vars L ≠ 10 := by
  unfold chkF
  split
  · decide
  · split <;> decide
/-- Solve's answer in one form. -/
def Ans (S : SI) (N : Nat) (L : List Rea.Bd) (A B : Option Addr) (ca e' : Nat) (w' : World) : Prop :=
  (e' ≠ 0 ∧ (e' = 10 → chkF S (N : Int) L = 0 ∧ ¬ ∃ f, Sol S N L f)) ∨ (e' = 0 ∧ chkF S (N : Int) L = 0 ∧ ca = N ∧ ∃ f g Bl Bh, A = some ⟨Bl, 0, none⟩ ∧ B = some ⟨Bh, 0, none⟩ ∧ Low S N L f ∧ High S N L g ∧ RowN w' Bl N f ∧ RowN w' Bh N g)
theorem ans_of {S : SI} {N : Nat} {L : List Rea.Bd} {w w' : World} {e : Ending} (h : SolvedI S (N : Int) L w e w') : Below w.heap.size w w' ∧ ∃ A B ca e', e = .returned (.tuple #[.slice A ca ca, .slice B ca ca, .int .i64 ((e' : Nat) : Int)]) ∧ Ans S N L A B ca e' w' := by
  unfold SolvedI at h
  rw [Int.toNat_natCast] at h
  obtain ⟨hb, ⟨h1, h2⟩ | ⟨h1, h2, h3⟩ | ⟨h1, f, g, Bl, Bh, h2, h3, h4, _, _, h5, h6⟩⟩ := h
  · exact ⟨hb, none, none, 0, _, h2, .inl ⟨h1, fun h => absurd h (chk_not10 _ _ _)⟩⟩
  · exact ⟨hb, none, none, 0, 10, h3, .inl ⟨by decide, fun _ => ⟨h1, h2⟩⟩⟩
  · exact ⟨hb, _, _, N, 0, h4, .inr ⟨rfl, h1, rfl, f, g, Bl, Bh, rfl, rfl, h2, h3, h5, h6⟩⟩
def allH (S : SI) (vals : List Nat) (i : Nat) : Bool := (List.range i).all fun j => S.has (vals.getD j 0)
theorem allH_succ (S : SI) (vals : List Nat) (i : Nat) : allH S vals (i + 1) = (allH S vals i && S.has (vals.getD i 0)) := by
  unfold allH
  rw [List.range_succ, List.all_append]
  simp
set_option maxRecDepth 100000 in
set_option maxHeartbeats 4000000 in
theorem between_in (A1 : Option Addr) (n1 c1 : Nat) (rows : List Nat) (s : Bool) (ef vr : Int) (A2 : Option Addr) (m c2 : Nat) (L : List Rea.Bd) (A3 : Option Addr) (k c3 : Nat) (vals : List Nat)
    (h1 : n1 = rows.length) (hm1 : n1 ≤ 9223372036854775807) (h2 : m = L.length) (hm2 : m ≤ 9223372036854775807) (h3 : k = vals.length) (hm3 : k ≤ c3) (hc3 : c3 ≤ 9223372036854775807) (w : World) (hR : Nums w A1 rows) (hL : Rea.Bds w A2 L) (hV : Nums w A3 vals) (hT : Tab w) :
    Calls Tryd.prog 10 #[.agg #[.slice A1 n1 c1, .bool s, .int .i64 ef, .int .i64 vr, .slice A2 m c2, .slice A3 k c3]] w fun e w' => e = .returned (.bool true) ∧ Below w.heap.size w w' := by
  have HR := Lib.hid hR
  have HL := Lib.hid hL
  have HV := Lib.hid hV
  have HT := Lib.hid hT
  have H1 := Lib.hid h1
  have H2 := Lib.hid h2
  have H3 := Lib.hid h3
  clear hR hL hV hT h1 h2 h3
  have HZ := Lib.hid (six_cells w (.slice A1 n1 c1) (.bool s) (.int .i64 ef) (.int .i64 vr) (.slice A2 m c2) (.slice A3 k c3) 53)
  have HB0 := Lib.hid (lit_below w (.cells #[.slice A1 n1 c1, .bool s, .int .i64 ef, .int .i64 vr, .slice A2 m c2, .slice A3 k c3] 53))
  obtain ⟨z0, z1, z2, z3, z4, z5⟩ := HZ.out
  have HGR := Lib.hid (fun W => great_any A1 n1 c1 s ef vr A2 m c2 A3 k c3 W)
  have HSO := Lib.hid (fun W (h : Below w.heap.size w W) => sort_any A1 n1 c1 s ef vr A2 m c2 A3 k c3 rows H1.out hm1 W (HR.out.below h) (HT.out.below h))
  generalize greatB n1 m k = gr at HGR
  go_enter Tryd.func10, Tryd.ntmps10
  go_wp2_with fail
  obtain ⟨BZ, hBZ⟩ : ∃ B, B = w.heap.size := ⟨_, rfl⟩
  rw [← hBZ] at HZ ⊢
  clear hBZ z0 z1 z2 z3 z4 z5
  generalize hw1 : w.alloc _ = w1 at *
  clear hw1
  refine (HGR.out _).mono ?_
  rintro e w2 ⟨rfl, hb⟩
  obtain ⟨z0, z1, z2, z3, z4, z5⟩ := six_on HZ.out hb
  replace HZ := Lib.hid (six_on HZ.out hb)
  have HB2 := Lib.hid (on HB0.out hb)
  clear hb HB0 HGR
  cases gr with
  | true =>
    go_wp2_with fail
    refine (alive10_any _ (HT.out.below HB2.out)).mono ?_
    rintro e w3 ⟨rfl, hb⟩
    have HB3 := Lib.hid (on HB2.out hb)
    clear hb
    go_wp2_with fail
    go_ret
    exact ⟨rfl, HB3.out⟩
  | false =>
    by_cases hv0 : vr < 0
    · have d0 : decide (vr < 0) = true := by simp; omega
      clear hv0
      go_wp2_with fail
      refine (alive10_any _ (HT.out.below HB2.out)).mono ?_
      rintro e wz ⟨rfl, hb⟩
      have HBz := Lib.hid (on HB2.out hb)
      clear hb
      go_wp2_with fail
      go_ret
      exact ⟨rfl, HBz.out⟩
    · have d0 : decide (vr < 0) = false := by simp; omega
      by_cases hvk : (k : Int) < vr
      · have d1 : decide (vr > (k : Int)) = true := by simp; omega
        clear hv0 hvk
        go_wp2_with fail
        refine (alive10_any _ (HT.out.below HB2.out)).mono ?_
        rintro e wz ⟨rfl, hb⟩
        have HBz := Lib.hid (on HB2.out hb)
        clear hb
        go_wp2_with fail
        go_ret
        exact ⟨rfl, HBz.out⟩
      · obtain ⟨N, rfl⟩ : ∃ N : Nat, vr = N := ⟨vr.toNat, by omega⟩
        have hNk : N ≤ k := by omega
        have d1 : decide ((N : Int) > (k : Int)) = false := by simp; omega
        clear hvk hv0
        go_wp2_with fail
        refine (HSO.out _ HB2.out).mono ?_
        rintro e w3 ⟨⟨v, rfl, hv, hs⟩, hb⟩
        obtain ⟨z0, z1, z2, z3, z4, z5⟩ := six_on HZ.out hb
        replace HZ := Lib.hid (six_on HZ.out hb)
        have HB3 := Lib.hid (on HB2.out hb)
        generalize sortS rows s ef = S at hs
        have HS := Lib.hid hs
        obtain ⟨t, p, rfl, hsc, hfn⟩ := hs
        clear hb hv hsc hfn HSO
        go_wp2_with fail
        refine (solved_all (.iface t p) S HS.out.fn N A2 m c2 L H2.out _ HS.out.n (HL.out.below HB3.out)).mono ?_
        intro e w4 hh
        obtain ⟨hb, A, B, ca, e', rfl, ha⟩ := ans_of hh
        obtain ⟨z0, z1, z2, z3, z4, z5⟩ := six_on HZ.out hb
        replace HZ := Lib.hid (six_on HZ.out hb)
        have HB4 := Lib.hid (on HB3.out hb)
        have HA := Lib.hid ha
        replace HS := Lib.hid (HS.out.below hb)
        clear hb HB3 hh ha
        have i1 : (0 : Int) ≤ (N : Int) := by omega
        have i2 : (N : Int) ≤ (c3 : Int) := by omega
        go_wp2_with fail
        obtain ⟨t', p', ee, hsc, hfn⟩ := HS.out
        obtain ⟨et, ep⟩ : t' = t ∧ p' = p := by
          cases ee
          exact ⟨rfl, rfl⟩
        rw [et, ep] at hsc
        clear et ep
        obtain ⟨fh, ih, ch⟩ := hsc.has
        have mhas := ih.meth
        have khas := ih.call
        have ahas := ih.ahead
        have HCH := Lib.hid ch
        have HV4 := Lib.hid (HV.out.below HB4.out)
        clear ee hsc hfn ih ch
        go_loopw [8, 9] (fun a x wr => ∃ i : Nat, i ≤ N ∧ x = .int .i64 i ∧ a = .bool (allH S vals i) ∧ Hid (Below w4.heap.size w4 wr)) (fun _ x _ => N - (intOf x).toNat)
        case atStart => exact ⟨0, by omega, rfl, rfl, Below.refl _ _⟩
        case round =>
          obtain ⟨i, hi, rfl, rfl, HB⟩ := hrel
          by_cases hiN : i < N
          · have hil : i < vals.length := by rw [← H3.out]; omega
            obtain ⟨bV, oV, eV, _, hc⟩ := (HV4.out.below HB.out).2 (by omega)
            subst eV
            have ci := hc i hil
            have hx64 := HV4.out.1 _ (List.getElem_mem hil)
            have HSU := Lib.hid (allH_succ S vals i)
            rw [show vals.getD i 0 = vals[i] by simp [List.getD, hil]] at HSU
            generalize vals[i] = x at ci hx64 HSU
            generalize allH S vals i = q at HSU
            have HCX := Lib.hid (fun W (h : Below wr.heap.size wr W) => HCH.out W x (on HB.out h) hx64)
            obtain ⟨hx, hhx⟩ : ∃ hx, hx = S.has x := ⟨_, rfl⟩
            rw [← hhx] at HCX HSU
            clear hhx hc
            have j1 : (0 : Int) ≤ (i : Int) := by omega
            have j2 : (i : Int) < (N : Int) := by omega
            cases q with
            | true =>
              go_upto_region 12 with fail
              refine wp_region_held (S := fun W => Below wr.heap.size wr W) (by kernel_rfl) ?_
              generalize hA0 : Act.mk _ _ = a0
              have hF := Fr.nil (n := 169) (a := a0) (by rw [← hA0]; rfl)
              replace hF := Fr.cons hF 9 (.int .i64 (i : Int)) (by rw [← hA0]; rfl)
              replace hF := Fr.cons hF 8 (.bool true) (by rw [← hA0]; rfl)
              replace hF := Fr.cons hF 7 (.slice (some ⟨bV, oV, none⟩) N c3) (by rw [← hA0]; rfl)
              replace hF := Fr.cons hF 3 (.iface t p) (by rw [← hA0]; rfl)
              have hS : Below wr.heap.size wr (World.drew _) := (Below.refl _ wr).drew
              change wpAnyH _ _ _ _ _ _ _ _ (World.drew _)
              refine tk (i := 0) (d := 54) (v := .bool true) hF rfl rfl (by kernel_rfl) (by kernel_rfl) (by kernel_rfl) (fun _ _ _ h => h) (yi_go rfl (fun W hW => ex_move W rfl (fr_at hF 2 rfl))) hS rfl (by decide) (fun a1 hA1 hF' => ?_)
              replace hF := hF'; clear hF'
              refine tk (i := 1) (d := 55) (v := .bool true) hF rfl rfl (by kernel_rfl) (by kernel_rfl) (by kernel_rfl) (fun _ _ _ h => h) (yi_go rfl (fun W hW => ex_move W rfl (fr_at hF 0 rfl))) hS rfl (by decide) (fun a2 hA2 hF' => ?_)
              replace hF := hF'; clear hF'
              refine tk (i := 2) (d := 56) (v := .iface t p) hF rfl rfl (by kernel_rfl) (by kernel_rfl) (by kernel_rfl) (fun _ _ _ h => h) (yi_want rfl rfl (fr_at hF 0 rfl) (fun W hW => ex_move W rfl (fr_at hF 2 rfl))) hS rfl (by decide) (fun a3 hA3 hF' => ?_)
              replace hF := hF'; clear hF'
              refine tk (i := 3) (d := 57) (v := .slice (some ⟨bV, oV, none⟩) N c3) hF rfl rfl (by kernel_rfl) (by kernel_rfl) (by kernel_rfl) (fun _ _ _ h => h) (yi_want rfl rfl (fr_at hF 1 rfl) (fun W hW => ex_move W rfl (fr_at hF 4 rfl))) hS rfl (by decide) (fun a4 hA4 hF' => ?_)
              replace hF := hF'; clear hF'
              refine tk (i := 4) (d := 58) (v := .int .i64 (i : Int)) hF rfl rfl (by kernel_rfl) (by kernel_rfl) (by kernel_rfl) (fun _ _ _ h => h) (yi_want rfl rfl (fr_at hF 2 rfl) (fun W hW => ex_move W rfl (fr_at hF 7 rfl))) hS rfl (by decide) (fun a5 hA5 hF' => ?_)
              replace hF := hF'; clear hF'
              refine tk (i := 5) (d := 59) (v := .pointer (some ⟨bV, oV + i, none⟩)) hF rfl rfl (by kernel_rfl) (by kernel_rfl) (by kernel_rfl) (fun _ _ _ h => h) (yi_want rfl rfl (fr_at hF 3 rfl) (fun W hW => by have f57 := fr_at hF 1 rfl; have f58 := fr_at hF 0 rfl; go_simp)) hS rfl (by decide) (fun a6 hA6 hF' => ?_)
              replace hF := hF'; clear hF'
              refine tk (i := 6) (d := 60) (v := .int .u64 (x : Int)) hF rfl rfl (by kernel_rfl) (by kernel_rfl) (by kernel_rfl) (fun _ _ _ h => h) (yi_want rfl rfl (fr_at hF 4 rfl) (fun W hW => by replace ci := (hW.cell (p := ⟨bV, oV + i, none⟩) (World.block_lt_of_cell? _ _ ci)).trans ci; have f59 := fr_at hF 0 rfl; go_simp)) hS rfl (by decide) (fun a7 hA7 hF' => ?_)
              replace hF := hF'; clear hF'
              refine tk (i := 7) (d := 61) (v := .func (.method "Has") #[.iface t p] #[]) hF rfl rfl (by kernel_rfl) (by kernel_rfl) (by kernel_rfl) (fun _ _ _ h => h) (yi_want rfl rfl (fr_at hF 5 rfl) (fun W hW => by have f56 := fr_at hF 4 rfl; go_simp)) hS rfl (by decide) (fun a8 hA8 hF' => ?_)
              replace hF := hF'; clear hF'
              refine tk (i := 8) (d := 62) (v := .func (.method "Has") #[.iface t p] #[]) hF rfl rfl (by kernel_rfl) (by kernel_rfl) (by kernel_rfl) (fun _ _ _ h => h) (yi_want rfl rfl (fr_at hF 6 rfl) (fun W hW => by have f61 := fr_at hF 0 rfl; go_simp)) hS rfl (by decide) (fun a9 hA9 hF' => ?_)
              replace hF := hF'; clear hF'
              refine tk (i := 9) (d := 63) (v := .iface t p) hF rfl rfl (by kernel_rfl) (by kernel_rfl) (by kernel_rfl) (fun _ _ _ h => h) (yi_want rfl rfl (fr_at hF 7 rfl) (fun W hW => ex_move W rfl (fr_at hF 6 rfl))) hS rfl (by decide) (fun a10 hA10 hF' => ?_)
              replace hF := hF'; clear hF'
              refine wpAnyH_ready (rs := [10]) (by kernel_rfl) (by simp) ?_
              refine AllReadyH.cons rfl (fun K hK => ?_) AllReadyH.nil
              rw [if_pos (by rw [guard_at rfl rfl (fr_at hF 8 rfl)]; rfl)]
              have f63 := fr_at hF 0 rfl
              have f60 := fr_at hF 3 rfl
              go_simp
              clear f63 f60
              refine (HCX.out _ hS).mono ?_
              rintro e wa ⟨rfl, hb⟩
              go_wp2_with fail
              refine hK.out _ _ (on hS hb) (fun _ => ?_)
              replace hS := on hS hb
              clear hK K
              change wpAnyH _ _ _ _ _ _ _ (a10.put (some 64) (.bool hx)) _
              have hF' := fr_put hF 64 (.bool hx) rfl (by decide)
              generalize hA11 : Act.put a10 (some 64) (.bool hx) = a11 at hF' ⊢
              replace hF := hF'; clear hF'
              refine tk (i := 11) (d := 65) (v := .bool hx) hF rfl rfl (by kernel_rfl) (by kernel_rfl) (by kernel_rfl) (fun _ _ _ h => h) (yi_go rfl (fun W hW => by have f55 := fr_at hF 9 rfl; have f64 := fr_at hF 0 rfl; go_simp)) hS rfl (by decide) (fun a12 hA12 hF' => ?_)
              replace hF := hF'; clear hF'
              replace hF := fr_erase hF 14
              simp only [List.eraseIdx_cons_succ, List.eraseIdx_cons_zero] at hF
              refine tk (i := 12) (d := 8) (v := .bool hx) hF rfl rfl (by kernel_rfl) (by kernel_rfl) (by kernel_rfl) (fun _ _ _ h => h) (yi_go rfl (fun W hW => ex_assign W rfl (fr_at hF 0 rfl))) hS rfl (by decide) (fun a13 hA13 hF' => ?_)
              replace hF := hF'; clear hF'
              refine wpAnyH_done (by kernel_rfl) ?_ _
              rw [← hA13, ← hA12, ← hA11, ← hA10, ← hA9, ← hA8, ← hA7, ← hA6, ← hA5, ← hA4, ← hA3, ← hA2, ← hA1, ← hA0]
              simp only [Act.put, List.setIfInBounds_toArray, List.set_cons_zero, List.set_cons_succ]
              clear hF
              have HB5 := Lib.hid (on HB.out hS)
              clear hS
              go_wp2_with fail
              go_roundw
              case rel => exact ⟨i + 1, by omega, by go_num, by rw [HSU.out]; rfl, HB5.out⟩
              case measure => simp [intOf]; omega
            | false =>
              go_upto_region 12 with fail
              refine wp_region_held (S := fun W => Below wr.heap.size wr W) (by kernel_rfl) ?_
              generalize hA0 : Act.mk _ _ = a0
              have hF := Fr.nil (n := 169) (a := a0) (by rw [← hA0]; rfl)
              replace hF := Fr.cons hF 9 (.int .i64 (i : Int)) (by rw [← hA0]; rfl)
              replace hF := Fr.cons hF 8 (.bool false) (by rw [← hA0]; rfl)
              replace hF := Fr.cons hF 7 (.slice (some ⟨bV, oV, none⟩) N c3) (by rw [← hA0]; rfl)
              replace hF := Fr.cons hF 3 (.iface t p) (by rw [← hA0]; rfl)
              have hS : Below wr.heap.size wr (World.drew _) := (Below.refl _ wr).drew
              change wpAnyH _ _ _ _ _ _ _ _ (World.drew _)
              refine tk (i := 0) (d := 54) (v := .bool false) hF rfl rfl (by kernel_rfl) (by kernel_rfl) (by kernel_rfl) (fun _ _ _ h => h) (yi_go rfl (fun W hW => ex_move W rfl (fr_at hF 2 rfl))) hS rfl (by decide) (fun a1 hA1 hF' => ?_)
              replace hF := hF'; clear hF'
              refine tk (i := 1) (d := 55) (v := .bool false) hF rfl rfl (by kernel_rfl) (by kernel_rfl) (by kernel_rfl) (fun _ _ _ h => h) (yi_go rfl (fun W hW => ex_move W rfl (fr_at hF 0 rfl))) hS rfl (by decide) (fun a2 hA2 hF' => ?_)
              replace hF := hF'; clear hF'
              refine tk (i := 2) (d := 56) (v := undef) hF rfl rfl (by kernel_rfl) (by kernel_rfl) (by kernel_rfl) (fun _ _ _ h => h) (yi_skip rfl rfl (fr_at hF 0 rfl)) hS rfl (by decide) (fun a3 hA3 hF' => ?_)
              replace hF := hF'; clear hF'
              refine tk (i := 3) (d := 57) (v := undef) hF rfl rfl (by kernel_rfl) (by kernel_rfl) (by kernel_rfl) (fun _ _ _ h => h) (yi_skip rfl rfl (fr_at hF 1 rfl)) hS rfl (by decide) (fun a4 hA4 hF' => ?_)
              replace hF := hF'; clear hF'
              refine tk (i := 4) (d := 58) (v := undef) hF rfl rfl (by kernel_rfl) (by kernel_rfl) (by kernel_rfl) (fun _ _ _ h => h) (yi_skip rfl rfl (fr_at hF 2 rfl)) hS rfl (by decide) (fun a5 hA5 hF' => ?_)
              replace hF := hF'; clear hF'
              refine tk (i := 5) (d := 59) (v := undef) hF rfl rfl (by kernel_rfl) (by kernel_rfl) (by kernel_rfl) (fun _ _ _ h => h) (yi_skip rfl rfl (fr_at hF 3 rfl)) hS rfl (by decide) (fun a6 hA6 hF' => ?_)
              replace hF := hF'; clear hF'
              refine tk (i := 6) (d := 60) (v := undef) hF rfl rfl (by kernel_rfl) (by kernel_rfl) (by kernel_rfl) (fun _ _ _ h => h) (yi_skip rfl rfl (fr_at hF 4 rfl)) hS rfl (by decide) (fun a7 hA7 hF' => ?_)
              replace hF := hF'; clear hF'
              refine tk (i := 7) (d := 61) (v := undef) hF rfl rfl (by kernel_rfl) (by kernel_rfl) (by kernel_rfl) (fun _ _ _ h => h) (yi_skip rfl rfl (fr_at hF 5 rfl)) hS rfl (by decide) (fun a8 hA8 hF' => ?_)
              replace hF := hF'; clear hF'
              refine tk (i := 8) (d := 62) (v := undef) hF rfl rfl (by kernel_rfl) (by kernel_rfl) (by kernel_rfl) (fun _ _ _ h => h) (yi_skip rfl rfl (fr_at hF 6 rfl)) hS rfl (by decide) (fun a9 hA9 hF' => ?_)
              replace hF := hF'; clear hF'
              refine tk (i := 9) (d := 63) (v := undef) hF rfl rfl (by kernel_rfl) (by kernel_rfl) (by kernel_rfl) (fun _ _ _ h => h) (yi_skip rfl rfl (fr_at hF 7 rfl)) hS rfl (by decide) (fun a10 hA10 hF' => ?_)
              replace hF := hF'; clear hF'
              refine tk (i := 10) (d := 64) (v := undef) hF rfl rfl (by kernel_rfl) (by kernel_rfl) (by kernel_rfl) (fun _ _ _ h => h) (yi_skip rfl rfl (fr_at hF 8 rfl)) hS rfl (by decide) (fun a11 hA11 hF' => ?_)
              replace hF := hF'; clear hF'
              refine tk (i := 11) (d := 65) (v := .bool false) hF rfl rfl (by kernel_rfl) (by kernel_rfl) (by kernel_rfl) (fun _ _ _ h => h) (yi_go rfl (fun W hW => by have f55 := fr_at hF 9 rfl; have f64 := fr_at hF 0 rfl; go_simp)) hS rfl (by decide) (fun a12 hA12 hF' => ?_)
              replace hF := hF'; clear hF'
              replace hF := fr_erase hF 14
              simp only [List.eraseIdx_cons_succ, List.eraseIdx_cons_zero] at hF
              refine tk (i := 12) (d := 8) (v := .bool false) hF rfl rfl (by kernel_rfl) (by kernel_rfl) (by kernel_rfl) (fun _ _ _ h => h) (yi_go rfl (fun W hW => ex_assign W rfl (fr_at hF 0 rfl))) hS rfl (by decide) (fun a13 hA13 hF' => ?_)
              replace hF := hF'; clear hF'
              refine wpAnyH_done (by kernel_rfl) ?_ _
              rw [← hA13, ← hA12, ← hA11, ← hA10, ← hA9, ← hA8, ← hA7, ← hA6, ← hA5, ← hA4, ← hA3, ← hA2, ← hA1, ← hA0]
              simp only [Act.put, List.setIfInBounds_toArray, List.set_cons_zero, List.set_cons_succ]
              clear hF
              have HB5 := Lib.hid (on HB.out hS)
              clear hS
              go_wp2_with fail
              go_roundw
              case rel => exact ⟨i + 1, by omega, by go_num, by rw [HSU.out]; rfl, HB5.out⟩
              case measure => simp [intOf]; omega
          · obtain rfl : i = N := by omega
            clear hiN
            obtain ⟨z0, z1, z2, z3, z4, z5⟩ := six_on HZ.out HB.out
            have HZr := Lib.hid (six_on HZ.out HB.out)
            have HSr := Lib.hid (HS.out.below HB.out)
            have HLr := Lib.hid (HL.out.below (on HB4.out HB.out))
            have HVr := Lib.hid (HV4.out.below HB.out)
            have HBr := Lib.hid (on HB4.out HB.out)
            have HBW4 := Lib.hid HB.out
            have HHO := Lib.hid (fun W (h : Below wr.heap.size wr W) => hold_any (.iface t p) S A3 i c3 (vals.take i) (by rw [List.length_take, ← H3.out]; omega) (by omega) A2 m c2 L H2.out hm2 W (HSr.out.below h).n ((HVr.out.below h).take i) (HLr.out.below h))
            have HAr := Lib.hid (show Ans S i L A B ca e' wr from by
              rcases HA.out with h | ⟨h1, h2, h3, f, g, Bl, Bh, h4, h5, h6, h7, h8, h9⟩
              · exact .inl h
              · exact .inr ⟨h1, h2, h3, f, g, Bl, Bh, h4, h5, h6, h7, h8.below HB.out, h9.below HB.out⟩)
            have HIS := Lib.hid (show chkF S (i : Int) L = 0 → allH S vals i = true → holdF S (vals.take i) L = true → Sol S i L (fun j => vals.getD j 0) from fun hc ha hh => by
              rw [← take_lst (by rw [← H3.out]; exact hNk)] at hh
              have hl : L.length ≤ 256 := by
                unfold chkF at hc
                by_cases hx : L.length ≤ 256
                · exact hx
                · rw [if_pos (by omega)] at hc
                  cases hc
              have h64 : i ≤ 64 := by
                unfold chkF at hc
                by_cases hx : i ≤ 64
                · exact hx
                · rw [if_pos (by omega)] at hc
                  cases hc
              exact ⟨fun j hj => List.all_eq_true.1 ha j (List.mem_range.2 hj), (hold_iff _ (chk_all h64 hl hc)).1 hh⟩)
            clear HA HB4 HB HCH
            generalize allH S vals i = q at HIS
            generalize holdF S (vals.take i) L = hr at HHO HIS
            rcases HAr.out with ⟨he, htn⟩ | ⟨rfl, hc, hca, f, g, Bl, Bh, rfl, rfl, hf, hg, rf, rg⟩
            · have de : (((e' : Nat) : Int) != 0) = true := by simp; omega
              have HTN := Lib.hid htn
              clear htn HAr
              cases q with
              | false =>
                by_cases ht : e' = 10
                · have dt : (((e' : Nat) : Int) != 10) = false := by simp; omega
                  clear ht he
                  go_wp2_with fail
                  refine (alive10_any _ (HT.out.below HBr.out)).mono ?_
                  rintro e wz ⟨rfl, hb⟩
                  have HBz := Lib.hid (on HBr.out hb)
                  clear hb
                  go_wp2_with fail
                  go_ret
                  exact ⟨rfl, HBz.out⟩
                · have dt : (((e' : Nat) : Int) != 10) = true := by simp; omega
                  clear ht he
                  go_wp2_with fail
                  refine (alive10_any _ (HT.out.below HBr.out)).mono ?_
                  rintro e wz ⟨rfl, hb⟩
                  have HBz := Lib.hid (on HBr.out hb)
                  clear hb
                  go_wp2_with fail
                  go_ret
                  exact ⟨rfl, HBz.out⟩
              | true =>
                by_cases ht : e' = 10
                · have dt : (((e' : Nat) : Int) != 10) = false := by simp; omega
                  obtain rfl : hr = false := by
                    cases hr with
                    | false => rfl
                    | true => exact absurd ⟨_, HIS.out (HTN.out ht).1 rfl rfl⟩ (HTN.out ht).2
                  clear ht he
                  go_wp2_with fail
                  refine (HHO.out _ (Below.refl _ _)).mono ?_
                  rintro e w6 ⟨rfl, hb⟩
                  obtain ⟨z0, z1, z2, z3, z4, z5⟩ := six_on HZr.out hb
                  have HB6 := Lib.hid (on HBr.out hb)
                  clear hb
                  go_wp2_with fail
                  refine (alive10_any _ (HT.out.below HB6.out)).mono ?_
                  rintro e wz ⟨rfl, hb⟩
                  have HBz := Lib.hid (on HB6.out hb)
                  clear hb
                  go_wp2_with fail
                  go_ret
                  exact ⟨rfl, HBz.out⟩
                · have dt : (((e' : Nat) : Int) != 10) = true := by simp; omega
                  clear ht he
                  go_wp2_with fail
                  refine (HHO.out _ (Below.refl _ _)).mono ?_
                  rintro e w6 ⟨rfl, hb⟩
                  obtain ⟨z0, z1, z2, z3, z4, z5⟩ := six_on HZr.out hb
                  have HB6 := Lib.hid (on HBr.out hb)
                  clear hb
                  go_wp2_with fail
                  refine (alive10_any _ (HT.out.below HB6.out)).mono ?_
                  rintro e wz ⟨rfl, hb⟩
                  have HBz := Lib.hid (on HB6.out hb)
                  clear hb
                  go_wp2_with fail
                  go_ret
                  exact ⟨rfl, HBz.out⟩
            · obtain rfl := hca.symm
              have HC := Lib.hid hc
              have HF := Lib.hid hf
              have HG := Lib.hid hg
              have HRF := Lib.hid rf
              have HRG := Lib.hid rg
              have HOKS := Lib.hid (show i ≤ 64 ∧ L.length ≤ 256 from by
                unfold chkF at hc
                by_cases hx : i ≤ 64 ∧ L.length ≤ 256
                · exact hx
                · rw [if_pos (by omega)] at hc
                  cases hc)
              have HOK := Lib.hid (chk_all HOKS.out.1 HOKS.out.2 hc)
              have HFL := Lib.hid (fun (f : Nat → Nat) (h : Sol S i L f) j (hj : j < i) => (show f j < 18446744073709551616 from by
                rcases HS.out.fn with k | k
                · exact k.lt _ (h.1 j hj)
                · have := h.1 j hj
                  rw [k.has] at this
                  cases this))
              have HNF := Lib.hid (rf.nums (HFL.out f hf.1))
              have HNG := Lib.hid (rg.nums (HFL.out g hg.1))
              have HHL := Lib.hid (fun W (h : Below wr.heap.size wr W) => hold_any (.iface t p) S (some ⟨Bl, 0, none⟩) i i (lst i f) (lst_length i f).symm (by omega) A2 m c2 L H2.out hm2 W (HSr.out.below h).n (HNF.out.below h) (HLr.out.below h))
              have HHH := Lib.hid (fun W (h : Below wr.heap.size wr W) => hold_any (.iface t p) S (some ⟨Bh, 0, none⟩) i i (lst i g) (lst_length i g).symm (by omega) A2 m c2 L H2.out hm2 W (HSr.out.below h).n (HNG.out.below h) (HLr.out.below h))
              rw [(hold_iff f HOK.out).2 hf.1.2] at HHL
              rw [(hold_iff g HOK.out).2 hg.1.2] at HHH
              have dn : ((i : Int) != (i : Int)) = false := by simp
              clear hc hf hg rf rg HAr
              obtain ⟨t2, p2, ee, hsc, hfn⟩ := HS.out
              obtain ⟨et, ep⟩ : t2 = t ∧ p2 = p := by
                cases ee
                exact ⟨rfl, rfl⟩
              rw [et, ep] at hsc
              clear et ep
              obtain ⟨fb, ib, cb⟩ := hsc.below
              have mbel := ib.meth
              have kbel := ib.call
              have abel := ib.ahead
              have HCBE := Lib.hid (fun W a b (h : Below wr.heap.size wr W) => cb W a b (on HBW4.out h))
              clear ee hsc hfn ib cb
              cases q with
              | false =>
                go_wp2_with fail
                refine (HHL.out _ (Below.refl _ _)).mono ?_
                rintro e w6 ⟨rfl, hb⟩
                obtain ⟨z0, z1, z2, z3, z4, z5⟩ := six_on HZr.out hb
                have HB6 := Lib.hid hb
                clear hb
                go_wp2_with fail
                refine (HHH.out _ HB6.out).mono ?_
                rintro e w7 ⟨rfl, hb⟩
                have HB7 := Lib.hid (on HB6.out hb)
                obtain ⟨z0, z1, z2, z3, z4, z5⟩ := six_on HZr.out HB7.out
                clear hb HB6
                go_wp2_with fail
                go_loopw [11] (fun x wr => ∃ j : Nat, j ≤ i ∧ x = .int .i64 j ∧ Hid (Below w7.heap.size w7 wr)) (fun x _ => i - (intOf x).toNat)
                case atStart => exact ⟨0, by omega, rfl, Below.refl _ _⟩
                case round =>
                  obtain ⟨j, hj, rfl, HBq⟩ := hrel
                  obtain ⟨z0, z1, z2, z3, z4, z5⟩ := six_on (six_on HZr.out HB7.out) HBq.out
                  by_cases hji : j < i
                  · have HWq := Lib.hid (on HB7.out HBq.out)
                    have cl := World.rowIs.cell (HRF.out.below HWq.out) hji
                    have ch := World.rowIs.cell (HRG.out.below HWq.out) hji
                    have hjl : j < vals.length := by rw [← H3.out]; omega
                    obtain ⟨bV, oV, eV, _, hcv⟩ := (HVr.out.below HWq.out).2 (by omega)
                    subst eV
                    have cv := hcv j hjl
                    have l1 := HFL.out f HF.out.1 j hji
                    have l2 := HFL.out g HG.out.1 j hji
                    have l3 := HVr.out.1 _ (List.getElem_mem hjl)
                    have b1 := HF.out.2 g HG.out.1 j hji
                    have B2 := Lib.hid (fun h : Sol S i L (fun j => vals.getD j 0) => (⟨HF.out.2 _ h j hji, HG.out.2 _ h j hji⟩ : S.below (f j) (vals.getD j 0) = true ∧ S.below (vals.getD j 0) (g j) = true))
                    rw [show vals.getD j 0 = vals[j] by simp [List.getD, hjl]] at B2
                    generalize vals[j] = x at cv l3 B2
                    generalize f j = y at cl l1 b1 B2
                    generalize g j = z at ch l2 b1 B2
                    have HQ1 := Lib.hid (fun W (h : Below wr.heap.size wr W) => b1 ▸ HCBE.out W y z (on HWq.out h) l1 l2)
                    have j1 : (0 : Int) ≤ (j : Int) := by omega
                    have j2 : (j : Int) < (i : Int) := by omega
                    clear hcv b1 B2
                    go_upto_region 21 with fail
                    refine wp_region_held (S := fun W => Below wr.heap.size wr W) (by kernel_rfl) ?_
                    generalize hA0 : Act.mk _ _ = a0
                    have hF := Fr.nil (n := 169) (a := a0) (by rw [← hA0]; rfl)
                    replace hF := Fr.cons hF 11 (.int .i64 (j : Int)) (by rw [← hA0]; rfl)
                    replace hF := Fr.cons hF 10 (.bool false) (by rw [← hA0]; rfl)
                    replace hF := Fr.cons hF 7 (.slice (some ⟨bV, oV, none⟩) i c3) (by rw [← hA0]; rfl)
                    replace hF := Fr.cons hF 5 (.slice (some ⟨Bh, 0, none⟩) i i) (by rw [← hA0]; rfl)
                    replace hF := Fr.cons hF 4 (.slice (some ⟨Bl, 0, none⟩) i i) (by rw [← hA0]; rfl)
                    replace hF := Fr.cons hF 3 (.iface t p) (by rw [← hA0]; rfl)
                    have hS : Below wr.heap.size wr (World.drew _) := (Below.refl _ wr).drew
                    change wpAnyH _ _ _ _ _ _ _ _ (World.drew _)
                    refine tk (i := 0) (d := 119) (v := .iface t p) hF rfl rfl (by kernel_rfl) (by kernel_rfl) (by kernel_rfl) (fun _ _ _ h => h) (yi_go rfl (fun W hW => ex_move W rfl (fr_at hF 0 rfl))) hS rfl (by decide) (fun a1 hA1 hF' => ?_)
                    replace hF := hF'; clear hF'
                    refine tk (i := 1) (d := 120) (v := .slice (some ⟨Bl, 0, none⟩) i i) hF rfl rfl (by kernel_rfl) (by kernel_rfl) (by kernel_rfl) (fun _ _ _ h => h) (yi_go rfl (fun W hW => ex_move W rfl (fr_at hF 2 rfl))) hS rfl (by decide) (fun a2 hA2 hF' => ?_)
                    replace hF := hF'; clear hF'
                    refine tk (i := 2) (d := 121) (v := .int .i64 (j : Int)) hF rfl rfl (by kernel_rfl) (by kernel_rfl) (by kernel_rfl) (fun _ _ _ h => h) (yi_go rfl (fun W hW => ex_move W rfl (fr_at hF 7 rfl))) hS rfl (by decide) (fun a3 hA3 hF' => ?_)
                    replace hF := hF'; clear hF'
                    refine tk (i := 3) (d := 122) (v := .pointer (some ⟨Bl, j, none⟩)) hF rfl rfl (by kernel_rfl) (by kernel_rfl) (by kernel_rfl) (fun _ _ _ h => h) (yi_go rfl (fun W hW => by have f120 := fr_at hF 1 rfl; have f121 := fr_at hF 0 rfl; go_simp)) hS rfl (by decide) (fun a4 hA4 hF' => ?_)
                    replace hF := hF'; clear hF'
                    refine tk (i := 4) (d := 123) (v := .int .u64 (y : Int)) hF rfl rfl (by kernel_rfl) (by kernel_rfl) (by kernel_rfl) (fun _ _ _ h => h) (yi_go rfl (fun W hW => by replace cl := (hW.cell (p := ⟨Bl, j, none⟩) (World.block_lt_of_cell? _ _ cl)).trans cl; have f122 := fr_at hF 0 rfl; go_simp)) hS rfl (by decide) (fun a5 hA5 hF' => ?_)
                    replace hF := hF'; clear hF'
                    refine tk (i := 5) (d := 124) (v := .slice (some ⟨Bh, 0, none⟩) i i) hF rfl rfl (by kernel_rfl) (by kernel_rfl) (by kernel_rfl) (fun _ _ _ h => h) (yi_go rfl (fun W hW => ex_move W rfl (fr_at hF 7 rfl))) hS rfl (by decide) (fun a6 hA6 hF' => ?_)
                    replace hF := hF'; clear hF'
                    refine tk (i := 6) (d := 125) (v := .int .i64 (j : Int)) hF rfl rfl (by kernel_rfl) (by kernel_rfl) (by kernel_rfl) (fun _ _ _ h => h) (yi_go rfl (fun W hW => ex_move W rfl (fr_at hF 11 rfl))) hS rfl (by decide) (fun a7 hA7 hF' => ?_)
                    replace hF := hF'; clear hF'
                    refine tk (i := 7) (d := 126) (v := .pointer (some ⟨Bh, j, none⟩)) hF rfl rfl (by kernel_rfl) (by kernel_rfl) (by kernel_rfl) (fun _ _ _ h => h) (yi_go rfl (fun W hW => by have f124 := fr_at hF 1 rfl; have f125 := fr_at hF 0 rfl; go_simp)) hS rfl (by decide) (fun a8 hA8 hF' => ?_)
                    replace hF := hF'; clear hF'
                    refine tk (i := 8) (d := 127) (v := .int .u64 (z : Int)) hF rfl rfl (by kernel_rfl) (by kernel_rfl) (by kernel_rfl) (fun _ _ _ h => h) (yi_go rfl (fun W hW => by replace ch := (hW.cell (p := ⟨Bh, j, none⟩) (World.block_lt_of_cell? _ _ ch)).trans ch; have f126 := fr_at hF 0 rfl; go_simp)) hS rfl (by decide) (fun a9 hA9 hF' => ?_)
                    replace hF := hF'; clear hF'
                    refine tk (i := 9) (d := 128) (v := .func (.method "Below") #[.iface t p] #[]) hF rfl rfl (by kernel_rfl) (by kernel_rfl) (by kernel_rfl) (fun _ _ _ h => h) (yi_go rfl (fun W hW => by have f119 := fr_at hF 8 rfl; go_simp)) hS rfl (by decide) (fun a10 hA10 hF' => ?_)
                    replace hF := hF'; clear hF'
                    refine tk (i := 10) (d := 129) (v := .func (.method "Below") #[.iface t p] #[]) hF rfl rfl (by kernel_rfl) (by kernel_rfl) (by kernel_rfl) (fun _ _ _ h => h) (yi_go rfl (fun W hW => by have f128 := fr_at hF 0 rfl; go_simp)) hS rfl (by decide) (fun a11 hA11 hF' => ?_)
                    replace hF := hF'; clear hF'
                    refine tk (i := 11) (d := 130) (v := .iface t p) hF rfl rfl (by kernel_rfl) (by kernel_rfl) (by kernel_rfl) (fun _ _ _ h => h) (yi_go rfl (fun W hW => ex_move W rfl (fr_at hF 10 rfl))) hS rfl (by decide) (fun a12 hA12 hF' => ?_)
                    replace hF := hF'; clear hF'
                    refine wpAnyH_ready (rs := [12]) (by kernel_rfl) (by simp) ?_
                    refine AllReadyH.cons rfl (fun K hK => ?_) AllReadyH.nil
                    have f130 := fr_at hF 0 rfl
                    have f123 := fr_at hF 7 rfl
                    have f127 := fr_at hF 3 rfl
                    go_simp
                    clear f130 f123 f127
                    refine (HQ1.out _ hS).mono ?_
                    rintro e wa ⟨rfl, hb⟩
                    go_wp2_with fail
                    refine hK.out _ _ (on hS hb) (fun _ => ?_)
                    replace hS := on hS hb
                    clear hK K
                    change wpAnyH _ _ _ _ _ _ _ (a12.put (some 131) (.bool true)) _
                    have hF' := fr_put hF 131 (.bool true) rfl (by decide)
                    generalize hA13 : Act.put a12 (some 131) (.bool true) = a13 at hF' ⊢
                    replace hF := hF'; clear hF'
                    refine tk (i := 13) (d := 132) (v := .bool false) hF rfl rfl (by kernel_rfl) (by kernel_rfl) (by kernel_rfl) (fun _ _ _ h => h) (yi_go rfl (fun W hW => by have f131 := fr_at hF 0 rfl; go_simp)) hS rfl (by decide) (fun a14 hA14 hF' => ?_)
                    replace hF := hF'; clear hF'
                    refine tk (i := 14) (d := 133) (v := .bool false) hF rfl rfl (by kernel_rfl) (by kernel_rfl) (by kernel_rfl) (fun _ _ _ h => h) (yi_go rfl (fun W hW => ex_move W rfl (fr_at hF 0 rfl))) hS rfl (by decide) (fun a15 hA15 hF' => ?_)
                    replace hF := hF'; clear hF'
                    refine tk (i := 15) (d := 134) (v := .bool false) hF rfl rfl (by kernel_rfl) (by kernel_rfl) (by kernel_rfl) (fun _ _ _ h => h) (yi_want rfl rfl (fr_at hF 0 rfl) (fun W hW => ex_move W rfl (fr_at hF 19 rfl))) hS rfl (by decide) (fun a16 hA16 hF' => ?_)
                    replace hF := hF'; clear hF'
                    refine tk (i := 16) (d := 135) (v := .bool false) hF rfl rfl (by kernel_rfl) (by kernel_rfl) (by kernel_rfl) (fun _ _ _ h => h) (yi_want rfl rfl (fr_at hF 1 rfl) (fun W hW => ex_move W rfl (fr_at hF 0 rfl))) hS rfl (by decide) (fun a17 hA17 hF' => ?_)
                    replace hF := hF'; clear hF'
                    refine tk (i := 17) (d := 136) (v := undef) hF rfl rfl (by kernel_rfl) (by kernel_rfl) (by kernel_rfl) (fun _ _ _ h => h) (yi_skip rfl rfl (fr_at hF 0 rfl)) hS rfl (by decide) (fun a18 hA18 hF' => ?_)
                    replace hF := hF'; clear hF'
                    refine tk (i := 18) (d := 137) (v := undef) hF rfl rfl (by kernel_rfl) (by kernel_rfl) (by kernel_rfl) (fun _ _ _ h => h) (yi_skip rfl rfl (fr_at hF 1 rfl)) hS rfl (by decide) (fun a19 hA19 hF' => ?_)
                    replace hF := hF'; clear hF'
                    refine tk (i := 19) (d := 138) (v := undef) hF rfl rfl (by kernel_rfl) (by kernel_rfl) (by kernel_rfl) (fun _ _ _ h => h) (yi_skip rfl rfl (fr_at hF 2 rfl)) hS rfl (by decide) (fun a20 hA20 hF' => ?_)
                    replace hF := hF'; clear hF'
                    refine tk (i := 20) (d := 139) (v := undef) hF rfl rfl (by kernel_rfl) (by kernel_rfl) (by kernel_rfl) (fun _ _ _ h => h) (yi_skip rfl rfl (fr_at hF 3 rfl)) hS rfl (by decide) (fun a21 hA21 hF' => ?_)
                    replace hF := hF'; clear hF'
                    refine tk (i := 21) (d := 140) (v := undef) hF rfl rfl (by kernel_rfl) (by kernel_rfl) (by kernel_rfl) (fun _ _ _ h => h) (yi_skip rfl rfl (fr_at hF 4 rfl)) hS rfl (by decide) (fun a22 hA22 hF' => ?_)
                    replace hF := hF'; clear hF'
                    refine tk (i := 22) (d := 141) (v := undef) hF rfl rfl (by kernel_rfl) (by kernel_rfl) (by kernel_rfl) (fun _ _ _ h => h) (yi_skip rfl rfl (fr_at hF 5 rfl)) hS rfl (by decide) (fun a23 hA23 hF' => ?_)
                    replace hF := hF'; clear hF'
                    refine tk (i := 23) (d := 142) (v := undef) hF rfl rfl (by kernel_rfl) (by kernel_rfl) (by kernel_rfl) (fun _ _ _ h => h) (yi_skip rfl rfl (fr_at hF 6 rfl)) hS rfl (by decide) (fun a24 hA24 hF' => ?_)
                    replace hF := hF'; clear hF'
                    refine tk (i := 24) (d := 143) (v := undef) hF rfl rfl (by kernel_rfl) (by kernel_rfl) (by kernel_rfl) (fun _ _ _ h => h) (yi_skip rfl rfl (fr_at hF 7 rfl)) hS rfl (by decide) (fun a25 hA25 hF' => ?_)
                    replace hF := hF'; clear hF'
                    refine tk (i := 25) (d := 144) (v := undef) hF rfl rfl (by kernel_rfl) (by kernel_rfl) (by kernel_rfl) (fun _ _ _ h => h) (yi_skip rfl rfl (fr_at hF 8 rfl)) hS rfl (by decide) (fun a26 hA26 hF' => ?_)
                    replace hF := hF'; clear hF'
                    refine tk (i := 26) (d := 145) (v := undef) hF rfl rfl (by kernel_rfl) (by kernel_rfl) (by kernel_rfl) (fun _ _ _ h => h) (yi_skip rfl rfl (fr_at hF 9 rfl)) hS rfl (by decide) (fun a27 hA27 hF' => ?_)
                    replace hF := hF'; clear hF'
                    refine tk (i := 27) (d := 146) (v := undef) hF rfl rfl (by kernel_rfl) (by kernel_rfl) (by kernel_rfl) (fun _ _ _ h => h) (yi_skip rfl rfl (fr_at hF 10 rfl)) hS rfl (by decide) (fun a28 hA28 hF' => ?_)
                    replace hF := hF'; clear hF'
                    refine tk (i := 28) (d := 147) (v := undef) hF rfl rfl (by kernel_rfl) (by kernel_rfl) (by kernel_rfl) (fun _ _ _ h => h) (yi_skip rfl rfl (fr_at hF 11 rfl)) hS rfl (by decide) (fun a29 hA29 hF' => ?_)
                    replace hF := hF'; clear hF'
                    refine tk (i := 29) (d := 148) (v := undef) hF rfl rfl (by kernel_rfl) (by kernel_rfl) (by kernel_rfl) (fun _ _ _ h => h) (yi_skip rfl rfl (fr_at hF 12 rfl)) hS rfl (by decide) (fun a30 hA30 hF' => ?_)
                    replace hF := hF'; clear hF'
                    refine tk (i := 30) (d := 149) (v := undef) hF rfl rfl (by kernel_rfl) (by kernel_rfl) (by kernel_rfl) (fun _ _ _ h => h) (yi_skip rfl rfl (fr_at hF 13 rfl)) hS rfl (by decide) (fun a31 hA31 hF' => ?_)
                    replace hF := hF'; clear hF'
                    refine tk (i := 31) (d := 150) (v := undef) hF rfl rfl (by kernel_rfl) (by kernel_rfl) (by kernel_rfl) (fun _ _ _ h => h) (yi_skip rfl rfl (fr_at hF 14 rfl)) hS rfl (by decide) (fun a32 hA32 hF' => ?_)
                    replace hF := hF'; clear hF'
                    refine tk (i := 32) (d := 151) (v := undef) hF rfl rfl (by kernel_rfl) (by kernel_rfl) (by kernel_rfl) (fun _ _ _ h => h) (yi_skipu rfl rfl (fr_at hF 0 rfl)) hS rfl (by decide) (fun a33 hA33 hF' => ?_)
                    replace hF := hF'; clear hF'
                    refine tk (i := 33) (d := 152) (v := undef) hF rfl rfl (by kernel_rfl) (by kernel_rfl) (by kernel_rfl) (fun _ _ _ h => h) (yi_skipu rfl rfl (fr_at hF 1 rfl)) hS rfl (by decide) (fun a34 hA34 hF' => ?_)
                    replace hF := hF'; clear hF'
                    refine tk (i := 34) (d := 153) (v := undef) hF rfl rfl (by kernel_rfl) (by kernel_rfl) (by kernel_rfl) (fun _ _ _ h => h) (yi_skipu rfl rfl (fr_at hF 2 rfl)) hS rfl (by decide) (fun a35 hA35 hF' => ?_)
                    replace hF := hF'; clear hF'
                    refine tk (i := 35) (d := 154) (v := undef) hF rfl rfl (by kernel_rfl) (by kernel_rfl) (by kernel_rfl) (fun _ _ _ h => h) (yi_skipu rfl rfl (fr_at hF 3 rfl)) hS rfl (by decide) (fun a36 hA36 hF' => ?_)
                    replace hF := hF'; clear hF'
                    refine tk (i := 36) (d := 155) (v := undef) hF rfl rfl (by kernel_rfl) (by kernel_rfl) (by kernel_rfl) (fun _ _ _ h => h) (yi_skipu rfl rfl (fr_at hF 4 rfl)) hS rfl (by decide) (fun a37 hA37 hF' => ?_)
                    replace hF := hF'; clear hF'
                    refine tk (i := 37) (d := 156) (v := undef) hF rfl rfl (by kernel_rfl) (by kernel_rfl) (by kernel_rfl) (fun _ _ _ h => h) (yi_skipu rfl rfl (fr_at hF 5 rfl)) hS rfl (by decide) (fun a38 hA38 hF' => ?_)
                    replace hF := hF'; clear hF'
                    refine tk (i := 38) (d := 157) (v := undef) hF rfl rfl (by kernel_rfl) (by kernel_rfl) (by kernel_rfl) (fun _ _ _ h => h) (yi_skipu rfl rfl (fr_at hF 6 rfl)) hS rfl (by decide) (fun a39 hA39 hF' => ?_)
                    replace hF := hF'; clear hF'
                    refine tk (i := 39) (d := 158) (v := undef) hF rfl rfl (by kernel_rfl) (by kernel_rfl) (by kernel_rfl) (fun _ _ _ h => h) (yi_skipu rfl rfl (fr_at hF 7 rfl)) hS rfl (by decide) (fun a40 hA40 hF' => ?_)
                    replace hF := hF'; clear hF'
                    refine tk (i := 40) (d := 159) (v := undef) hF rfl rfl (by kernel_rfl) (by kernel_rfl) (by kernel_rfl) (fun _ _ _ h => h) (yi_skipu rfl rfl (fr_at hF 8 rfl)) hS rfl (by decide) (fun a41 hA41 hF' => ?_)
                    replace hF := hF'; clear hF'
                    refine tk (i := 41) (d := 160) (v := undef) hF rfl rfl (by kernel_rfl) (by kernel_rfl) (by kernel_rfl) (fun _ _ _ h => h) (yi_skipu rfl rfl (fr_at hF 9 rfl)) hS rfl (by decide) (fun a42 hA42 hF' => ?_)
                    replace hF := hF'; clear hF'
                    refine tk (i := 42) (d := 161) (v := undef) hF rfl rfl (by kernel_rfl) (by kernel_rfl) (by kernel_rfl) (fun _ _ _ h => h) (yi_skipu rfl rfl (fr_at hF 10 rfl)) hS rfl (by decide) (fun a43 hA43 hF' => ?_)
                    replace hF := hF'; clear hF'
                    refine tk (i := 43) (d := 162) (v := undef) hF rfl rfl (by kernel_rfl) (by kernel_rfl) (by kernel_rfl) (fun _ _ _ h => h) (yi_skipu rfl rfl (fr_at hF 11 rfl)) hS rfl (by decide) (fun a44 hA44 hF' => ?_)
                    replace hF := hF'; clear hF'
                    refine tk (i := 44) (d := 163) (v := undef) hF rfl rfl (by kernel_rfl) (by kernel_rfl) (by kernel_rfl) (fun _ _ _ h => h) (yi_skipu rfl rfl (fr_at hF 12 rfl)) hS rfl (by decide) (fun a45 hA45 hF' => ?_)
                    replace hF := hF'; clear hF'
                    refine tk (i := 45) (d := 164) (v := undef) hF rfl rfl (by kernel_rfl) (by kernel_rfl) (by kernel_rfl) (fun _ _ _ h => h) (yi_skipu rfl rfl (fr_at hF 13 rfl)) hS rfl (by decide) (fun a46 hA46 hF' => ?_)
                    replace hF := hF'; clear hF'
                    refine tk (i := 46) (d := 165) (v := undef) hF rfl rfl (by kernel_rfl) (by kernel_rfl) (by kernel_rfl) (fun _ _ _ h => h) (yi_skip rfl rfl (fr_at hF 29 rfl)) hS rfl (by decide) (fun a47 hA47 hF' => ?_)
                    replace hF := hF'; clear hF'
                    refine tk (i := 47) (d := 166) (v := .bool false) hF rfl rfl (by kernel_rfl) (by kernel_rfl) (by kernel_rfl) (fun _ _ _ h => h) (yi_want rfl rfl (fr_at hF 32 rfl) (fun W hW => by have f135 := fr_at hF 30 rfl; have f165 := fr_at hF 0 rfl; go_simp)) hS rfl (by decide) (fun a48 hA48 hF' => ?_)
                    replace hF := hF'; clear hF'
                    refine tk (i := 48) (d := 167) (v := .bool false) hF rfl rfl (by kernel_rfl) (by kernel_rfl) (by kernel_rfl) (fun _ _ _ h => h) (yi_go rfl (fun W hW => by have f133 := fr_at hF 33 rfl; have f166 := fr_at hF 0 rfl; go_simp)) hS rfl (by decide) (fun a49 hA49 hF' => ?_)
                    replace hF := hF'; clear hF'
                    refine wpAnyH_done (by kernel_rfl) ?_ _
                    rw [← hA49, ← hA48, ← hA47, ← hA46, ← hA45, ← hA44, ← hA43, ← hA42, ← hA41, ← hA40, ← hA39, ← hA38, ← hA37, ← hA36, ← hA35, ← hA34, ← hA33, ← hA32, ← hA31, ← hA30, ← hA29, ← hA28, ← hA27, ← hA26, ← hA25, ← hA24, ← hA23, ← hA22, ← hA21, ← hA20, ← hA19, ← hA18, ← hA17, ← hA16, ← hA15, ← hA14, ← hA13, ← hA12, ← hA11, ← hA10, ← hA9, ← hA8, ← hA7, ← hA6, ← hA5, ← hA4, ← hA3, ← hA2, ← hA1, ← hA0]
                    simp only [Act.put, List.setIfInBounds_toArray, List.set_cons_zero, List.set_cons_succ]
                    clear hF
                    have HB8 := Lib.hid (on HBq.out hS)
                    clear hS
                    go_wp2_with fail
                    go_roundw
                    case rel => exact ⟨j + 1, by omega, by go_num, HB8.out⟩
                    case measure => simp [intOf]; omega
                  · obtain rfl : j = i := by omega
                    have HBw := Lib.hid (on HBr.out (on HB7.out HBq.out))
                    go_wp2_with fail
                    refine (alive10_any _ (HT.out.below HBw.out)).mono ?_
                    rintro e wz ⟨rfl, hb⟩
                    have HBz := Lib.hid (on HBw.out hb)
                    clear hb
                    go_wp2_with fail
                    go_ret
                    exact ⟨rfl, HBz.out⟩
              | true =>
                go_wp2_with fail
                refine (HHO.out _ (Below.refl _ _)).mono ?_
                rintro e w5 ⟨rfl, hb⟩
                obtain ⟨z0, z1, z2, z3, z4, z5⟩ := six_on HZr.out hb
                have HB5 := Lib.hid hb
                clear hb
                cases hr with
                | false =>
                  go_wp2_with fail
                  refine (HHL.out _ HB5.out).mono ?_
                  rintro e w6 ⟨rfl, hb⟩
                  obtain ⟨z0, z1, z2, z3, z4, z5⟩ := six_on HZr.out (on HB5.out hb)
                  have HB6 := Lib.hid (on HB5.out hb)
                  clear hb
                  go_wp2_with fail
                  refine (HHH.out _ HB6.out).mono ?_
                  rintro e w7 ⟨rfl, hb⟩
                  have HB7 := Lib.hid (on HB6.out hb)
                  obtain ⟨z0, z1, z2, z3, z4, z5⟩ := six_on HZr.out HB7.out
                  clear hb HB6
                  go_wp2_with fail
                  go_loopw [11] (fun x wr => ∃ j : Nat, j ≤ i ∧ x = .int .i64 j ∧ Hid (Below w7.heap.size w7 wr)) (fun x _ => i - (intOf x).toNat)
                  case atStart => exact ⟨0, by omega, rfl, Below.refl _ _⟩
                  case round =>
                    obtain ⟨j, hj, rfl, HBq⟩ := hrel
                    obtain ⟨z0, z1, z2, z3, z4, z5⟩ := six_on (six_on HZr.out HB7.out) HBq.out
                    by_cases hji : j < i
                    · have HWq := Lib.hid (on HB7.out HBq.out)
                      have cl := World.rowIs.cell (HRF.out.below HWq.out) hji
                      have ch := World.rowIs.cell (HRG.out.below HWq.out) hji
                      have hjl : j < vals.length := by rw [← H3.out]; omega
                      obtain ⟨bV, oV, eV, _, hcv⟩ := (HVr.out.below HWq.out).2 (by omega)
                      subst eV
                      have cv := hcv j hjl
                      have l1 := HFL.out f HF.out.1 j hji
                      have l2 := HFL.out g HG.out.1 j hji
                      have l3 := HVr.out.1 _ (List.getElem_mem hjl)
                      have b1 := HF.out.2 g HG.out.1 j hji
                      have B2 := Lib.hid (fun h : Sol S i L (fun j => vals.getD j 0) => (⟨HF.out.2 _ h j hji, HG.out.2 _ h j hji⟩ : S.below (f j) (vals.getD j 0) = true ∧ S.below (vals.getD j 0) (g j) = true))
                      rw [show vals.getD j 0 = vals[j] by simp [List.getD, hjl]] at B2
                      generalize vals[j] = x at cv l3 B2
                      generalize f j = y at cl l1 b1 B2
                      generalize g j = z at ch l2 b1 B2
                      have HQ1 := Lib.hid (fun W (h : Below wr.heap.size wr W) => b1 ▸ HCBE.out W y z (on HWq.out h) l1 l2)
                      have j1 : (0 : Int) ≤ (j : Int) := by omega
                      have j2 : (j : Int) < (i : Int) := by omega
                      clear hcv b1 B2
                      go_upto_region 21 with fail
                      refine wp_region_held (S := fun W => Below wr.heap.size wr W) (by kernel_rfl) ?_
                      generalize hA0 : Act.mk _ _ = a0
                      have hF := Fr.nil (n := 169) (a := a0) (by rw [← hA0]; rfl)
                      replace hF := Fr.cons hF 11 (.int .i64 (j : Int)) (by rw [← hA0]; rfl)
                      replace hF := Fr.cons hF 10 (.bool false) (by rw [← hA0]; rfl)
                      replace hF := Fr.cons hF 7 (.slice (some ⟨bV, oV, none⟩) i c3) (by rw [← hA0]; rfl)
                      replace hF := Fr.cons hF 5 (.slice (some ⟨Bh, 0, none⟩) i i) (by rw [← hA0]; rfl)
                      replace hF := Fr.cons hF 4 (.slice (some ⟨Bl, 0, none⟩) i i) (by rw [← hA0]; rfl)
                      replace hF := Fr.cons hF 3 (.iface t p) (by rw [← hA0]; rfl)
                      have hS : Below wr.heap.size wr (World.drew _) := (Below.refl _ wr).drew
                      change wpAnyH _ _ _ _ _ _ _ _ (World.drew _)
                      refine tk (i := 0) (d := 119) (v := .iface t p) hF rfl rfl (by kernel_rfl) (by kernel_rfl) (by kernel_rfl) (fun _ _ _ h => h) (yi_go rfl (fun W hW => ex_move W rfl (fr_at hF 0 rfl))) hS rfl (by decide) (fun a1 hA1 hF' => ?_)
                      replace hF := hF'; clear hF'
                      refine tk (i := 1) (d := 120) (v := .slice (some ⟨Bl, 0, none⟩) i i) hF rfl rfl (by kernel_rfl) (by kernel_rfl) (by kernel_rfl) (fun _ _ _ h => h) (yi_go rfl (fun W hW => ex_move W rfl (fr_at hF 2 rfl))) hS rfl (by decide) (fun a2 hA2 hF' => ?_)
                      replace hF := hF'; clear hF'
                      refine tk (i := 2) (d := 121) (v := .int .i64 (j : Int)) hF rfl rfl (by kernel_rfl) (by kernel_rfl) (by kernel_rfl) (fun _ _ _ h => h) (yi_go rfl (fun W hW => ex_move W rfl (fr_at hF 7 rfl))) hS rfl (by decide) (fun a3 hA3 hF' => ?_)
                      replace hF := hF'; clear hF'
                      refine tk (i := 3) (d := 122) (v := .pointer (some ⟨Bl, j, none⟩)) hF rfl rfl (by kernel_rfl) (by kernel_rfl) (by kernel_rfl) (fun _ _ _ h => h) (yi_go rfl (fun W hW => by have f120 := fr_at hF 1 rfl; have f121 := fr_at hF 0 rfl; go_simp)) hS rfl (by decide) (fun a4 hA4 hF' => ?_)
                      replace hF := hF'; clear hF'
                      refine tk (i := 4) (d := 123) (v := .int .u64 (y : Int)) hF rfl rfl (by kernel_rfl) (by kernel_rfl) (by kernel_rfl) (fun _ _ _ h => h) (yi_go rfl (fun W hW => by replace cl := (hW.cell (p := ⟨Bl, j, none⟩) (World.block_lt_of_cell? _ _ cl)).trans cl; have f122 := fr_at hF 0 rfl; go_simp)) hS rfl (by decide) (fun a5 hA5 hF' => ?_)
                      replace hF := hF'; clear hF'
                      refine tk (i := 5) (d := 124) (v := .slice (some ⟨Bh, 0, none⟩) i i) hF rfl rfl (by kernel_rfl) (by kernel_rfl) (by kernel_rfl) (fun _ _ _ h => h) (yi_go rfl (fun W hW => ex_move W rfl (fr_at hF 7 rfl))) hS rfl (by decide) (fun a6 hA6 hF' => ?_)
                      replace hF := hF'; clear hF'
                      refine tk (i := 6) (d := 125) (v := .int .i64 (j : Int)) hF rfl rfl (by kernel_rfl) (by kernel_rfl) (by kernel_rfl) (fun _ _ _ h => h) (yi_go rfl (fun W hW => ex_move W rfl (fr_at hF 11 rfl))) hS rfl (by decide) (fun a7 hA7 hF' => ?_)
                      replace hF := hF'; clear hF'
                      refine tk (i := 7) (d := 126) (v := .pointer (some ⟨Bh, j, none⟩)) hF rfl rfl (by kernel_rfl) (by kernel_rfl) (by kernel_rfl) (fun _ _ _ h => h) (yi_go rfl (fun W hW => by have f124 := fr_at hF 1 rfl; have f125 := fr_at hF 0 rfl; go_simp)) hS rfl (by decide) (fun a8 hA8 hF' => ?_)
                      replace hF := hF'; clear hF'
                      refine tk (i := 8) (d := 127) (v := .int .u64 (z : Int)) hF rfl rfl (by kernel_rfl) (by kernel_rfl) (by kernel_rfl) (fun _ _ _ h => h) (yi_go rfl (fun W hW => by replace ch := (hW.cell (p := ⟨Bh, j, none⟩) (World.block_lt_of_cell? _ _ ch)).trans ch; have f126 := fr_at hF 0 rfl; go_simp)) hS rfl (by decide) (fun a9 hA9 hF' => ?_)
                      replace hF := hF'; clear hF'
                      refine tk (i := 9) (d := 128) (v := .func (.method "Below") #[.iface t p] #[]) hF rfl rfl (by kernel_rfl) (by kernel_rfl) (by kernel_rfl) (fun _ _ _ h => h) (yi_go rfl (fun W hW => by have f119 := fr_at hF 8 rfl; go_simp)) hS rfl (by decide) (fun a10 hA10 hF' => ?_)
                      replace hF := hF'; clear hF'
                      refine tk (i := 10) (d := 129) (v := .func (.method "Below") #[.iface t p] #[]) hF rfl rfl (by kernel_rfl) (by kernel_rfl) (by kernel_rfl) (fun _ _ _ h => h) (yi_go rfl (fun W hW => by have f128 := fr_at hF 0 rfl; go_simp)) hS rfl (by decide) (fun a11 hA11 hF' => ?_)
                      replace hF := hF'; clear hF'
                      refine tk (i := 11) (d := 130) (v := .iface t p) hF rfl rfl (by kernel_rfl) (by kernel_rfl) (by kernel_rfl) (fun _ _ _ h => h) (yi_go rfl (fun W hW => ex_move W rfl (fr_at hF 10 rfl))) hS rfl (by decide) (fun a12 hA12 hF' => ?_)
                      replace hF := hF'; clear hF'
                      refine wpAnyH_ready (rs := [12]) (by kernel_rfl) (by simp) ?_
                      refine AllReadyH.cons rfl (fun K hK => ?_) AllReadyH.nil
                      have f130 := fr_at hF 0 rfl
                      have f123 := fr_at hF 7 rfl
                      have f127 := fr_at hF 3 rfl
                      go_simp
                      clear f130 f123 f127
                      refine (HQ1.out _ hS).mono ?_
                      rintro e wa ⟨rfl, hb⟩
                      go_wp2_with fail
                      refine hK.out _ _ (on hS hb) (fun _ => ?_)
                      replace hS := on hS hb
                      clear hK K
                      change wpAnyH _ _ _ _ _ _ _ (a12.put (some 131) (.bool true)) _
                      have hF' := fr_put hF 131 (.bool true) rfl (by decide)
                      generalize hA13 : Act.put a12 (some 131) (.bool true) = a13 at hF' ⊢
                      replace hF := hF'; clear hF'
                      refine tk (i := 13) (d := 132) (v := .bool false) hF rfl rfl (by kernel_rfl) (by kernel_rfl) (by kernel_rfl) (fun _ _ _ h => h) (yi_go rfl (fun W hW => by have f131 := fr_at hF 0 rfl; go_simp)) hS rfl (by decide) (fun a14 hA14 hF' => ?_)
                      replace hF := hF'; clear hF'
                      refine tk (i := 14) (d := 133) (v := .bool false) hF rfl rfl (by kernel_rfl) (by kernel_rfl) (by kernel_rfl) (fun _ _ _ h => h) (yi_go rfl (fun W hW => ex_move W rfl (fr_at hF 0 rfl))) hS rfl (by decide) (fun a15 hA15 hF' => ?_)
                      replace hF := hF'; clear hF'
                      refine tk (i := 15) (d := 134) (v := .bool false) hF rfl rfl (by kernel_rfl) (by kernel_rfl) (by kernel_rfl) (fun _ _ _ h => h) (yi_want rfl rfl (fr_at hF 0 rfl) (fun W hW => ex_move W rfl (fr_at hF 19 rfl))) hS rfl (by decide) (fun a16 hA16 hF' => ?_)
                      replace hF := hF'; clear hF'
                      refine tk (i := 16) (d := 135) (v := .bool false) hF rfl rfl (by kernel_rfl) (by kernel_rfl) (by kernel_rfl) (fun _ _ _ h => h) (yi_want rfl rfl (fr_at hF 1 rfl) (fun W hW => ex_move W rfl (fr_at hF 0 rfl))) hS rfl (by decide) (fun a17 hA17 hF' => ?_)
                      replace hF := hF'; clear hF'
                      refine tk (i := 17) (d := 136) (v := undef) hF rfl rfl (by kernel_rfl) (by kernel_rfl) (by kernel_rfl) (fun _ _ _ h => h) (yi_skip rfl rfl (fr_at hF 0 rfl)) hS rfl (by decide) (fun a18 hA18 hF' => ?_)
                      replace hF := hF'; clear hF'
                      refine tk (i := 18) (d := 137) (v := undef) hF rfl rfl (by kernel_rfl) (by kernel_rfl) (by kernel_rfl) (fun _ _ _ h => h) (yi_skip rfl rfl (fr_at hF 1 rfl)) hS rfl (by decide) (fun a19 hA19 hF' => ?_)
                      replace hF := hF'; clear hF'
                      refine tk (i := 19) (d := 138) (v := undef) hF rfl rfl (by kernel_rfl) (by kernel_rfl) (by kernel_rfl) (fun _ _ _ h => h) (yi_skip rfl rfl (fr_at hF 2 rfl)) hS rfl (by decide) (fun a20 hA20 hF' => ?_)
                      replace hF := hF'; clear hF'
                      refine tk (i := 20) (d := 139) (v := undef) hF rfl rfl (by kernel_rfl) (by kernel_rfl) (by kernel_rfl) (fun _ _ _ h => h) (yi_skip rfl rfl (fr_at hF 3 rfl)) hS rfl (by decide) (fun a21 hA21 hF' => ?_)
                      replace hF := hF'; clear hF'
                      refine tk (i := 21) (d := 140) (v := undef) hF rfl rfl (by kernel_rfl) (by kernel_rfl) (by kernel_rfl) (fun _ _ _ h => h) (yi_skip rfl rfl (fr_at hF 4 rfl)) hS rfl (by decide) (fun a22 hA22 hF' => ?_)
                      replace hF := hF'; clear hF'
                      refine tk (i := 22) (d := 141) (v := undef) hF rfl rfl (by kernel_rfl) (by kernel_rfl) (by kernel_rfl) (fun _ _ _ h => h) (yi_skip rfl rfl (fr_at hF 5 rfl)) hS rfl (by decide) (fun a23 hA23 hF' => ?_)
                      replace hF := hF'; clear hF'
                      refine tk (i := 23) (d := 142) (v := undef) hF rfl rfl (by kernel_rfl) (by kernel_rfl) (by kernel_rfl) (fun _ _ _ h => h) (yi_skip rfl rfl (fr_at hF 6 rfl)) hS rfl (by decide) (fun a24 hA24 hF' => ?_)
                      replace hF := hF'; clear hF'
                      refine tk (i := 24) (d := 143) (v := undef) hF rfl rfl (by kernel_rfl) (by kernel_rfl) (by kernel_rfl) (fun _ _ _ h => h) (yi_skip rfl rfl (fr_at hF 7 rfl)) hS rfl (by decide) (fun a25 hA25 hF' => ?_)
                      replace hF := hF'; clear hF'
                      refine tk (i := 25) (d := 144) (v := undef) hF rfl rfl (by kernel_rfl) (by kernel_rfl) (by kernel_rfl) (fun _ _ _ h => h) (yi_skip rfl rfl (fr_at hF 8 rfl)) hS rfl (by decide) (fun a26 hA26 hF' => ?_)
                      replace hF := hF'; clear hF'
                      refine tk (i := 26) (d := 145) (v := undef) hF rfl rfl (by kernel_rfl) (by kernel_rfl) (by kernel_rfl) (fun _ _ _ h => h) (yi_skip rfl rfl (fr_at hF 9 rfl)) hS rfl (by decide) (fun a27 hA27 hF' => ?_)
                      replace hF := hF'; clear hF'
                      refine tk (i := 27) (d := 146) (v := undef) hF rfl rfl (by kernel_rfl) (by kernel_rfl) (by kernel_rfl) (fun _ _ _ h => h) (yi_skip rfl rfl (fr_at hF 10 rfl)) hS rfl (by decide) (fun a28 hA28 hF' => ?_)
                      replace hF := hF'; clear hF'
                      refine tk (i := 28) (d := 147) (v := undef) hF rfl rfl (by kernel_rfl) (by kernel_rfl) (by kernel_rfl) (fun _ _ _ h => h) (yi_skip rfl rfl (fr_at hF 11 rfl)) hS rfl (by decide) (fun a29 hA29 hF' => ?_)
                      replace hF := hF'; clear hF'
                      refine tk (i := 29) (d := 148) (v := undef) hF rfl rfl (by kernel_rfl) (by kernel_rfl) (by kernel_rfl) (fun _ _ _ h => h) (yi_skip rfl rfl (fr_at hF 12 rfl)) hS rfl (by decide) (fun a30 hA30 hF' => ?_)
                      replace hF := hF'; clear hF'
                      refine tk (i := 30) (d := 149) (v := undef) hF rfl rfl (by kernel_rfl) (by kernel_rfl) (by kernel_rfl) (fun _ _ _ h => h) (yi_skip rfl rfl (fr_at hF 13 rfl)) hS rfl (by decide) (fun a31 hA31 hF' => ?_)
                      replace hF := hF'; clear hF'
                      refine tk (i := 31) (d := 150) (v := undef) hF rfl rfl (by kernel_rfl) (by kernel_rfl) (by kernel_rfl) (fun _ _ _ h => h) (yi_skip rfl rfl (fr_at hF 14 rfl)) hS rfl (by decide) (fun a32 hA32 hF' => ?_)
                      replace hF := hF'; clear hF'
                      refine tk (i := 32) (d := 151) (v := undef) hF rfl rfl (by kernel_rfl) (by kernel_rfl) (by kernel_rfl) (fun _ _ _ h => h) (yi_skipu rfl rfl (fr_at hF 0 rfl)) hS rfl (by decide) (fun a33 hA33 hF' => ?_)
                      replace hF := hF'; clear hF'
                      refine tk (i := 33) (d := 152) (v := undef) hF rfl rfl (by kernel_rfl) (by kernel_rfl) (by kernel_rfl) (fun _ _ _ h => h) (yi_skipu rfl rfl (fr_at hF 1 rfl)) hS rfl (by decide) (fun a34 hA34 hF' => ?_)
                      replace hF := hF'; clear hF'
                      refine tk (i := 34) (d := 153) (v := undef) hF rfl rfl (by kernel_rfl) (by kernel_rfl) (by kernel_rfl) (fun _ _ _ h => h) (yi_skipu rfl rfl (fr_at hF 2 rfl)) hS rfl (by decide) (fun a35 hA35 hF' => ?_)
                      replace hF := hF'; clear hF'
                      refine tk (i := 35) (d := 154) (v := undef) hF rfl rfl (by kernel_rfl) (by kernel_rfl) (by kernel_rfl) (fun _ _ _ h => h) (yi_skipu rfl rfl (fr_at hF 3 rfl)) hS rfl (by decide) (fun a36 hA36 hF' => ?_)
                      replace hF := hF'; clear hF'
                      refine tk (i := 36) (d := 155) (v := undef) hF rfl rfl (by kernel_rfl) (by kernel_rfl) (by kernel_rfl) (fun _ _ _ h => h) (yi_skipu rfl rfl (fr_at hF 4 rfl)) hS rfl (by decide) (fun a37 hA37 hF' => ?_)
                      replace hF := hF'; clear hF'
                      refine tk (i := 37) (d := 156) (v := undef) hF rfl rfl (by kernel_rfl) (by kernel_rfl) (by kernel_rfl) (fun _ _ _ h => h) (yi_skipu rfl rfl (fr_at hF 5 rfl)) hS rfl (by decide) (fun a38 hA38 hF' => ?_)
                      replace hF := hF'; clear hF'
                      refine tk (i := 38) (d := 157) (v := undef) hF rfl rfl (by kernel_rfl) (by kernel_rfl) (by kernel_rfl) (fun _ _ _ h => h) (yi_skipu rfl rfl (fr_at hF 6 rfl)) hS rfl (by decide) (fun a39 hA39 hF' => ?_)
                      replace hF := hF'; clear hF'
                      refine tk (i := 39) (d := 158) (v := undef) hF rfl rfl (by kernel_rfl) (by kernel_rfl) (by kernel_rfl) (fun _ _ _ h => h) (yi_skipu rfl rfl (fr_at hF 7 rfl)) hS rfl (by decide) (fun a40 hA40 hF' => ?_)
                      replace hF := hF'; clear hF'
                      refine tk (i := 40) (d := 159) (v := undef) hF rfl rfl (by kernel_rfl) (by kernel_rfl) (by kernel_rfl) (fun _ _ _ h => h) (yi_skipu rfl rfl (fr_at hF 8 rfl)) hS rfl (by decide) (fun a41 hA41 hF' => ?_)
                      replace hF := hF'; clear hF'
                      refine tk (i := 41) (d := 160) (v := undef) hF rfl rfl (by kernel_rfl) (by kernel_rfl) (by kernel_rfl) (fun _ _ _ h => h) (yi_skipu rfl rfl (fr_at hF 9 rfl)) hS rfl (by decide) (fun a42 hA42 hF' => ?_)
                      replace hF := hF'; clear hF'
                      refine tk (i := 42) (d := 161) (v := undef) hF rfl rfl (by kernel_rfl) (by kernel_rfl) (by kernel_rfl) (fun _ _ _ h => h) (yi_skipu rfl rfl (fr_at hF 10 rfl)) hS rfl (by decide) (fun a43 hA43 hF' => ?_)
                      replace hF := hF'; clear hF'
                      refine tk (i := 43) (d := 162) (v := undef) hF rfl rfl (by kernel_rfl) (by kernel_rfl) (by kernel_rfl) (fun _ _ _ h => h) (yi_skipu rfl rfl (fr_at hF 11 rfl)) hS rfl (by decide) (fun a44 hA44 hF' => ?_)
                      replace hF := hF'; clear hF'
                      refine tk (i := 44) (d := 163) (v := undef) hF rfl rfl (by kernel_rfl) (by kernel_rfl) (by kernel_rfl) (fun _ _ _ h => h) (yi_skipu rfl rfl (fr_at hF 12 rfl)) hS rfl (by decide) (fun a45 hA45 hF' => ?_)
                      replace hF := hF'; clear hF'
                      refine tk (i := 45) (d := 164) (v := undef) hF rfl rfl (by kernel_rfl) (by kernel_rfl) (by kernel_rfl) (fun _ _ _ h => h) (yi_skipu rfl rfl (fr_at hF 13 rfl)) hS rfl (by decide) (fun a46 hA46 hF' => ?_)
                      replace hF := hF'; clear hF'
                      refine tk (i := 46) (d := 165) (v := undef) hF rfl rfl (by kernel_rfl) (by kernel_rfl) (by kernel_rfl) (fun _ _ _ h => h) (yi_skip rfl rfl (fr_at hF 29 rfl)) hS rfl (by decide) (fun a47 hA47 hF' => ?_)
                      replace hF := hF'; clear hF'
                      refine tk (i := 47) (d := 166) (v := .bool false) hF rfl rfl (by kernel_rfl) (by kernel_rfl) (by kernel_rfl) (fun _ _ _ h => h) (yi_want rfl rfl (fr_at hF 32 rfl) (fun W hW => by have f135 := fr_at hF 30 rfl; have f165 := fr_at hF 0 rfl; go_simp)) hS rfl (by decide) (fun a48 hA48 hF' => ?_)
                      replace hF := hF'; clear hF'
                      refine tk (i := 48) (d := 167) (v := .bool false) hF rfl rfl (by kernel_rfl) (by kernel_rfl) (by kernel_rfl) (fun _ _ _ h => h) (yi_go rfl (fun W hW => by have f133 := fr_at hF 33 rfl; have f166 := fr_at hF 0 rfl; go_simp)) hS rfl (by decide) (fun a49 hA49 hF' => ?_)
                      replace hF := hF'; clear hF'
                      refine wpAnyH_done (by kernel_rfl) ?_ _
                      rw [← hA49, ← hA48, ← hA47, ← hA46, ← hA45, ← hA44, ← hA43, ← hA42, ← hA41, ← hA40, ← hA39, ← hA38, ← hA37, ← hA36, ← hA35, ← hA34, ← hA33, ← hA32, ← hA31, ← hA30, ← hA29, ← hA28, ← hA27, ← hA26, ← hA25, ← hA24, ← hA23, ← hA22, ← hA21, ← hA20, ← hA19, ← hA18, ← hA17, ← hA16, ← hA15, ← hA14, ← hA13, ← hA12, ← hA11, ← hA10, ← hA9, ← hA8, ← hA7, ← hA6, ← hA5, ← hA4, ← hA3, ← hA2, ← hA1, ← hA0]
                      simp only [Act.put, List.setIfInBounds_toArray, List.set_cons_zero, List.set_cons_succ]
                      clear hF
                      have HB8 := Lib.hid (on HBq.out hS)
                      clear hS
                      go_wp2_with fail
                      go_roundw
                      case rel => exact ⟨j + 1, by omega, by go_num, HB8.out⟩
                      case measure => simp [intOf]; omega
                    · obtain rfl : j = i := by omega
                      have HBw := Lib.hid (on HBr.out (on HB7.out HBq.out))
                      go_wp2_with fail
                      refine (alive10_any _ (HT.out.below HBw.out)).mono ?_
                      rintro e wz ⟨rfl, hb⟩
                      have HBz := Lib.hid (on HBw.out hb)
                      clear hb
                      go_wp2_with fail
                      go_ret
                      exact ⟨rfl, HBz.out⟩
                | true =>
                  have HSV := Lib.hid (HIS.out HC.out (by trivial) (by trivial))
                  go_wp2_with fail
                  refine (HHL.out _ HB5.out).mono ?_
                  rintro e w6 ⟨rfl, hb⟩
                  obtain ⟨z0, z1, z2, z3, z4, z5⟩ := six_on HZr.out (on HB5.out hb)
                  have HB6 := Lib.hid (on HB5.out hb)
                  clear hb
                  go_wp2_with fail
                  refine (HHH.out _ HB6.out).mono ?_
                  rintro e w7 ⟨rfl, hb⟩
                  have HB7 := Lib.hid (on HB6.out hb)
                  obtain ⟨z0, z1, z2, z3, z4, z5⟩ := six_on HZr.out HB7.out
                  clear hb HB6
                  go_wp2_with fail
                  go_loopw [11] (fun x wr => ∃ j : Nat, j ≤ i ∧ x = .int .i64 j ∧ Hid (Below w7.heap.size w7 wr)) (fun x _ => i - (intOf x).toNat)
                  case atStart => exact ⟨0, by omega, rfl, Below.refl _ _⟩
                  case round =>
                    obtain ⟨j, hj, rfl, HBq⟩ := hrel
                    obtain ⟨z0, z1, z2, z3, z4, z5⟩ := six_on (six_on HZr.out HB7.out) HBq.out
                    by_cases hji : j < i
                    · have HWq := Lib.hid (on HB7.out HBq.out)
                      have cl := World.rowIs.cell (HRF.out.below HWq.out) hji
                      have ch := World.rowIs.cell (HRG.out.below HWq.out) hji
                      have hjl : j < vals.length := by rw [← H3.out]; omega
                      obtain ⟨bV, oV, eV, _, hcv⟩ := (HVr.out.below HWq.out).2 (by omega)
                      subst eV
                      have cv := hcv j hjl
                      have l1 := HFL.out f HF.out.1 j hji
                      have l2 := HFL.out g HG.out.1 j hji
                      have l3 := HVr.out.1 _ (List.getElem_mem hjl)
                      have b1 := HF.out.2 g HG.out.1 j hji
                      have B2 := Lib.hid (fun h : Sol S i L (fun j => vals.getD j 0) => (⟨HF.out.2 _ h j hji, HG.out.2 _ h j hji⟩ : S.below (f j) (vals.getD j 0) = true ∧ S.below (vals.getD j 0) (g j) = true))
                      rw [show vals.getD j 0 = vals[j] by simp [List.getD, hjl]] at B2
                      generalize vals[j] = x at cv l3 B2
                      generalize f j = y at cl l1 b1 B2
                      generalize g j = z at ch l2 b1 B2
                      have HQ1 := Lib.hid (fun W (h : Below wr.heap.size wr W) => b1 ▸ HCBE.out W y z (on HWq.out h) l1 l2)
                      have j1 : (0 : Int) ≤ (j : Int) := by omega
                      have j2 : (j : Int) < (i : Int) := by omega
                      have HQ2 := Lib.hid (fun W (h : Below wr.heap.size wr W) => (B2.out HSV.out).1 ▸ HCBE.out W y x (on HWq.out h) l1 l3)
                      have HQ3 := Lib.hid (fun W (h : Below wr.heap.size wr W) => (B2.out HSV.out).2 ▸ HCBE.out W x z (on HWq.out h) l3 l2)
                      clear hcv b1 B2
                      go_upto_region 21 with fail
                      refine wp_region_held (S := fun W => Below wr.heap.size wr W) (by kernel_rfl) ?_
                      generalize hA0 : Act.mk _ _ = a0
                      have hF := Fr.nil (n := 169) (a := a0) (by rw [← hA0]; rfl)
                      replace hF := Fr.cons hF 11 (.int .i64 (j : Int)) (by rw [← hA0]; rfl)
                      replace hF := Fr.cons hF 10 (.bool true) (by rw [← hA0]; rfl)
                      replace hF := Fr.cons hF 7 (.slice (some ⟨bV, oV, none⟩) i c3) (by rw [← hA0]; rfl)
                      replace hF := Fr.cons hF 5 (.slice (some ⟨Bh, 0, none⟩) i i) (by rw [← hA0]; rfl)
                      replace hF := Fr.cons hF 4 (.slice (some ⟨Bl, 0, none⟩) i i) (by rw [← hA0]; rfl)
                      replace hF := Fr.cons hF 3 (.iface t p) (by rw [← hA0]; rfl)
                      have hS : Below wr.heap.size wr (World.drew _) := (Below.refl _ wr).drew
                      change wpAnyH _ _ _ _ _ _ _ _ (World.drew _)
                      refine tk (i := 0) (d := 119) (v := .iface t p) hF rfl rfl (by kernel_rfl) (by kernel_rfl) (by kernel_rfl) (fun _ _ _ h => h) (yi_go rfl (fun W hW => ex_move W rfl (fr_at hF 0 rfl))) hS rfl (by decide) (fun a1 hA1 hF' => ?_)
                      replace hF := hF'; clear hF'
                      refine tk (i := 1) (d := 120) (v := .slice (some ⟨Bl, 0, none⟩) i i) hF rfl rfl (by kernel_rfl) (by kernel_rfl) (by kernel_rfl) (fun _ _ _ h => h) (yi_go rfl (fun W hW => ex_move W rfl (fr_at hF 2 rfl))) hS rfl (by decide) (fun a2 hA2 hF' => ?_)
                      replace hF := hF'; clear hF'
                      refine tk (i := 2) (d := 121) (v := .int .i64 (j : Int)) hF rfl rfl (by kernel_rfl) (by kernel_rfl) (by kernel_rfl) (fun _ _ _ h => h) (yi_go rfl (fun W hW => ex_move W rfl (fr_at hF 7 rfl))) hS rfl (by decide) (fun a3 hA3 hF' => ?_)
                      replace hF := hF'; clear hF'
                      refine tk (i := 3) (d := 122) (v := .pointer (some ⟨Bl, j, none⟩)) hF rfl rfl (by kernel_rfl) (by kernel_rfl) (by kernel_rfl) (fun _ _ _ h => h) (yi_go rfl (fun W hW => by have f120 := fr_at hF 1 rfl; have f121 := fr_at hF 0 rfl; go_simp)) hS rfl (by decide) (fun a4 hA4 hF' => ?_)
                      replace hF := hF'; clear hF'
                      refine tk (i := 4) (d := 123) (v := .int .u64 (y : Int)) hF rfl rfl (by kernel_rfl) (by kernel_rfl) (by kernel_rfl) (fun _ _ _ h => h) (yi_go rfl (fun W hW => by replace cl := (hW.cell (p := ⟨Bl, j, none⟩) (World.block_lt_of_cell? _ _ cl)).trans cl; have f122 := fr_at hF 0 rfl; go_simp)) hS rfl (by decide) (fun a5 hA5 hF' => ?_)
                      replace hF := hF'; clear hF'
                      refine tk (i := 5) (d := 124) (v := .slice (some ⟨Bh, 0, none⟩) i i) hF rfl rfl (by kernel_rfl) (by kernel_rfl) (by kernel_rfl) (fun _ _ _ h => h) (yi_go rfl (fun W hW => ex_move W rfl (fr_at hF 7 rfl))) hS rfl (by decide) (fun a6 hA6 hF' => ?_)
                      replace hF := hF'; clear hF'
                      refine tk (i := 6) (d := 125) (v := .int .i64 (j : Int)) hF rfl rfl (by kernel_rfl) (by kernel_rfl) (by kernel_rfl) (fun _ _ _ h => h) (yi_go rfl (fun W hW => ex_move W rfl (fr_at hF 11 rfl))) hS rfl (by decide) (fun a7 hA7 hF' => ?_)
                      replace hF := hF'; clear hF'
                      refine tk (i := 7) (d := 126) (v := .pointer (some ⟨Bh, j, none⟩)) hF rfl rfl (by kernel_rfl) (by kernel_rfl) (by kernel_rfl) (fun _ _ _ h => h) (yi_go rfl (fun W hW => by have f124 := fr_at hF 1 rfl; have f125 := fr_at hF 0 rfl; go_simp)) hS rfl (by decide) (fun a8 hA8 hF' => ?_)
                      replace hF := hF'; clear hF'
                      refine tk (i := 8) (d := 127) (v := .int .u64 (z : Int)) hF rfl rfl (by kernel_rfl) (by kernel_rfl) (by kernel_rfl) (fun _ _ _ h => h) (yi_go rfl (fun W hW => by replace ch := (hW.cell (p := ⟨Bh, j, none⟩) (World.block_lt_of_cell? _ _ ch)).trans ch; have f126 := fr_at hF 0 rfl; go_simp)) hS rfl (by decide) (fun a9 hA9 hF' => ?_)
                      replace hF := hF'; clear hF'
                      refine tk (i := 9) (d := 128) (v := .func (.method "Below") #[.iface t p] #[]) hF rfl rfl (by kernel_rfl) (by kernel_rfl) (by kernel_rfl) (fun _ _ _ h => h) (yi_go rfl (fun W hW => by have f119 := fr_at hF 8 rfl; go_simp)) hS rfl (by decide) (fun a10 hA10 hF' => ?_)
                      replace hF := hF'; clear hF'
                      refine tk (i := 10) (d := 129) (v := .func (.method "Below") #[.iface t p] #[]) hF rfl rfl (by kernel_rfl) (by kernel_rfl) (by kernel_rfl) (fun _ _ _ h => h) (yi_go rfl (fun W hW => by have f128 := fr_at hF 0 rfl; go_simp)) hS rfl (by decide) (fun a11 hA11 hF' => ?_)
                      replace hF := hF'; clear hF'
                      refine tk (i := 11) (d := 130) (v := .iface t p) hF rfl rfl (by kernel_rfl) (by kernel_rfl) (by kernel_rfl) (fun _ _ _ h => h) (yi_go rfl (fun W hW => ex_move W rfl (fr_at hF 10 rfl))) hS rfl (by decide) (fun a12 hA12 hF' => ?_)
                      replace hF := hF'; clear hF'
                      refine wpAnyH_ready (rs := [12]) (by kernel_rfl) (by simp) ?_
                      refine AllReadyH.cons rfl (fun K hK => ?_) AllReadyH.nil
                      have f130 := fr_at hF 0 rfl
                      have f123 := fr_at hF 7 rfl
                      have f127 := fr_at hF 3 rfl
                      go_simp
                      clear f130 f123 f127
                      refine (HQ1.out _ hS).mono ?_
                      rintro e wa ⟨rfl, hb⟩
                      go_wp2_with fail
                      refine hK.out _ _ (on hS hb) (fun _ => ?_)
                      replace hS := on hS hb
                      clear hK K
                      change wpAnyH _ _ _ _ _ _ _ (a12.put (some 131) (.bool true)) _
                      have hF' := fr_put hF 131 (.bool true) rfl (by decide)
                      generalize hA13 : Act.put a12 (some 131) (.bool true) = a13 at hF' ⊢
                      replace hF := hF'; clear hF'
                      refine tk (i := 13) (d := 132) (v := .bool false) hF rfl rfl (by kernel_rfl) (by kernel_rfl) (by kernel_rfl) (fun _ _ _ h => h) (yi_go rfl (fun W hW => by have f131 := fr_at hF 0 rfl; go_simp)) hS rfl (by decide) (fun a14 hA14 hF' => ?_)
                      replace hF := hF'; clear hF'
                      refine tk (i := 14) (d := 133) (v := .bool false) hF rfl rfl (by kernel_rfl) (by kernel_rfl) (by kernel_rfl) (fun _ _ _ h => h) (yi_go rfl (fun W hW => ex_move W rfl (fr_at hF 0 rfl))) hS rfl (by decide) (fun a15 hA15 hF' => ?_)
                      replace hF := hF'; clear hF'
                      refine tk (i := 15) (d := 134) (v := .bool true) hF rfl rfl (by kernel_rfl) (by kernel_rfl) (by kernel_rfl) (fun _ _ _ h => h) (yi_want rfl rfl (fr_at hF 0 rfl) (fun W hW => ex_move W rfl (fr_at hF 19 rfl))) hS rfl (by decide) (fun a16 hA16 hF' => ?_)
                      replace hF := hF'; clear hF'
                      refine tk (i := 16) (d := 135) (v := .bool true) hF rfl rfl (by kernel_rfl) (by kernel_rfl) (by kernel_rfl) (fun _ _ _ h => h) (yi_want rfl rfl (fr_at hF 1 rfl) (fun W hW => ex_move W rfl (fr_at hF 0 rfl))) hS rfl (by decide) (fun a17 hA17 hF' => ?_)
                      replace hF := hF'; clear hF'
                      refine tk (i := 17) (d := 136) (v := .iface t p) hF rfl rfl (by kernel_rfl) (by kernel_rfl) (by kernel_rfl) (fun _ _ _ h => h) (yi_want rfl rfl (fr_at hF 0 rfl) (fun W hW => ex_move W rfl (fr_at hF 17 rfl))) hS rfl (by decide) (fun a18 hA18 hF' => ?_)
                      replace hF := hF'; clear hF'
                      refine tk (i := 18) (d := 137) (v := .slice (some ⟨Bl, 0, none⟩) i i) hF rfl rfl (by kernel_rfl) (by kernel_rfl) (by kernel_rfl) (fun _ _ _ h => h) (yi_want rfl rfl (fr_at hF 1 rfl) (fun W hW => ex_move W rfl (fr_at hF 19 rfl))) hS rfl (by decide) (fun a19 hA19 hF' => ?_)
                      replace hF := hF'; clear hF'
                      refine tk (i := 19) (d := 138) (v := .int .i64 (j : Int)) hF rfl rfl (by kernel_rfl) (by kernel_rfl) (by kernel_rfl) (fun _ _ _ h => h) (yi_want rfl rfl (fr_at hF 2 rfl) (fun W hW => ex_move W rfl (fr_at hF 24 rfl))) hS rfl (by decide) (fun a20 hA20 hF' => ?_)
                      replace hF := hF'; clear hF'
                      refine tk (i := 20) (d := 139) (v := .pointer (some ⟨Bl, j, none⟩)) hF rfl rfl (by kernel_rfl) (by kernel_rfl) (by kernel_rfl) (fun _ _ _ h => h) (yi_want rfl rfl (fr_at hF 3 rfl) (fun W hW => by have f137 := fr_at hF 1 rfl; have f138 := fr_at hF 0 rfl; go_simp)) hS rfl (by decide) (fun a21 hA21 hF' => ?_)
                      replace hF := hF'; clear hF'
                      refine tk (i := 21) (d := 140) (v := .int .u64 (y : Int)) hF rfl rfl (by kernel_rfl) (by kernel_rfl) (by kernel_rfl) (fun _ _ _ h => h) (yi_want rfl rfl (fr_at hF 4 rfl) (fun W hW => by replace cl := (hW.cell (p := ⟨Bl, j, none⟩) (World.block_lt_of_cell? _ _ cl)).trans cl; have f139 := fr_at hF 0 rfl; go_simp)) hS rfl (by decide) (fun a22 hA22 hF' => ?_)
                      replace hF := hF'; clear hF'
                      refine tk (i := 22) (d := 141) (v := .slice (some ⟨bV, oV, none⟩) i c3) hF rfl rfl (by kernel_rfl) (by kernel_rfl) (by kernel_rfl) (fun _ _ _ h => h) (yi_want rfl rfl (fr_at hF 5 rfl) (fun W hW => ex_move W rfl (fr_at hF 25 rfl))) hS rfl (by decide) (fun a23 hA23 hF' => ?_)
                      replace hF := hF'; clear hF'
                      refine tk (i := 23) (d := 142) (v := .int .i64 (j : Int)) hF rfl rfl (by kernel_rfl) (by kernel_rfl) (by kernel_rfl) (fun _ _ _ h => h) (yi_want rfl rfl (fr_at hF 6 rfl) (fun W hW => ex_move W rfl (fr_at hF 28 rfl))) hS rfl (by decide) (fun a24 hA24 hF' => ?_)
                      replace hF := hF'; clear hF'
                      refine tk (i := 24) (d := 143) (v := .pointer (some ⟨bV, oV + j, none⟩)) hF rfl rfl (by kernel_rfl) (by kernel_rfl) (by kernel_rfl) (fun _ _ _ h => h) (yi_want rfl rfl (fr_at hF 7 rfl) (fun W hW => by have f141 := fr_at hF 1 rfl; have f142 := fr_at hF 0 rfl; go_simp)) hS rfl (by decide) (fun a25 hA25 hF' => ?_)
                      replace hF := hF'; clear hF'
                      refine tk (i := 25) (d := 144) (v := .int .u64 (x : Int)) hF rfl rfl (by kernel_rfl) (by kernel_rfl) (by kernel_rfl) (fun _ _ _ h => h) (yi_want rfl rfl (fr_at hF 8 rfl) (fun W hW => by replace cv := (hW.cell (p := ⟨bV, oV + j, none⟩) (World.block_lt_of_cell? _ _ cv)).trans cv; have f143 := fr_at hF 0 rfl; go_simp)) hS rfl (by decide) (fun a26 hA26 hF' => ?_)
                      replace hF := hF'; clear hF'
                      refine tk (i := 26) (d := 145) (v := .func (.method "Below") #[.iface t p] #[]) hF rfl rfl (by kernel_rfl) (by kernel_rfl) (by kernel_rfl) (fun _ _ _ h => h) (yi_want rfl rfl (fr_at hF 9 rfl) (fun W hW => by have f136 := fr_at hF 8 rfl; go_simp)) hS rfl (by decide) (fun a27 hA27 hF' => ?_)
                      replace hF := hF'; clear hF'
                      refine tk (i := 27) (d := 146) (v := .func (.method "Below") #[.iface t p] #[]) hF rfl rfl (by kernel_rfl) (by kernel_rfl) (by kernel_rfl) (fun _ _ _ h => h) (yi_want rfl rfl (fr_at hF 10 rfl) (fun W hW => by have f145 := fr_at hF 0 rfl; go_simp)) hS rfl (by decide) (fun a28 hA28 hF' => ?_)
                      replace hF := hF'; clear hF'
                      refine tk (i := 28) (d := 147) (v := .iface t p) hF rfl rfl (by kernel_rfl) (by kernel_rfl) (by kernel_rfl) (fun _ _ _ h => h) (yi_want rfl rfl (fr_at hF 11 rfl) (fun W hW => ex_move W rfl (fr_at hF 10 rfl))) hS rfl (by decide) (fun a29 hA29 hF' => ?_)
                      replace hF := hF'; clear hF'
                      refine wpAnyH_ready (rs := [29]) (by kernel_rfl) (by simp) ?_
                      refine AllReadyH.cons rfl (fun K hK => ?_) AllReadyH.nil
                      rw [if_pos (by rw [guard_at rfl rfl (fr_at hF 12 rfl)]; rfl)]
                      have f147 := fr_at hF 0 rfl
                      have f140 := fr_at hF 7 rfl
                      have f144 := fr_at hF 3 rfl
                      go_simp
                      clear f147 f140 f144
                      refine (HQ2.out _ hS).mono ?_
                      rintro e wb ⟨rfl, hb⟩
                      go_wp2_with fail
                      refine hK.out _ _ (on hS hb) (fun _ => ?_)
                      replace hS := on hS hb
                      clear hK K
                      change wpAnyH _ _ _ _ _ _ _ (a29.put (some 148) (.bool true)) _
                      have hF' := fr_put hF 148 (.bool true) rfl (by decide)
                      generalize hA30 : Act.put a29 (some 148) (.bool true) = a30 at hF' ⊢
                      replace hF := hF'; clear hF'
                      refine tk (i := 30) (d := 149) (v := .bool false) hF rfl rfl (by kernel_rfl) (by kernel_rfl) (by kernel_rfl) (fun _ _ _ h => h) (yi_want rfl rfl (fr_at hF 13 rfl) (fun W hW => by have f148 := fr_at hF 0 rfl; go_simp)) hS rfl (by decide) (fun a31 hA31 hF' => ?_)
                      replace hF := hF'; clear hF'
                      refine tk (i := 31) (d := 150) (v := .bool false) hF rfl rfl (by kernel_rfl) (by kernel_rfl) (by kernel_rfl) (fun _ _ _ h => h) (yi_want rfl rfl (fr_at hF 14 rfl) (fun W hW => ex_move W rfl (fr_at hF 0 rfl))) hS rfl (by decide) (fun a32 hA32 hF' => ?_)
                      replace hF := hF'; clear hF'
                      refine tk (i := 32) (d := 151) (v := .iface t p) hF rfl rfl (by kernel_rfl) (by kernel_rfl) (by kernel_rfl) (fun _ _ _ h => h) (yi_want rfl rfl (fr_at hF 0 rfl) (fun W hW => ex_move W rfl (fr_at hF 32 rfl))) hS rfl (by decide) (fun a33 hA33 hF' => ?_)
                      replace hF := hF'; clear hF'
                      refine tk (i := 33) (d := 152) (v := .slice (some ⟨bV, oV, none⟩) i c3) hF rfl rfl (by kernel_rfl) (by kernel_rfl) (by kernel_rfl) (fun _ _ _ h => h) (yi_want rfl rfl (fr_at hF 1 rfl) (fun W hW => ex_move W rfl (fr_at hF 36 rfl))) hS rfl (by decide) (fun a34 hA34 hF' => ?_)
                      replace hF := hF'; clear hF'
                      refine tk (i := 34) (d := 153) (v := .int .i64 (j : Int)) hF rfl rfl (by kernel_rfl) (by kernel_rfl) (by kernel_rfl) (fun _ _ _ h => h) (yi_want rfl rfl (fr_at hF 2 rfl) (fun W hW => ex_move W rfl (fr_at hF 39 rfl))) hS rfl (by decide) (fun a35 hA35 hF' => ?_)
                      replace hF := hF'; clear hF'
                      refine tk (i := 35) (d := 154) (v := .pointer (some ⟨bV, oV + j, none⟩)) hF rfl rfl (by kernel_rfl) (by kernel_rfl) (by kernel_rfl) (fun _ _ _ h => h) (yi_want rfl rfl (fr_at hF 3 rfl) (fun W hW => by have f152 := fr_at hF 1 rfl; have f153 := fr_at hF 0 rfl; go_simp)) hS rfl (by decide) (fun a36 hA36 hF' => ?_)
                      replace hF := hF'; clear hF'
                      refine tk (i := 36) (d := 155) (v := .int .u64 (x : Int)) hF rfl rfl (by kernel_rfl) (by kernel_rfl) (by kernel_rfl) (fun _ _ _ h => h) (yi_want rfl rfl (fr_at hF 4 rfl) (fun W hW => by replace cv := (hW.cell (p := ⟨bV, oV + j, none⟩) (World.block_lt_of_cell? _ _ cv)).trans cv; have f154 := fr_at hF 0 rfl; go_simp)) hS rfl (by decide) (fun a37 hA37 hF' => ?_)
                      replace hF := hF'; clear hF'
                      refine tk (i := 37) (d := 156) (v := .slice (some ⟨Bh, 0, none⟩) i i) hF rfl rfl (by kernel_rfl) (by kernel_rfl) (by kernel_rfl) (fun _ _ _ h => h) (yi_want rfl rfl (fr_at hF 5 rfl) (fun W hW => ex_move W rfl (fr_at hF 39 rfl))) hS rfl (by decide) (fun a38 hA38 hF' => ?_)
                      replace hF := hF'; clear hF'
                      refine tk (i := 38) (d := 157) (v := .int .i64 (j : Int)) hF rfl rfl (by kernel_rfl) (by kernel_rfl) (by kernel_rfl) (fun _ _ _ h => h) (yi_want rfl rfl (fr_at hF 6 rfl) (fun W hW => ex_move W rfl (fr_at hF 43 rfl))) hS rfl (by decide) (fun a39 hA39 hF' => ?_)
                      replace hF := hF'; clear hF'
                      refine tk (i := 39) (d := 158) (v := .pointer (some ⟨Bh, j, none⟩)) hF rfl rfl (by kernel_rfl) (by kernel_rfl) (by kernel_rfl) (fun _ _ _ h => h) (yi_want rfl rfl (fr_at hF 7 rfl) (fun W hW => by have f156 := fr_at hF 1 rfl; have f157 := fr_at hF 0 rfl; go_simp)) hS rfl (by decide) (fun a40 hA40 hF' => ?_)
                      replace hF := hF'; clear hF'
                      refine tk (i := 40) (d := 159) (v := .int .u64 (z : Int)) hF rfl rfl (by kernel_rfl) (by kernel_rfl) (by kernel_rfl) (fun _ _ _ h => h) (yi_want rfl rfl (fr_at hF 8 rfl) (fun W hW => by replace ch := (hW.cell (p := ⟨Bh, j, none⟩) (World.block_lt_of_cell? _ _ ch)).trans ch; have f158 := fr_at hF 0 rfl; go_simp)) hS rfl (by decide) (fun a41 hA41 hF' => ?_)
                      replace hF := hF'; clear hF'
                      refine tk (i := 41) (d := 160) (v := .func (.method "Below") #[.iface t p] #[]) hF rfl rfl (by kernel_rfl) (by kernel_rfl) (by kernel_rfl) (fun _ _ _ h => h) (yi_want rfl rfl (fr_at hF 9 rfl) (fun W hW => by have f151 := fr_at hF 8 rfl; go_simp)) hS rfl (by decide) (fun a42 hA42 hF' => ?_)
                      replace hF := hF'; clear hF'
                      refine tk (i := 42) (d := 161) (v := .func (.method "Below") #[.iface t p] #[]) hF rfl rfl (by kernel_rfl) (by kernel_rfl) (by kernel_rfl) (fun _ _ _ h => h) (yi_want rfl rfl (fr_at hF 10 rfl) (fun W hW => by have f160 := fr_at hF 0 rfl; go_simp)) hS rfl (by decide) (fun a43 hA43 hF' => ?_)
                      replace hF := hF'; clear hF'
                      refine tk (i := 43) (d := 162) (v := .iface t p) hF rfl rfl (by kernel_rfl) (by kernel_rfl) (by kernel_rfl) (fun _ _ _ h => h) (yi_want rfl rfl (fr_at hF 11 rfl) (fun W hW => ex_move W rfl (fr_at hF 10 rfl))) hS rfl (by decide) (fun a44 hA44 hF' => ?_)
                      replace hF := hF'; clear hF'
                      refine wpAnyH_ready (rs := [44]) (by kernel_rfl) (by simp) ?_
                      refine AllReadyH.cons rfl (fun K hK => ?_) AllReadyH.nil
                      rw [if_pos (by rw [guard_at rfl rfl (fr_at hF 12 rfl)]; rfl)]
                      have f162 := fr_at hF 0 rfl
                      have f155 := fr_at hF 7 rfl
                      have f159 := fr_at hF 3 rfl
                      go_simp
                      clear f162 f155 f159
                      refine (HQ3.out _ hS).mono ?_
                      rintro e wc ⟨rfl, hb⟩
                      go_wp2_with fail
                      refine hK.out _ _ (on hS hb) (fun _ => ?_)
                      replace hS := on hS hb
                      clear hK K
                      change wpAnyH _ _ _ _ _ _ _ (a44.put (some 163) (.bool true)) _
                      have hF' := fr_put hF 163 (.bool true) rfl (by decide)
                      generalize hA45 : Act.put a44 (some 163) (.bool true) = a45 at hF' ⊢
                      replace hF := hF'; clear hF'
                      refine tk (i := 45) (d := 164) (v := .bool false) hF rfl rfl (by kernel_rfl) (by kernel_rfl) (by kernel_rfl) (fun _ _ _ h => h) (yi_want rfl rfl (fr_at hF 13 rfl) (fun W hW => by have f163 := fr_at hF 0 rfl; go_simp)) hS rfl (by decide) (fun a46 hA46 hF' => ?_)
                      replace hF := hF'; clear hF'
                      refine tk (i := 46) (d := 165) (v := .bool false) hF rfl rfl (by kernel_rfl) (by kernel_rfl) (by kernel_rfl) (fun _ _ _ h => h) (yi_want rfl rfl (fr_at hF 29 rfl) (fun W hW => by have f150 := fr_at hF 14 rfl; have f164 := fr_at hF 0 rfl; go_simp)) hS rfl (by decide) (fun a47 hA47 hF' => ?_)
                      replace hF := hF'; clear hF'
                      refine tk (i := 47) (d := 166) (v := .bool false) hF rfl rfl (by kernel_rfl) (by kernel_rfl) (by kernel_rfl) (fun _ _ _ h => h) (yi_want rfl rfl (fr_at hF 32 rfl) (fun W hW => by have f135 := fr_at hF 30 rfl; have f165 := fr_at hF 0 rfl; go_simp)) hS rfl (by decide) (fun a48 hA48 hF' => ?_)
                      replace hF := hF'; clear hF'
                      refine tk (i := 48) (d := 167) (v := .bool false) hF rfl rfl (by kernel_rfl) (by kernel_rfl) (by kernel_rfl) (fun _ _ _ h => h) (yi_go rfl (fun W hW => by have f133 := fr_at hF 33 rfl; have f166 := fr_at hF 0 rfl; go_simp)) hS rfl (by decide) (fun a49 hA49 hF' => ?_)
                      replace hF := hF'; clear hF'
                      refine wpAnyH_done (by kernel_rfl) ?_ _
                      rw [← hA49, ← hA48, ← hA47, ← hA46, ← hA45, ← hA44, ← hA43, ← hA42, ← hA41, ← hA40, ← hA39, ← hA38, ← hA37, ← hA36, ← hA35, ← hA34, ← hA33, ← hA32, ← hA31, ← hA30, ← hA29, ← hA28, ← hA27, ← hA26, ← hA25, ← hA24, ← hA23, ← hA22, ← hA21, ← hA20, ← hA19, ← hA18, ← hA17, ← hA16, ← hA15, ← hA14, ← hA13, ← hA12, ← hA11, ← hA10, ← hA9, ← hA8, ← hA7, ← hA6, ← hA5, ← hA4, ← hA3, ← hA2, ← hA1, ← hA0]
                      simp only [Act.put, List.setIfInBounds_toArray, List.set_cons_zero, List.set_cons_succ]
                      clear hF
                      have HB8 := Lib.hid (on HBq.out hS)
                      clear hS
                      go_wp2_with fail
                      go_roundw
                      case rel => exact ⟨j + 1, by omega, by go_num, HB8.out⟩
                      case measure => simp [intOf]; omega
                    · obtain rfl : j = i := by omega
                      have HBw := Lib.hid (on HBr.out (on HB7.out HBq.out))
                      go_wp2_with fail
                      refine (alive10_any _ (HT.out.below HBw.out)).mono ?_
                      rintro e wz ⟨rfl, hb⟩
                      have HBz := Lib.hid (on HBw.out hb)
                      clear hb
                      go_wp2_with fail
                      go_ret
                      exact ⟨rfl, HBz.out⟩
end Go.Proofs.YtappaokjlnpbnaaDoor
