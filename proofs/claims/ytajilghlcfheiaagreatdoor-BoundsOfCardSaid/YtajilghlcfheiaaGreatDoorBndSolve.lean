/- bounds.Solve. -/
import Derived.Test.YtajilghlcfheiaaGreatDoorBndGrow
import Derived.Test.YtajilghlcfheiaaGreatDoorBndHold
import Derived.Test.YtajilghlcfheiaaGreatDoorBndBase
import Derived.Deep.QuietTactic
import Derived.BigQuiet
import Derived.Deep.Cut
import Derived.Deep.CutRange
namespace Go.Proofs.YtajilghlcfheiaaGreatDoor.Bnd
set_option maxRecDepth 20000
open Go.RowKit Go.Proofs.YtajilghlcfheiaaGreatDoorW.PrintWords
set_option linter.unusedVariables false
theorem chk_all {S : SI} {n : Nat} {L : List Rea.Bd} (h1 : n ≤ 64) (h2 : L.length ≤ 256) (h : chkF S (n : Int) L = 0) : ∀ b ∈ L, okB S n b = true := by
  unfold chkF at h
  rw [if_neg (by omega)] at h
  by_cases ha : L.all (okB S (n : Int).toNat) = true
  · intro b hb
    have := List.all_eq_true.1 ha b hb
    rwa [Int.toNat_natCast] at this
  · rw [if_neg ha] at h
    cases h
theorem rowN_congr {w : World} {B N : Nat} {v : Value} {x : Nat} (h : w.rowIs B 66 N (fun _ => .int .u64 (x : Int))) : RowN w B N (fun _ => x) := h
/-- what Solve tells. -/
def SolveSays (S : SI) (N : Nat) (L : List Rea.Bd) (IL IH : (Nat → Nat) → Prop) (w : World) (e : Ending) (w' : World) : Prop :=
  Below w.heap.size w w' ∧
    ((chkF S (N : Int) L ≠ 0 ∧ e = .returned (.tuple #[.slice none 0 0, .slice none 0 0, .int .i64 ((chkF S (N : Int) L : Nat) : Int)])) ∨
      (chkF S (N : Int) L = 0 ∧ ∃ f g, IL f ∧ (∀ b ∈ L, StillL S f b) ∧ IH g ∧ (∀ b ∈ L, StillH S g b) ∧
        ((((0 < N ∧ S.has S.bot = false) ∨ holdF S (lst N f) L = false) ∧ e = .returned (.tuple #[.slice none 0 0, .slice none 0 0, .int .i64 10])) ∨
          ((0 < N → S.has S.bot = true) ∧ holdF S (lst N f) L = true ∧ ∃ Bl Bh, e = .returned (.tuple #[.slice (some ⟨Bl, 0, none⟩) N N, .slice (some ⟨Bh, 0, none⟩) N N, .int .i64 0]) ∧ w.heap.size ≤ Bl ∧ (w.heap.size ≤ Bh ∧ Bl ≠ Bh) ∧ RowN w' Bl N f ∧ RowN w' Bh N g))))
set_option maxRecDepth 100000 in
set_option maxHeartbeats 4000000 in
theorem solve_any (v : Value) (S : SI) (N : Nat) (h64 : N ≤ 64) (A2 : Option Addr) (m c2 : Nat) (L : List Rea.Bd) (hm : m = L.length) (hmm : m ≤ 256) (w : World) (hS : SortN w v S) (hL : Rea.Bds w A2 L)
    (IL IH : (Nat → Nat) → Prop) (μL μH : (Nat → Nat) → Nat) (hwL : chkF S (N : Int) L = 0 → WayL S N L IL μL) (hwH : chkF S (N : Int) L = 0 → WayH S N L IH μH) (hiL : chkF S (N : Int) L = 0 → IL (fun _ => S.bot)) (hiH : chkF S (N : Int) L = 0 → IH (fun _ => S.top)) :
    Calls Tryz.prog 12 #[v, .int .i64 (N : Int), .slice A2 m c2] w (SolveSays S N L IL IH w) := by
  have HM := Lib.hid hm
  have HL := Lib.hid hL
  have HTH := Lib.hid (there_any v S w hS)
  have HWL := Lib.hid hwL
  have HWH := Lib.hid hwH
  have HIL := Lib.hid hiL
  have HIH := Lib.hid hiH
  have HCK := Lib.hid (fun h => chk_all (S := S) (n := N) (L := L) h64 (by rw [← hm]; exact hmm) h)
  have HLEN : L.length ≤ 256 := by rw [← hm]; exact hmm
  unfold SolveSays
  clear hwL hwH hiL hiH hm hL hS
  go_enter Tryz.func12, Tryz.ntmps12
  go_wp2_with fail
  refine HTH.out.mono ?_
  rintro e w1 ⟨⟨t, p, rfl, hs⟩, rfl⟩
  have HSC := Lib.hid hs
  obtain ⟨fh, ih, ch⟩ := hs.has
  obtain ⟨fb, ib, cb⟩ := hs.bot
  obtain ⟨ft, it, ct⟩ := hs.top
  have mbot := ib.meth
  have kbot := ib.call
  have mtop := it.meth
  have ktop := it.call
  have mhas := ih.meth
  have khas := ih.call
  have ahas := ih.ahead
  have hblt := hs.blt
  have HCH := Lib.hid ch
  have HCB := Lib.hid cb
  have HCT := Lib.hid ct
  have HCHK := Lib.hid (check_in (.iface t p) S N h64 A2 m c2 L HM.out hmm w (.inr ⟨t, p, rfl, hs⟩) HL.out)
  clear hs ih ib it ch cb ct HTH
  go_wp2_with fail
  refine HCHK.out.mono ?_
  rintro e w1 ⟨rfl, hb1⟩
  have HB1 := Lib.hid hb1
  clear hb1 HCHK
  generalize hck : chkF S (N : Int) L = ck at HWL HWH HIL HIH HCK ⊢
  have HCKE := Lib.hid hck
  clear hck
  by_cases hck : ck = 0
  · subst hck
    replace HWL := Lib.hid (HWL.out rfl)
    replace HWH := Lib.hid (HWH.out rfl)
    replace HIL := Lib.hid (HIL.out rfl)
    replace HIH := Lib.hid (HIH.out rfl)
    have HOK := Lib.hid (HCK.out rfl)
    clear HCK
    go_upto_region 5 with fail
    obtain ⟨wd, hwd⟩ : ∃ wd, wd = w1 := ⟨_, rfl⟩
    rw [← hwd] at HB1 ⊢
    clear hwd
    have HSCw := Lib.hid HSC.out
    replace HSC := Lib.hid (HSCw.out.on HB1.out)
    have HLL := Lib.hid (HL.out.below HB1.out)
    have HCTOP := Lib.hid (fun W (h : Below wd.heap.size wd W) => HCT.out W (on HB1.out h))
    have HCBOT := Lib.hid (fun W (h : Below wd.heap.size wd W) => HCB.out W (on HB1.out h))
    have HCHAS := Lib.hid (fun W (h : Below wd.heap.size wd W) => HCH.out W S.bot (on HB1.out h) hblt)
    clear HCT HCB HCH HSCw HL
    refine wp_region_held (S := fun W => Below wd.heap.size wd W) (by kernel_rfl) ?_
    generalize hA0 : Act.mk _ _ = a0
    have hF := Fr.nil (n := 57) (a := a0) (by rw [← hA0]; rfl)
    replace hF := Fr.cons hF 2 (.slice A2 m c2) (by rw [← hA0]; rfl)
    replace hF := Fr.cons hF 1 (.int .i64 (N : Int)) (by rw [← hA0]; rfl)
    replace hF := Fr.cons hF 0 (.iface t p) (by rw [← hA0]; rfl)
    have hS : Below wd.heap.size wd (World.drew _) := (Below.refl _ wd).drew
    change wpAnyH _ _ _ _ _ _ _ _ (World.drew _)
    refine tk (i := 0) (d := 18) (v := .slice A2 m c2) hF rfl rfl (by kernel_rfl) (by kernel_rfl) (by kernel_rfl) (fun _ _ _ h => h) (yi_go rfl (fun W hW => ex_move W rfl (fr_at hF 2 rfl))) hS rfl (by decide) (fun a1 hA1 hF' => ?_)
    replace hF := hF'; clear hF'
    refine tk (i := 1) (d := 19) (v := .iface t p) hF rfl rfl (by kernel_rfl) (by kernel_rfl) (by kernel_rfl) (fun _ _ _ h => h) (yi_go rfl (fun W hW => ex_move W rfl (fr_at hF 1 rfl))) hS rfl (by decide) (fun a2 hA2 hF' => ?_)
    replace hF := hF'; clear hF'
    refine tk (i := 3) (d := 21) (v := .int .i64 (N : Int)) hF rfl rfl (by kernel_rfl) (by kernel_rfl) (by kernel_rfl) (fun _ _ _ h => h) (yi_go rfl (fun W hW => ex_move W rfl (fr_at hF 3 rfl))) hS rfl (by decide) (fun a3 hA3 hF' => ?_)
    replace hF := hF'; clear hF'
    refine tk (i := 5) (d := 23) (v := .iface t p) hF rfl rfl (by kernel_rfl) (by kernel_rfl) (by kernel_rfl) (fun _ _ _ h => h) (yi_go rfl (fun W hW => ex_move W rfl (fr_at hF 3 rfl))) hS rfl (by decide) (fun a4 hA4 hF' => ?_)
    replace hF := hF'; clear hF'
    refine tk (i := 6) (d := 24) (v := .iface t p) hF rfl rfl (by kernel_rfl) (by kernel_rfl) (by kernel_rfl) (fun _ _ _ h => h) (yi_go rfl (fun W hW => by have f23 := fr_at hF 0 rfl; go_simp)) hS rfl (by decide) (fun a5 hA5 hF' => ?_)
    replace hF := hF'; clear hF'
    refine tk (i := 7) (d := 25) (v := .func (.method "Join") #[.iface t p] #[]) hF rfl rfl (by kernel_rfl) (by kernel_rfl) (by kernel_rfl) (fun _ _ _ h => h) (yi_go rfl (fun W hW => by have f24 := fr_at hF 0 rfl; go_simp)) hS rfl (by decide) (fun a6 hA6 hF' => ?_)
    replace hF := hF'; clear hF'
    refine wpAnyH_ready (rs := [2]) (by kernel_rfl) (by simp) ?_
    refine AllReadyH.cons rfl (fun K hK => ?_) AllReadyH.nil
    have f19 := fr_at hF 4 rfl
    go_simp
    clear f19
    refine (HCBOT.out _ hS).mono ?_
    rintro e wa ⟨rfl, hb⟩
    go_wp2_with fail
    refine hK.out _ _ (on hS hb) (fun _ => ?_)
    replace hS := on hS hb
    clear hK K
    change wpAnyH _ _ _ _ _ _ _ (a6.put (some 20) (.int .u64 ((S.bot : Nat) : Int))) _
    have hF' := fr_put hF 20 (.int .u64 ((S.bot : Nat) : Int)) rfl (by decide)
    generalize hA7 : Act.put a6 (some 20) (.int .u64 ((S.bot : Nat) : Int)) = a7 at hF' ⊢
    replace hF := hF'; clear hF'
    refine wpAnyH_ready (rs := [4]) (by kernel_rfl) (by simp) ?_
    refine AllReadyH.cons rfl (fun K hK => ?_) AllReadyH.nil
    have f20 := fr_at hF 0 rfl
    have f21 := fr_at hF 4 rfl
    go_simp
    clear f20 f21
    go_at_call 50
    refine (so_any S.bot N h64 _).mono ?_
    rintro e wb ⟨⟨B, rfl, hB, hrow⟩, hb⟩
    have hBB := Nat.le_trans hS.size hB
    go_wp2_with fail
    refine hK.out _ _ (on hS hb) (fun _ => ?_)
    replace hS := on hS hb
    clear hK K
    change wpAnyH _ _ _ _ _ _ _ (a7.put (some 22) (.slice (some ⟨B, 0, none⟩) N N)) _
    have hF' := fr_put hF 22 (.slice (some ⟨B, 0, none⟩) N N) rfl (by decide)
    generalize hA8 : Act.put a7 (some 22) (.slice (some ⟨B, 0, none⟩) N N) = a8 at hF' ⊢
    replace hF := hF'; clear hF'
    refine wpAnyH_ready (rs := [8]) (by kernel_rfl) (by simp) ?_
    refine AllReadyH.cons rfl (fun K hK => ?_) AllReadyH.nil
    have f18 := fr_at hF 7 rfl
    have f22 := fr_at hF 0 rfl
    have f25 := fr_at hF 2 rfl
    go_simp
    clear f18 f22 f25
    go_at_call 48
    refine (growL_any S N h64 A2 m c2 L HM.out hmm HOK.out B t p wd _ HSC.out HLL.out hS hBB IL μL HWL.out (fun _ => S.bot) hrow HIL.out).mono ?_
    rintro e wc ⟨rfl, hbut, hb, f, hrf, hif, hst⟩
    go_wp2_with fail
    refine hK.out _ _ (hb) (fun _ => ?_)
    replace hS := hb
    clear hK K
    change wpAnyH _ _ _ _ _ _ _ (a8.put (some 26) (.slice (some ⟨B, 0, none⟩) N N)) _
    have hF' := fr_put hF 26 (.slice (some ⟨B, 0, none⟩) N N) rfl (by decide)
    generalize hA9 : Act.put a8 (some 26) (.slice (some ⟨B, 0, none⟩) N N) = a9 at hF' ⊢
    replace hF := hF'; clear hF'
    refine tk (i := 9) (d := 6) (v := .slice (some ⟨B, 0, none⟩) N N) hF rfl rfl (by kernel_rfl) (by kernel_rfl) (by kernel_rfl) (fun _ _ _ h => h) (yi_go rfl (fun W hW => ex_assign W rfl (fr_at hF 0 rfl))) hS rfl (by decide) (fun a10 hA10 hF' => ?_)
    replace hF := hF'; clear hF'
    refine wpAnyH_done (by kernel_rfl) ?_ _
    rw [← hA10, ← hA9, ← hA8, ← hA7, ← hA6, ← hA5, ← hA4, ← hA3, ← hA2, ← hA1, ← hA0]
    simp only [Act.put, List.setIfInBounds_toArray, List.set_cons_zero, List.set_cons_succ]
    clear hF
    obtain ⟨BL, rfl⟩ : ∃ BL, BL = B := ⟨_, rfl⟩
    obtain ⟨fl, rfl⟩ : ∃ fl, fl = f := ⟨_, rfl⟩
    have HLTL := Lib.hid HWL.out.lt
    have HRF := Lib.hid hrf
    have HIF := Lib.hid hif
    have HST := Lib.hid hst
    have hBL := hBB
    have HSB := Lib.hid hS
    clear hS hrow hbut hrf hif hst HWL HIL hB hBB
    go_upto_region 6 with fail
    obtain ⟨we, hwe⟩ : ∃ we, we = wd := ⟨_, rfl⟩
    obtain ⟨wd, hwd⟩ : ∃ wd', wd' = wc := ⟨_, rfl⟩
    rw [← hwd] at HSB HRF ⊢
    rw [← hwe] at HSB HB1 HSC HLL HCTOP HCBOT HCHAS hBL
    clear hwd hwe
    replace HSC := Lib.hid (HSC.out.on HSB.out)
    replace HLL := Lib.hid (HLL.out.below HSB.out)
    replace HCTOP := Lib.hid (fun W (h : Below wd.heap.size wd W) => HCTOP.out W (on HSB.out h))
    replace HCBOT := Lib.hid (fun W (h : Below wd.heap.size wd W) => HCBOT.out W (on HSB.out h))
    replace HCHAS := Lib.hid (fun W (h : Below wd.heap.size wd W) => HCHAS.out W (on HSB.out h))
    refine wp_region_held (S := fun W => Below wd.heap.size wd W) (by kernel_rfl) ?_
    generalize hA0 : Act.mk _ _ = a0
    have hF := Fr.nil (n := 57) (a := a0) (by rw [← hA0]; rfl)
    replace hF := Fr.cons hF 2 (.slice A2 m c2) (by rw [← hA0]; rfl)
    replace hF := Fr.cons hF 1 (.int .i64 (N : Int)) (by rw [← hA0]; rfl)
    replace hF := Fr.cons hF 0 (.iface t p) (by rw [← hA0]; rfl)
    have hS : Below wd.heap.size wd (World.drew _) := (Below.refl _ wd).drew
    change wpAnyH _ _ _ _ _ _ _ _ (World.drew _)
    refine tk (i := 0) (d := 27) (v := .slice A2 m c2) hF rfl rfl (by kernel_rfl) (by kernel_rfl) (by kernel_rfl) (fun _ _ _ h => h) (yi_go rfl (fun W hW => ex_move W rfl (fr_at hF 2 rfl))) hS rfl (by decide) (fun a1 hA1 hF' => ?_)
    replace hF := hF'; clear hF'
    refine tk (i := 1) (d := 28) (v := .iface t p) hF rfl rfl (by kernel_rfl) (by kernel_rfl) (by kernel_rfl) (fun _ _ _ h => h) (yi_go rfl (fun W hW => ex_move W rfl (fr_at hF 1 rfl))) hS rfl (by decide) (fun a2 hA2 hF' => ?_)
    replace hF := hF'; clear hF'
    refine tk (i := 3) (d := 30) (v := .int .i64 (N : Int)) hF rfl rfl (by kernel_rfl) (by kernel_rfl) (by kernel_rfl) (fun _ _ _ h => h) (yi_go rfl (fun W hW => ex_move W rfl (fr_at hF 3 rfl))) hS rfl (by decide) (fun a3 hA3 hF' => ?_)
    replace hF := hF'; clear hF'
    refine tk (i := 5) (d := 32) (v := .iface t p) hF rfl rfl (by kernel_rfl) (by kernel_rfl) (by kernel_rfl) (fun _ _ _ h => h) (yi_go rfl (fun W hW => ex_move W rfl (fr_at hF 3 rfl))) hS rfl (by decide) (fun a4 hA4 hF' => ?_)
    replace hF := hF'; clear hF'
    refine tk (i := 6) (d := 33) (v := .iface t p) hF rfl rfl (by kernel_rfl) (by kernel_rfl) (by kernel_rfl) (fun _ _ _ h => h) (yi_go rfl (fun W hW => by have f32 := fr_at hF 0 rfl; go_simp)) hS rfl (by decide) (fun a5 hA5 hF' => ?_)
    replace hF := hF'; clear hF'
    refine tk (i := 7) (d := 34) (v := .func (.method "Meet") #[.iface t p] #[]) hF rfl rfl (by kernel_rfl) (by kernel_rfl) (by kernel_rfl) (fun _ _ _ h => h) (yi_go rfl (fun W hW => by have f33 := fr_at hF 0 rfl; go_simp)) hS rfl (by decide) (fun a6 hA6 hF' => ?_)
    replace hF := hF'; clear hF'
    refine wpAnyH_ready (rs := [2]) (by kernel_rfl) (by simp) ?_
    refine AllReadyH.cons rfl (fun K hK => ?_) AllReadyH.nil
    have f28 := fr_at hF 4 rfl
    go_simp
    clear f28
    refine (HCTOP.out _ hS).mono ?_
    rintro e wa ⟨rfl, hb⟩
    go_wp2_with fail
    refine hK.out _ _ (on hS hb) (fun _ => ?_)
    replace hS := on hS hb
    clear hK K
    change wpAnyH _ _ _ _ _ _ _ (a6.put (some 29) (.int .u64 ((S.top : Nat) : Int))) _
    have hF' := fr_put hF 29 (.int .u64 ((S.top : Nat) : Int)) rfl (by decide)
    generalize hA7 : Act.put a6 (some 29) (.int .u64 ((S.top : Nat) : Int)) = a7 at hF' ⊢
    replace hF := hF'; clear hF'
    refine wpAnyH_ready (rs := [4]) (by kernel_rfl) (by simp) ?_
    refine AllReadyH.cons rfl (fun K hK => ?_) AllReadyH.nil
    have f29 := fr_at hF 0 rfl
    have f30 := fr_at hF 4 rfl
    go_simp
    clear f29 f30
    go_at_call 50
    refine (so_any S.top N h64 _).mono ?_
    rintro e wb ⟨⟨B, rfl, hB, hrow⟩, hb⟩
    have hBB := Nat.le_trans hS.size hB
    go_wp2_with fail
    refine hK.out _ _ (on hS hb) (fun _ => ?_)
    replace hS := on hS hb
    clear hK K
    change wpAnyH _ _ _ _ _ _ _ (a7.put (some 31) (.slice (some ⟨B, 0, none⟩) N N)) _
    have hF' := fr_put hF 31 (.slice (some ⟨B, 0, none⟩) N N) rfl (by decide)
    generalize hA8 : Act.put a7 (some 31) (.slice (some ⟨B, 0, none⟩) N N) = a8 at hF' ⊢
    replace hF := hF'; clear hF'
    refine wpAnyH_ready (rs := [8]) (by kernel_rfl) (by simp) ?_
    refine AllReadyH.cons rfl (fun K hK => ?_) AllReadyH.nil
    have f27 := fr_at hF 7 rfl
    have f31 := fr_at hF 0 rfl
    have f34 := fr_at hF 2 rfl
    go_simp
    clear f27 f31 f34
    go_at_call 48
    refine (growH_any S N h64 A2 m c2 L HM.out hmm HOK.out B t p wd _ HSC.out HLL.out hS hBB IH μH HWH.out (fun _ => S.top) hrow HIH.out).mono ?_
    rintro e wc ⟨rfl, hbut, hb, f, hrf, hif, hst⟩
    go_wp2_with fail
    refine hK.out _ _ (hb) (fun _ => ?_)
    replace hS := hb
    clear hK K
    change wpAnyH _ _ _ _ _ _ _ (a8.put (some 35) (.slice (some ⟨B, 0, none⟩) N N)) _
    have hF' := fr_put hF 35 (.slice (some ⟨B, 0, none⟩) N N) rfl (by decide)
    generalize hA9 : Act.put a8 (some 35) (.slice (some ⟨B, 0, none⟩) N N) = a9 at hF' ⊢
    replace hF := hF'; clear hF'
    refine tk (i := 9) (d := 7) (v := .slice (some ⟨B, 0, none⟩) N N) hF rfl rfl (by kernel_rfl) (by kernel_rfl) (by kernel_rfl) (fun _ _ _ h => h) (yi_go rfl (fun W hW => ex_assign W rfl (fr_at hF 0 rfl))) hS rfl (by decide) (fun a10 hA10 hF' => ?_)
    replace hF := hF'; clear hF'
    refine wpAnyH_done (by kernel_rfl) ?_ _
    rw [← hA10, ← hA9, ← hA8, ← hA7, ← hA6, ← hA5, ← hA4, ← hA3, ← hA2, ← hA1, ← hA0]
    simp only [Act.put, List.setIfInBounds_toArray, List.set_cons_zero, List.set_cons_succ]
    clear hF
    obtain ⟨BH, rfl⟩ : ∃ BH, BH = B := ⟨_, rfl⟩
    have HRG := Lib.hid hrf
    have HIG := Lib.hid hif
    have HSG := Lib.hid hst
    have hBH := hBB
    have HSB2 := Lib.hid hS
    have hBH1 : w.heap.size ≤ BH := by have := HB1.out.size; have := HSB.out.size; omega
    have hNE : BL ≠ BH := by have := World.rowIs.lt HRF.out; omega
    have hBL1 : w.heap.size ≤ BL := by have := HB1.out.size; omega
    clear hS hrow hbut hrf hif hst HWH HIH hB hBB
    have HBE := Lib.hid (on (on HB1.out HSB.out) HSB2.out)
    obtain ⟨we, hwe⟩ : ∃ we, we = wd := ⟨_, rfl⟩
    obtain ⟨wd, hwd⟩ : ∃ wd', wd' = wc := ⟨_, rfl⟩
    rw [← hwd] at HSB2 HRG HBE ⊢
    rw [← hwe] at HSB HSB2 HSC HLL HCTOP HCBOT HCHAS hBH HRF
    clear hwd hwe
    have HLTF := HLTL.out _ HIF.out
    replace HSC := Lib.hid (HSC.out.on HSB2.out)
    replace HLL := Lib.hid (HLL.out.below HSB2.out)
    replace HCBOT := Lib.hid (fun W (h : Below wd.heap.size wd W) => HCBOT.out W (on HSB2.out h))
    replace HCHAS := Lib.hid (fun W (h : Below wd.heap.size wd W) => HCHAS.out W (on HSB2.out h))
    replace HRF := Lib.hid (HRF.out.below HSB2.out)
    have HHO := Lib.hid (fun W (h : Below wd.heap.size wd W) => hold_any (.iface t p) S (some ⟨BL, 0, none⟩) N N (lst N fl) (lst_length N fl).symm (by omega) A2 m c2 L HM.out (by omega) W (.inr ⟨t, p, rfl, HSC.out.on h⟩) ((HRF.out.below h).nums HLTF) (HLL.out.below h))
    clear HCTOP HSB HSB2 hBL hBH HLTF HLTL
    obtain ⟨q, hq⟩ : ∃ q, holdF S (lst N fl) L = q := ⟨_, rfl⟩
    have HQ := Lib.hid hq
    rw [hq] at HHO
    clear hq
    by_cases hN : N = 0
    · have HNZ := Lib.hid hN
      have HN := Lib.hid (show 0 < N → S.has S.bot = true from fun h => absurd hN (by omega))
      clear HCBOT HCHAS hN
      cases q with
      | true =>
        go_upto_region 7 with fail
        refine wp_region_held (S := fun W => Below wd.heap.size wd W) (by kernel_rfl) ?_
        generalize hA0 : Act.mk _ _ = a0
        have hF := Fr.nil (n := 57) (a := a0) (by rw [← hA0]; rfl)
        replace hF := Fr.cons hF 6 (.slice (some ⟨BL, 0, none⟩) N N) (by rw [← hA0]; rfl)
        replace hF := Fr.cons hF 2 (.slice A2 m c2) (by rw [← hA0]; rfl)
        replace hF := Fr.cons hF 1 (.int .i64 (N : Int)) (by rw [← hA0]; rfl)
        replace hF := Fr.cons hF 0 (.iface t p) (by rw [← hA0]; rfl)
        have hS : Below wd.heap.size wd (World.drew _) := (Below.refl _ wd).drew
        change wpAnyH _ _ _ _ _ _ _ _ (World.drew _)
        refine tk (i := 0) (d := 36) (v := .int .i64 (N : Int)) hF rfl rfl (by kernel_rfl) (by kernel_rfl) (by kernel_rfl) (fun _ _ _ h => h) (yi_go rfl (fun W hW => ex_move W rfl (fr_at hF 1 rfl))) hS rfl (by decide) (fun a1 hA1 hF' => ?_)
        replace hF := hF'; clear hF'
        refine tk (i := 1) (d := 37) (v := .bool false) hF rfl rfl (by kernel_rfl) (by kernel_rfl) (by kernel_rfl) (fun _ _ _ h => h) (yi_go rfl (fun W hW => by have f36 := fr_at hF 0 rfl; go_simp; have := HNZ.out; omega)) hS rfl (by decide) (fun a2 hA2 hF' => ?_)
        replace hF := hF'; clear hF'
        refine tk (i := 2) (d := 38) (v := .bool false) hF rfl rfl (by kernel_rfl) (by kernel_rfl) (by kernel_rfl) (fun _ _ _ h => h) (yi_go rfl (fun W hW => ex_move W rfl (fr_at hF 0 rfl))) hS rfl (by decide) (fun a3 hA3 hF' => ?_)
        replace hF := hF'; clear hF'
        refine tk (i := 3) (d := 39) (v := undef) hF rfl rfl (by kernel_rfl) (by kernel_rfl) (by kernel_rfl) (fun _ _ _ h => h) (yi_skip rfl rfl (fr_at hF 0 rfl)) hS rfl (by decide) (fun a4 hA4 hF' => ?_)
        replace hF := hF'; clear hF'
        refine tk (i := 4) (d := 40) (v := undef) hF rfl rfl (by kernel_rfl) (by kernel_rfl) (by kernel_rfl) (fun _ _ _ h => h) (yi_skip rfl rfl (fr_at hF 1 rfl)) hS rfl (by decide) (fun a5 hA5 hF' => ?_)
        replace hF := hF'; clear hF'
        refine tk (i := 6) (d := 42) (v := undef) hF rfl rfl (by kernel_rfl) (by kernel_rfl) (by kernel_rfl) (fun _ _ _ h => h) (yi_skip rfl rfl (fr_at hF 2 rfl)) hS rfl (by decide) (fun a6 hA6 hF' => ?_)
        replace hF := hF'; clear hF'
        refine tk (i := 7) (d := 43) (v := undef) hF rfl rfl (by kernel_rfl) (by kernel_rfl) (by kernel_rfl) (fun _ _ _ h => h) (yi_skip rfl rfl (fr_at hF 3 rfl)) hS rfl (by decide) (fun a7 hA7 hF' => ?_)
        replace hF := hF'; clear hF'
        refine tk (i := 8) (d := 44) (v := undef) hF rfl rfl (by kernel_rfl) (by kernel_rfl) (by kernel_rfl) (fun _ _ _ h => h) (yi_skip rfl rfl (fr_at hF 4 rfl)) hS rfl (by decide) (fun a8 hA8 hF' => ?_)
        replace hF := hF'; clear hF'
        refine tk (i := 5) (d := 41) (v := undef) hF rfl rfl (by kernel_rfl) (by kernel_rfl) (by kernel_rfl) (fun _ _ _ h => h) (yi_skip rfl rfl (fr_at hF 5 rfl)) hS rfl (by decide) (fun a9 hA9 hF' => ?_)
        replace hF := hF'; clear hF'
        refine tk (i := 9) (d := 45) (v := undef) hF rfl rfl (by kernel_rfl) (by kernel_rfl) (by kernel_rfl) (fun _ _ _ h => h) (yi_skip rfl rfl (fr_at hF 6 rfl)) hS rfl (by decide) (fun a10 hA10 hF' => ?_)
        replace hF := hF'; clear hF'
        refine tk (i := 10) (d := 46) (v := undef) hF rfl rfl (by kernel_rfl) (by kernel_rfl) (by kernel_rfl) (fun _ _ _ h => h) (yi_skip rfl rfl (fr_at hF 7 rfl)) hS rfl (by decide) (fun a11 hA11 hF' => ?_)
        replace hF := hF'; clear hF'
        refine tk (i := 11) (d := 47) (v := .bool false) hF rfl rfl (by kernel_rfl) (by kernel_rfl) (by kernel_rfl) (fun _ _ _ h => h) (yi_go rfl (fun W hW => by have f38 := fr_at hF 8 rfl; have f46 := fr_at hF 0 rfl; go_simp)) hS rfl (by decide) (fun a12 hA12 hF' => ?_)
        replace hF := hF'; clear hF'
        refine tk (i := 12) (d := 48) (v := .bool false) hF rfl rfl (by kernel_rfl) (by kernel_rfl) (by kernel_rfl) (fun _ _ _ h => h) (yi_go rfl (fun W hW => ex_move W rfl (fr_at hF 0 rfl))) hS rfl (by decide) (fun a13 hA13 hF' => ?_)
        replace hF := hF'; clear hF'
        refine tk (i := 13) (d := 49) (v := .iface t p) hF rfl rfl (by kernel_rfl) (by kernel_rfl) (by kernel_rfl) (fun _ _ _ h => h) (yi_want rfl rfl (fr_at hF 0 rfl) (fun W hW => ex_move W rfl (fr_at hF 13 rfl))) hS rfl (by decide) (fun a14 hA14 hF' => ?_)
        replace hF := hF'; clear hF'
        refine tk (i := 14) (d := 50) (v := .slice (some ⟨BL, 0, none⟩) N N) hF rfl rfl (by kernel_rfl) (by kernel_rfl) (by kernel_rfl) (fun _ _ _ h => h) (yi_want rfl rfl (fr_at hF 1 rfl) (fun W hW => ex_move W rfl (fr_at hF 17 rfl))) hS rfl (by decide) (fun a15 hA15 hF' => ?_)
        replace hF := hF'; clear hF'
        refine tk (i := 15) (d := 51) (v := .slice A2 m c2) hF rfl rfl (by kernel_rfl) (by kernel_rfl) (by kernel_rfl) (fun _ _ _ h => h) (yi_want rfl rfl (fr_at hF 2 rfl) (fun W hW => ex_move W rfl (fr_at hF 17 rfl))) hS rfl (by decide) (fun a16 hA16 hF' => ?_)
        replace hF := hF'; clear hF'
        refine wpAnyH_ready (rs := [16]) (by kernel_rfl) (by simp) ?_
        refine AllReadyH.cons rfl (fun K hK => ?_) AllReadyH.nil
        rw [if_pos (by rw [guard_at rfl rfl (fr_at hF 3 rfl)]; rfl)]
        have f49 := fr_at hF 2 rfl
        have f50 := fr_at hF 1 rfl
        have f51 := fr_at hF 0 rfl
        go_simp
        clear f49 f50 f51
        go_at_call 17
        refine (HHO.out _ hS).mono ?_
        rintro e wa ⟨rfl, hb⟩
        go_wp2_with fail
        refine hK.out _ _ (on hS hb) (fun _ => ?_)
        replace hS := on hS hb
        clear hK K
        change wpAnyH _ _ _ _ _ _ _ (a16.put (some 52) (.bool true)) _
        have hF' := fr_put hF 52 (.bool true) rfl (by decide)
        generalize hA17 : Act.put a16 (some 52) (.bool true) = a17 at hF' ⊢
        replace hF := hF'; clear hF'
        refine tk (i := 17) (d := 53) (v := .bool false) hF rfl rfl (by kernel_rfl) (by kernel_rfl) (by kernel_rfl) (fun _ _ _ h => h) (yi_want rfl rfl (fr_at hF 4 rfl) (fun W hW => by have f52 := fr_at hF 0 rfl; go_simp)) hS rfl (by decide) (fun a18 hA18 hF' => ?_)
        replace hF := hF'; clear hF'
        refine tk (i := 18) (d := 54) (v := .bool false) hF rfl rfl (by kernel_rfl) (by kernel_rfl) (by kernel_rfl) (fun _ _ _ h => h) (yi_go rfl (fun W hW => by have f48 := fr_at hF 5 rfl; have f53 := fr_at hF 0 rfl; go_simp)) hS rfl (by decide) (fun a19 hA19 hF' => ?_)
        replace hF := hF'; clear hF'
        refine wpAnyH_done (by kernel_rfl) ?_ _
        rw [← hA19, ← hA18, ← hA17, ← hA16, ← hA15, ← hA14, ← hA13, ← hA12, ← hA11, ← hA10, ← hA9, ← hA8, ← hA7, ← hA6, ← hA5, ← hA4, ← hA3, ← hA2, ← hA1, ← hA0]
        simp only [Act.put, List.setIfInBounds_toArray, List.set_cons_zero, List.set_cons_succ]
        clear hF
        have HB7 := Lib.hid hS
        clear hS
        go_wp2_with fail
        go_ret3
        exact ⟨on HBE.out HB7.out, .inr ⟨HCKE.out, _, _, HIF.out, HST.out, HIG.out, HSG.out, .inr ⟨HN.out, HQ.out, BL, BH, rfl, hBL1, ⟨hBH1, hNE⟩, HRF.out.below HB7.out, HRG.out.below HB7.out⟩⟩⟩
      | false =>
        go_upto_region 7 with fail
        refine wp_region_held (S := fun W => Below wd.heap.size wd W) (by kernel_rfl) ?_
        generalize hA0 : Act.mk _ _ = a0
        have hF := Fr.nil (n := 57) (a := a0) (by rw [← hA0]; rfl)
        replace hF := Fr.cons hF 6 (.slice (some ⟨BL, 0, none⟩) N N) (by rw [← hA0]; rfl)
        replace hF := Fr.cons hF 2 (.slice A2 m c2) (by rw [← hA0]; rfl)
        replace hF := Fr.cons hF 1 (.int .i64 (N : Int)) (by rw [← hA0]; rfl)
        replace hF := Fr.cons hF 0 (.iface t p) (by rw [← hA0]; rfl)
        have hS : Below wd.heap.size wd (World.drew _) := (Below.refl _ wd).drew
        change wpAnyH _ _ _ _ _ _ _ _ (World.drew _)
        refine tk (i := 0) (d := 36) (v := .int .i64 (N : Int)) hF rfl rfl (by kernel_rfl) (by kernel_rfl) (by kernel_rfl) (fun _ _ _ h => h) (yi_go rfl (fun W hW => ex_move W rfl (fr_at hF 1 rfl))) hS rfl (by decide) (fun a1 hA1 hF' => ?_)
        replace hF := hF'; clear hF'
        refine tk (i := 1) (d := 37) (v := .bool false) hF rfl rfl (by kernel_rfl) (by kernel_rfl) (by kernel_rfl) (fun _ _ _ h => h) (yi_go rfl (fun W hW => by have f36 := fr_at hF 0 rfl; go_simp; have := HNZ.out; omega)) hS rfl (by decide) (fun a2 hA2 hF' => ?_)
        replace hF := hF'; clear hF'
        refine tk (i := 2) (d := 38) (v := .bool false) hF rfl rfl (by kernel_rfl) (by kernel_rfl) (by kernel_rfl) (fun _ _ _ h => h) (yi_go rfl (fun W hW => ex_move W rfl (fr_at hF 0 rfl))) hS rfl (by decide) (fun a3 hA3 hF' => ?_)
        replace hF := hF'; clear hF'
        refine tk (i := 3) (d := 39) (v := undef) hF rfl rfl (by kernel_rfl) (by kernel_rfl) (by kernel_rfl) (fun _ _ _ h => h) (yi_skip rfl rfl (fr_at hF 0 rfl)) hS rfl (by decide) (fun a4 hA4 hF' => ?_)
        replace hF := hF'; clear hF'
        refine tk (i := 4) (d := 40) (v := undef) hF rfl rfl (by kernel_rfl) (by kernel_rfl) (by kernel_rfl) (fun _ _ _ h => h) (yi_skip rfl rfl (fr_at hF 1 rfl)) hS rfl (by decide) (fun a5 hA5 hF' => ?_)
        replace hF := hF'; clear hF'
        refine tk (i := 6) (d := 42) (v := undef) hF rfl rfl (by kernel_rfl) (by kernel_rfl) (by kernel_rfl) (fun _ _ _ h => h) (yi_skip rfl rfl (fr_at hF 2 rfl)) hS rfl (by decide) (fun a6 hA6 hF' => ?_)
        replace hF := hF'; clear hF'
        refine tk (i := 7) (d := 43) (v := undef) hF rfl rfl (by kernel_rfl) (by kernel_rfl) (by kernel_rfl) (fun _ _ _ h => h) (yi_skip rfl rfl (fr_at hF 3 rfl)) hS rfl (by decide) (fun a7 hA7 hF' => ?_)
        replace hF := hF'; clear hF'
        refine tk (i := 8) (d := 44) (v := undef) hF rfl rfl (by kernel_rfl) (by kernel_rfl) (by kernel_rfl) (fun _ _ _ h => h) (yi_skip rfl rfl (fr_at hF 4 rfl)) hS rfl (by decide) (fun a8 hA8 hF' => ?_)
        replace hF := hF'; clear hF'
        refine tk (i := 5) (d := 41) (v := undef) hF rfl rfl (by kernel_rfl) (by kernel_rfl) (by kernel_rfl) (fun _ _ _ h => h) (yi_skip rfl rfl (fr_at hF 5 rfl)) hS rfl (by decide) (fun a9 hA9 hF' => ?_)
        replace hF := hF'; clear hF'
        refine tk (i := 9) (d := 45) (v := undef) hF rfl rfl (by kernel_rfl) (by kernel_rfl) (by kernel_rfl) (fun _ _ _ h => h) (yi_skip rfl rfl (fr_at hF 6 rfl)) hS rfl (by decide) (fun a10 hA10 hF' => ?_)
        replace hF := hF'; clear hF'
        refine tk (i := 10) (d := 46) (v := undef) hF rfl rfl (by kernel_rfl) (by kernel_rfl) (by kernel_rfl) (fun _ _ _ h => h) (yi_skip rfl rfl (fr_at hF 7 rfl)) hS rfl (by decide) (fun a11 hA11 hF' => ?_)
        replace hF := hF'; clear hF'
        refine tk (i := 11) (d := 47) (v := .bool false) hF rfl rfl (by kernel_rfl) (by kernel_rfl) (by kernel_rfl) (fun _ _ _ h => h) (yi_go rfl (fun W hW => by have f38 := fr_at hF 8 rfl; have f46 := fr_at hF 0 rfl; go_simp)) hS rfl (by decide) (fun a12 hA12 hF' => ?_)
        replace hF := hF'; clear hF'
        refine tk (i := 12) (d := 48) (v := .bool false) hF rfl rfl (by kernel_rfl) (by kernel_rfl) (by kernel_rfl) (fun _ _ _ h => h) (yi_go rfl (fun W hW => ex_move W rfl (fr_at hF 0 rfl))) hS rfl (by decide) (fun a13 hA13 hF' => ?_)
        replace hF := hF'; clear hF'
        refine tk (i := 13) (d := 49) (v := .iface t p) hF rfl rfl (by kernel_rfl) (by kernel_rfl) (by kernel_rfl) (fun _ _ _ h => h) (yi_want rfl rfl (fr_at hF 0 rfl) (fun W hW => ex_move W rfl (fr_at hF 13 rfl))) hS rfl (by decide) (fun a14 hA14 hF' => ?_)
        replace hF := hF'; clear hF'
        refine tk (i := 14) (d := 50) (v := .slice (some ⟨BL, 0, none⟩) N N) hF rfl rfl (by kernel_rfl) (by kernel_rfl) (by kernel_rfl) (fun _ _ _ h => h) (yi_want rfl rfl (fr_at hF 1 rfl) (fun W hW => ex_move W rfl (fr_at hF 17 rfl))) hS rfl (by decide) (fun a15 hA15 hF' => ?_)
        replace hF := hF'; clear hF'
        refine tk (i := 15) (d := 51) (v := .slice A2 m c2) hF rfl rfl (by kernel_rfl) (by kernel_rfl) (by kernel_rfl) (fun _ _ _ h => h) (yi_want rfl rfl (fr_at hF 2 rfl) (fun W hW => ex_move W rfl (fr_at hF 17 rfl))) hS rfl (by decide) (fun a16 hA16 hF' => ?_)
        replace hF := hF'; clear hF'
        refine wpAnyH_ready (rs := [16]) (by kernel_rfl) (by simp) ?_
        refine AllReadyH.cons rfl (fun K hK => ?_) AllReadyH.nil
        rw [if_pos (by rw [guard_at rfl rfl (fr_at hF 3 rfl)]; rfl)]
        have f49 := fr_at hF 2 rfl
        have f50 := fr_at hF 1 rfl
        have f51 := fr_at hF 0 rfl
        go_simp
        clear f49 f50 f51
        go_at_call 17
        refine (HHO.out _ hS).mono ?_
        rintro e wa ⟨rfl, hb⟩
        go_wp2_with fail
        refine hK.out _ _ (on hS hb) (fun _ => ?_)
        replace hS := on hS hb
        clear hK K
        change wpAnyH _ _ _ _ _ _ _ (a16.put (some 52) (.bool false)) _
        have hF' := fr_put hF 52 (.bool false) rfl (by decide)
        generalize hA17 : Act.put a16 (some 52) (.bool false) = a17 at hF' ⊢
        replace hF := hF'; clear hF'
        refine tk (i := 17) (d := 53) (v := .bool true) hF rfl rfl (by kernel_rfl) (by kernel_rfl) (by kernel_rfl) (fun _ _ _ h => h) (yi_want rfl rfl (fr_at hF 4 rfl) (fun W hW => by have f52 := fr_at hF 0 rfl; go_simp)) hS rfl (by decide) (fun a18 hA18 hF' => ?_)
        replace hF := hF'; clear hF'
        refine tk (i := 18) (d := 54) (v := .bool true) hF rfl rfl (by kernel_rfl) (by kernel_rfl) (by kernel_rfl) (fun _ _ _ h => h) (yi_go rfl (fun W hW => by have f48 := fr_at hF 5 rfl; have f53 := fr_at hF 0 rfl; go_simp)) hS rfl (by decide) (fun a19 hA19 hF' => ?_)
        replace hF := hF'; clear hF'
        refine wpAnyH_done (by kernel_rfl) ?_ _
        rw [← hA19, ← hA18, ← hA17, ← hA16, ← hA15, ← hA14, ← hA13, ← hA12, ← hA11, ← hA10, ← hA9, ← hA8, ← hA7, ← hA6, ← hA5, ← hA4, ← hA3, ← hA2, ← hA1, ← hA0]
        simp only [Act.put, List.setIfInBounds_toArray, List.set_cons_zero, List.set_cons_succ]
        clear hF
        have HB7 := Lib.hid hS
        clear hS
        go_wp2_with fail
        go_ret3
        exact ⟨on HBE.out HB7.out, .inr ⟨HCKE.out, _, _, HIF.out, HST.out, HIG.out, HSG.out, .inl ⟨.inr HQ.out, rfl⟩⟩⟩
    · have HNZ := Lib.hid hN
      obtain ⟨hb, hhb⟩ : ∃ hb, S.has S.bot = hb := ⟨_, rfl⟩
      have HHB := Lib.hid hhb
      rw [hhb] at HCHAS
      clear hhb
      cases hb with
      | false =>
        have HN := Lib.hid (show 0 < N ∧ S.has S.bot = false from ⟨by omega, HHB.out⟩)
        clear HHO hN
        go_upto_region 7 with fail
        refine wp_region_held (S := fun W => Below wd.heap.size wd W) (by kernel_rfl) ?_
        generalize hA0 : Act.mk _ _ = a0
        have hF := Fr.nil (n := 57) (a := a0) (by rw [← hA0]; rfl)
        replace hF := Fr.cons hF 6 (.slice (some ⟨BL, 0, none⟩) N N) (by rw [← hA0]; rfl)
        replace hF := Fr.cons hF 2 (.slice A2 m c2) (by rw [← hA0]; rfl)
        replace hF := Fr.cons hF 1 (.int .i64 (N : Int)) (by rw [← hA0]; rfl)
        replace hF := Fr.cons hF 0 (.iface t p) (by rw [← hA0]; rfl)
        have hS : Below wd.heap.size wd (World.drew _) := (Below.refl _ wd).drew
        change wpAnyH _ _ _ _ _ _ _ _ (World.drew _)
        refine tk (i := 0) (d := 36) (v := .int .i64 (N : Int)) hF rfl rfl (by kernel_rfl) (by kernel_rfl) (by kernel_rfl) (fun _ _ _ h => h) (yi_go rfl (fun W hW => ex_move W rfl (fr_at hF 1 rfl))) hS rfl (by decide) (fun a1 hA1 hF' => ?_)
        replace hF := hF'; clear hF'
        refine tk (i := 1) (d := 37) (v := .bool true) hF rfl rfl (by kernel_rfl) (by kernel_rfl) (by kernel_rfl) (fun _ _ _ h => h) (yi_go rfl (fun W hW => by have f36 := fr_at hF 0 rfl; go_simp; have := HNZ.out; omega)) hS rfl (by decide) (fun a2 hA2 hF' => ?_)
        replace hF := hF'; clear hF'
        refine tk (i := 2) (d := 38) (v := .bool true) hF rfl rfl (by kernel_rfl) (by kernel_rfl) (by kernel_rfl) (fun _ _ _ h => h) (yi_go rfl (fun W hW => ex_move W rfl (fr_at hF 0 rfl))) hS rfl (by decide) (fun a3 hA3 hF' => ?_)
        replace hF := hF'; clear hF'
        refine tk (i := 3) (d := 39) (v := .iface t p) hF rfl rfl (by kernel_rfl) (by kernel_rfl) (by kernel_rfl) (fun _ _ _ h => h) (yi_want rfl rfl (fr_at hF 0 rfl) (fun W hW => ex_move W rfl (fr_at hF 3 rfl))) hS rfl (by decide) (fun a4 hA4 hF' => ?_)
        replace hF := hF'; clear hF'
        refine tk (i := 4) (d := 40) (v := .iface t p) hF rfl rfl (by kernel_rfl) (by kernel_rfl) (by kernel_rfl) (fun _ _ _ h => h) (yi_want rfl rfl (fr_at hF 1 rfl) (fun W hW => ex_move W rfl (fr_at hF 4 rfl))) hS rfl (by decide) (fun a5 hA5 hF' => ?_)
        replace hF := hF'; clear hF'
        refine tk (i := 6) (d := 42) (v := .func (.method "Has") #[.iface t p] #[]) hF rfl rfl (by kernel_rfl) (by kernel_rfl) (by kernel_rfl) (fun _ _ _ h => h) (yi_want rfl rfl (fr_at hF 2 rfl) (fun W hW => by have f39 := fr_at hF 1 rfl; go_simp)) hS rfl (by decide) (fun a6 hA6 hF' => ?_)
        replace hF := hF'; clear hF'
        refine tk (i := 7) (d := 43) (v := .func (.method "Has") #[.iface t p] #[]) hF rfl rfl (by kernel_rfl) (by kernel_rfl) (by kernel_rfl) (fun _ _ _ h => h) (yi_want rfl rfl (fr_at hF 3 rfl) (fun W hW => by have f42 := fr_at hF 0 rfl; go_simp)) hS rfl (by decide) (fun a7 hA7 hF' => ?_)
        replace hF := hF'; clear hF'
        refine tk (i := 8) (d := 44) (v := .iface t p) hF rfl rfl (by kernel_rfl) (by kernel_rfl) (by kernel_rfl) (fun _ _ _ h => h) (yi_want rfl rfl (fr_at hF 4 rfl) (fun W hW => ex_move W rfl (fr_at hF 3 rfl))) hS rfl (by decide) (fun a8 hA8 hF' => ?_)
        replace hF := hF'; clear hF'
        refine wpAnyH_ready (rs := [5]) (by kernel_rfl) (by simp) ?_
        refine AllReadyH.cons rfl (fun K hK => ?_) AllReadyH.nil
        rw [if_pos (by rw [guard_at rfl rfl (fr_at hF 5 rfl)]; rfl)]
        have f40 := fr_at hF 3 rfl
        go_simp
        clear f40
        refine (HCBOT.out _ hS).mono ?_
        rintro e wa ⟨rfl, hb⟩
        go_wp2_with fail
        refine hK.out _ _ (on hS hb) (fun _ => ?_)
        replace hS := on hS hb
        clear hK K
        change wpAnyH _ _ _ _ _ _ _ (a8.put (some 41) (.int .u64 ((S.bot : Nat) : Int))) _
        have hF' := fr_put hF 41 (.int .u64 ((S.bot : Nat) : Int)) rfl (by decide)
        generalize hA9 : Act.put a8 (some 41) (.int .u64 ((S.bot : Nat) : Int)) = a9 at hF' ⊢
        replace hF := hF'; clear hF'
        refine wpAnyH_ready (rs := [9]) (by kernel_rfl) (by simp) ?_
        refine AllReadyH.cons rfl (fun K hK => ?_) AllReadyH.nil
        rw [if_pos (by rw [guard_at rfl rfl (fr_at hF 6 rfl)]; rfl)]
        have f44 := fr_at hF 1 rfl
        have f41 := fr_at hF 0 rfl
        go_simp
        clear f44 f41
        refine (HCHAS.out _ hS).mono ?_
        rintro e wb ⟨rfl, hb⟩
        go_wp2_with fail
        refine hK.out _ _ (on hS hb) (fun _ => ?_)
        replace hS := on hS hb
        clear hK K
        change wpAnyH _ _ _ _ _ _ _ (a9.put (some 45) (.bool false)) _
        have hF' := fr_put hF 45 (.bool false) rfl (by decide)
        generalize hA10 : Act.put a9 (some 45) (.bool false) = a10 at hF' ⊢
        replace hF := hF'; clear hF'
        refine tk (i := 10) (d := 46) (v := .bool true) hF rfl rfl (by kernel_rfl) (by kernel_rfl) (by kernel_rfl) (fun _ _ _ h => h) (yi_want rfl rfl (fr_at hF 7 rfl) (fun W hW => by have f45 := fr_at hF 0 rfl; go_simp)) hS rfl (by decide) (fun a11 hA11 hF' => ?_)
        replace hF := hF'; clear hF'
        refine tk (i := 11) (d := 47) (v := .bool true) hF rfl rfl (by kernel_rfl) (by kernel_rfl) (by kernel_rfl) (fun _ _ _ h => h) (yi_go rfl (fun W hW => by have f38 := fr_at hF 8 rfl; have f46 := fr_at hF 0 rfl; go_simp)) hS rfl (by decide) (fun a12 hA12 hF' => ?_)
        replace hF := hF'; clear hF'
        refine tk (i := 12) (d := 48) (v := .bool true) hF rfl rfl (by kernel_rfl) (by kernel_rfl) (by kernel_rfl) (fun _ _ _ h => h) (yi_go rfl (fun W hW => ex_move W rfl (fr_at hF 0 rfl))) hS rfl (by decide) (fun a13 hA13 hF' => ?_)
        replace hF := hF'; clear hF'
        refine tk (i := 13) (d := 49) (v := undef) hF rfl rfl (by kernel_rfl) (by kernel_rfl) (by kernel_rfl) (fun _ _ _ h => h) (yi_skip rfl rfl (fr_at hF 0 rfl)) hS rfl (by decide) (fun a14 hA14 hF' => ?_)
        replace hF := hF'; clear hF'
        refine tk (i := 14) (d := 50) (v := undef) hF rfl rfl (by kernel_rfl) (by kernel_rfl) (by kernel_rfl) (fun _ _ _ h => h) (yi_skip rfl rfl (fr_at hF 1 rfl)) hS rfl (by decide) (fun a15 hA15 hF' => ?_)
        replace hF := hF'; clear hF'
        refine tk (i := 15) (d := 51) (v := undef) hF rfl rfl (by kernel_rfl) (by kernel_rfl) (by kernel_rfl) (fun _ _ _ h => h) (yi_skip rfl rfl (fr_at hF 2 rfl)) hS rfl (by decide) (fun a16 hA16 hF' => ?_)
        replace hF := hF'; clear hF'
        refine tk (i := 16) (d := 52) (v := undef) hF rfl rfl (by kernel_rfl) (by kernel_rfl) (by kernel_rfl) (fun _ _ _ h => h) (yi_skip rfl rfl (fr_at hF 3 rfl)) hS rfl (by decide) (fun a17 hA17 hF' => ?_)
        replace hF := hF'; clear hF'
        refine tk (i := 17) (d := 53) (v := undef) hF rfl rfl (by kernel_rfl) (by kernel_rfl) (by kernel_rfl) (fun _ _ _ h => h) (yi_skip rfl rfl (fr_at hF 4 rfl)) hS rfl (by decide) (fun a18 hA18 hF' => ?_)
        replace hF := hF'; clear hF'
        refine tk (i := 18) (d := 54) (v := .bool true) hF rfl rfl (by kernel_rfl) (by kernel_rfl) (by kernel_rfl) (fun _ _ _ h => h) (yi_go rfl (fun W hW => by have f48 := fr_at hF 5 rfl; have f53 := fr_at hF 0 rfl; go_simp)) hS rfl (by decide) (fun a19 hA19 hF' => ?_)
        replace hF := hF'; clear hF'
        refine wpAnyH_done (by kernel_rfl) ?_ _
        rw [← hA19, ← hA18, ← hA17, ← hA16, ← hA15, ← hA14, ← hA13, ← hA12, ← hA11, ← hA10, ← hA9, ← hA8, ← hA7, ← hA6, ← hA5, ← hA4, ← hA3, ← hA2, ← hA1, ← hA0]
        simp only [Act.put, List.setIfInBounds_toArray, List.set_cons_zero, List.set_cons_succ]
        clear hF
        have HB7 := Lib.hid hS
        clear hS
        go_wp2_with fail
        go_ret3
        exact ⟨on HBE.out HB7.out, .inr ⟨HCKE.out, _, _, HIF.out, HST.out, HIG.out, HSG.out, .inl ⟨.inl HN.out, rfl⟩⟩⟩
      | true =>
        have HN := Lib.hid (show 0 < N → S.has S.bot = true from fun _ => HHB.out)
        clear hN
        cases q with
        | true =>
          go_upto_region 7 with fail
          refine wp_region_held (S := fun W => Below wd.heap.size wd W) (by kernel_rfl) ?_
          generalize hA0 : Act.mk _ _ = a0
          have hF := Fr.nil (n := 57) (a := a0) (by rw [← hA0]; rfl)
          replace hF := Fr.cons hF 6 (.slice (some ⟨BL, 0, none⟩) N N) (by rw [← hA0]; rfl)
          replace hF := Fr.cons hF 2 (.slice A2 m c2) (by rw [← hA0]; rfl)
          replace hF := Fr.cons hF 1 (.int .i64 (N : Int)) (by rw [← hA0]; rfl)
          replace hF := Fr.cons hF 0 (.iface t p) (by rw [← hA0]; rfl)
          have hS : Below wd.heap.size wd (World.drew _) := (Below.refl _ wd).drew
          change wpAnyH _ _ _ _ _ _ _ _ (World.drew _)
          refine tk (i := 0) (d := 36) (v := .int .i64 (N : Int)) hF rfl rfl (by kernel_rfl) (by kernel_rfl) (by kernel_rfl) (fun _ _ _ h => h) (yi_go rfl (fun W hW => ex_move W rfl (fr_at hF 1 rfl))) hS rfl (by decide) (fun a1 hA1 hF' => ?_)
          replace hF := hF'; clear hF'
          refine tk (i := 1) (d := 37) (v := .bool true) hF rfl rfl (by kernel_rfl) (by kernel_rfl) (by kernel_rfl) (fun _ _ _ h => h) (yi_go rfl (fun W hW => by have f36 := fr_at hF 0 rfl; go_simp; have := HNZ.out; omega)) hS rfl (by decide) (fun a2 hA2 hF' => ?_)
          replace hF := hF'; clear hF'
          refine tk (i := 2) (d := 38) (v := .bool true) hF rfl rfl (by kernel_rfl) (by kernel_rfl) (by kernel_rfl) (fun _ _ _ h => h) (yi_go rfl (fun W hW => ex_move W rfl (fr_at hF 0 rfl))) hS rfl (by decide) (fun a3 hA3 hF' => ?_)
          replace hF := hF'; clear hF'
          refine tk (i := 3) (d := 39) (v := .iface t p) hF rfl rfl (by kernel_rfl) (by kernel_rfl) (by kernel_rfl) (fun _ _ _ h => h) (yi_want rfl rfl (fr_at hF 0 rfl) (fun W hW => ex_move W rfl (fr_at hF 3 rfl))) hS rfl (by decide) (fun a4 hA4 hF' => ?_)
          replace hF := hF'; clear hF'
          refine tk (i := 4) (d := 40) (v := .iface t p) hF rfl rfl (by kernel_rfl) (by kernel_rfl) (by kernel_rfl) (fun _ _ _ h => h) (yi_want rfl rfl (fr_at hF 1 rfl) (fun W hW => ex_move W rfl (fr_at hF 4 rfl))) hS rfl (by decide) (fun a5 hA5 hF' => ?_)
          replace hF := hF'; clear hF'
          refine tk (i := 6) (d := 42) (v := .func (.method "Has") #[.iface t p] #[]) hF rfl rfl (by kernel_rfl) (by kernel_rfl) (by kernel_rfl) (fun _ _ _ h => h) (yi_want rfl rfl (fr_at hF 2 rfl) (fun W hW => by have f39 := fr_at hF 1 rfl; go_simp)) hS rfl (by decide) (fun a6 hA6 hF' => ?_)
          replace hF := hF'; clear hF'
          refine tk (i := 7) (d := 43) (v := .func (.method "Has") #[.iface t p] #[]) hF rfl rfl (by kernel_rfl) (by kernel_rfl) (by kernel_rfl) (fun _ _ _ h => h) (yi_want rfl rfl (fr_at hF 3 rfl) (fun W hW => by have f42 := fr_at hF 0 rfl; go_simp)) hS rfl (by decide) (fun a7 hA7 hF' => ?_)
          replace hF := hF'; clear hF'
          refine tk (i := 8) (d := 44) (v := .iface t p) hF rfl rfl (by kernel_rfl) (by kernel_rfl) (by kernel_rfl) (fun _ _ _ h => h) (yi_want rfl rfl (fr_at hF 4 rfl) (fun W hW => ex_move W rfl (fr_at hF 3 rfl))) hS rfl (by decide) (fun a8 hA8 hF' => ?_)
          replace hF := hF'; clear hF'
          refine wpAnyH_ready (rs := [5]) (by kernel_rfl) (by simp) ?_
          refine AllReadyH.cons rfl (fun K hK => ?_) AllReadyH.nil
          rw [if_pos (by rw [guard_at rfl rfl (fr_at hF 5 rfl)]; rfl)]
          have f40 := fr_at hF 3 rfl
          go_simp
          clear f40
          refine (HCBOT.out _ hS).mono ?_
          rintro e wa ⟨rfl, hb⟩
          go_wp2_with fail
          refine hK.out _ _ (on hS hb) (fun _ => ?_)
          replace hS := on hS hb
          clear hK K
          change wpAnyH _ _ _ _ _ _ _ (a8.put (some 41) (.int .u64 ((S.bot : Nat) : Int))) _
          have hF' := fr_put hF 41 (.int .u64 ((S.bot : Nat) : Int)) rfl (by decide)
          generalize hA9 : Act.put a8 (some 41) (.int .u64 ((S.bot : Nat) : Int)) = a9 at hF' ⊢
          replace hF := hF'; clear hF'
          refine wpAnyH_ready (rs := [9]) (by kernel_rfl) (by simp) ?_
          refine AllReadyH.cons rfl (fun K hK => ?_) AllReadyH.nil
          rw [if_pos (by rw [guard_at rfl rfl (fr_at hF 6 rfl)]; rfl)]
          have f44 := fr_at hF 1 rfl
          have f41 := fr_at hF 0 rfl
          go_simp
          clear f44 f41
          refine (HCHAS.out _ hS).mono ?_
          rintro e wb ⟨rfl, hb⟩
          go_wp2_with fail
          refine hK.out _ _ (on hS hb) (fun _ => ?_)
          replace hS := on hS hb
          clear hK K
          change wpAnyH _ _ _ _ _ _ _ (a9.put (some 45) (.bool true)) _
          have hF' := fr_put hF 45 (.bool true) rfl (by decide)
          generalize hA10 : Act.put a9 (some 45) (.bool true) = a10 at hF' ⊢
          replace hF := hF'; clear hF'
          refine tk (i := 10) (d := 46) (v := .bool false) hF rfl rfl (by kernel_rfl) (by kernel_rfl) (by kernel_rfl) (fun _ _ _ h => h) (yi_want rfl rfl (fr_at hF 7 rfl) (fun W hW => by have f45 := fr_at hF 0 rfl; go_simp)) hS rfl (by decide) (fun a11 hA11 hF' => ?_)
          replace hF := hF'; clear hF'
          refine tk (i := 11) (d := 47) (v := .bool false) hF rfl rfl (by kernel_rfl) (by kernel_rfl) (by kernel_rfl) (fun _ _ _ h => h) (yi_go rfl (fun W hW => by have f38 := fr_at hF 8 rfl; have f46 := fr_at hF 0 rfl; go_simp)) hS rfl (by decide) (fun a12 hA12 hF' => ?_)
          replace hF := hF'; clear hF'
          refine tk (i := 12) (d := 48) (v := .bool false) hF rfl rfl (by kernel_rfl) (by kernel_rfl) (by kernel_rfl) (fun _ _ _ h => h) (yi_go rfl (fun W hW => ex_move W rfl (fr_at hF 0 rfl))) hS rfl (by decide) (fun a13 hA13 hF' => ?_)
          replace hF := hF'; clear hF'
          refine tk (i := 13) (d := 49) (v := .iface t p) hF rfl rfl (by kernel_rfl) (by kernel_rfl) (by kernel_rfl) (fun _ _ _ h => h) (yi_want rfl rfl (fr_at hF 0 rfl) (fun W hW => ex_move W rfl (fr_at hF 13 rfl))) hS rfl (by decide) (fun a14 hA14 hF' => ?_)
          replace hF := hF'; clear hF'
          refine tk (i := 14) (d := 50) (v := .slice (some ⟨BL, 0, none⟩) N N) hF rfl rfl (by kernel_rfl) (by kernel_rfl) (by kernel_rfl) (fun _ _ _ h => h) (yi_want rfl rfl (fr_at hF 1 rfl) (fun W hW => ex_move W rfl (fr_at hF 17 rfl))) hS rfl (by decide) (fun a15 hA15 hF' => ?_)
          replace hF := hF'; clear hF'
          refine tk (i := 15) (d := 51) (v := .slice A2 m c2) hF rfl rfl (by kernel_rfl) (by kernel_rfl) (by kernel_rfl) (fun _ _ _ h => h) (yi_want rfl rfl (fr_at hF 2 rfl) (fun W hW => ex_move W rfl (fr_at hF 17 rfl))) hS rfl (by decide) (fun a16 hA16 hF' => ?_)
          replace hF := hF'; clear hF'
          refine wpAnyH_ready (rs := [16]) (by kernel_rfl) (by simp) ?_
          refine AllReadyH.cons rfl (fun K hK => ?_) AllReadyH.nil
          rw [if_pos (by rw [guard_at rfl rfl (fr_at hF 3 rfl)]; rfl)]
          have f49 := fr_at hF 2 rfl
          have f50 := fr_at hF 1 rfl
          have f51 := fr_at hF 0 rfl
          go_simp
          clear f49 f50 f51
          go_at_call 17
          refine (HHO.out _ hS).mono ?_
          rintro e wc ⟨rfl, hb⟩
          go_wp2_with fail
          refine hK.out _ _ (on hS hb) (fun _ => ?_)
          replace hS := on hS hb
          clear hK K
          change wpAnyH _ _ _ _ _ _ _ (a16.put (some 52) (.bool true)) _
          have hF' := fr_put hF 52 (.bool true) rfl (by decide)
          generalize hA17 : Act.put a16 (some 52) (.bool true) = a17 at hF' ⊢
          replace hF := hF'; clear hF'
          refine tk (i := 17) (d := 53) (v := .bool false) hF rfl rfl (by kernel_rfl) (by kernel_rfl) (by kernel_rfl) (fun _ _ _ h => h) (yi_want rfl rfl (fr_at hF 4 rfl) (fun W hW => by have f52 := fr_at hF 0 rfl; go_simp)) hS rfl (by decide) (fun a18 hA18 hF' => ?_)
          replace hF := hF'; clear hF'
          refine tk (i := 18) (d := 54) (v := .bool false) hF rfl rfl (by kernel_rfl) (by kernel_rfl) (by kernel_rfl) (fun _ _ _ h => h) (yi_go rfl (fun W hW => by have f48 := fr_at hF 5 rfl; have f53 := fr_at hF 0 rfl; go_simp)) hS rfl (by decide) (fun a19 hA19 hF' => ?_)
          replace hF := hF'; clear hF'
          refine wpAnyH_done (by kernel_rfl) ?_ _
          rw [← hA19, ← hA18, ← hA17, ← hA16, ← hA15, ← hA14, ← hA13, ← hA12, ← hA11, ← hA10, ← hA9, ← hA8, ← hA7, ← hA6, ← hA5, ← hA4, ← hA3, ← hA2, ← hA1, ← hA0]
          simp only [Act.put, List.setIfInBounds_toArray, List.set_cons_zero, List.set_cons_succ]
          clear hF
          have HB7 := Lib.hid hS
          clear hS
          go_wp2_with fail
          go_ret3
          exact ⟨on HBE.out HB7.out, .inr ⟨HCKE.out, _, _, HIF.out, HST.out, HIG.out, HSG.out, .inr ⟨HN.out, HQ.out, BL, BH, rfl, hBL1, ⟨hBH1, hNE⟩, HRF.out.below HB7.out, HRG.out.below HB7.out⟩⟩⟩
        | false =>
          go_upto_region 7 with fail
          refine wp_region_held (S := fun W => Below wd.heap.size wd W) (by kernel_rfl) ?_
          generalize hA0 : Act.mk _ _ = a0
          have hF := Fr.nil (n := 57) (a := a0) (by rw [← hA0]; rfl)
          replace hF := Fr.cons hF 6 (.slice (some ⟨BL, 0, none⟩) N N) (by rw [← hA0]; rfl)
          replace hF := Fr.cons hF 2 (.slice A2 m c2) (by rw [← hA0]; rfl)
          replace hF := Fr.cons hF 1 (.int .i64 (N : Int)) (by rw [← hA0]; rfl)
          replace hF := Fr.cons hF 0 (.iface t p) (by rw [← hA0]; rfl)
          have hS : Below wd.heap.size wd (World.drew _) := (Below.refl _ wd).drew
          change wpAnyH _ _ _ _ _ _ _ _ (World.drew _)
          refine tk (i := 0) (d := 36) (v := .int .i64 (N : Int)) hF rfl rfl (by kernel_rfl) (by kernel_rfl) (by kernel_rfl) (fun _ _ _ h => h) (yi_go rfl (fun W hW => ex_move W rfl (fr_at hF 1 rfl))) hS rfl (by decide) (fun a1 hA1 hF' => ?_)
          replace hF := hF'; clear hF'
          refine tk (i := 1) (d := 37) (v := .bool true) hF rfl rfl (by kernel_rfl) (by kernel_rfl) (by kernel_rfl) (fun _ _ _ h => h) (yi_go rfl (fun W hW => by have f36 := fr_at hF 0 rfl; go_simp; have := HNZ.out; omega)) hS rfl (by decide) (fun a2 hA2 hF' => ?_)
          replace hF := hF'; clear hF'
          refine tk (i := 2) (d := 38) (v := .bool true) hF rfl rfl (by kernel_rfl) (by kernel_rfl) (by kernel_rfl) (fun _ _ _ h => h) (yi_go rfl (fun W hW => ex_move W rfl (fr_at hF 0 rfl))) hS rfl (by decide) (fun a3 hA3 hF' => ?_)
          replace hF := hF'; clear hF'
          refine tk (i := 3) (d := 39) (v := .iface t p) hF rfl rfl (by kernel_rfl) (by kernel_rfl) (by kernel_rfl) (fun _ _ _ h => h) (yi_want rfl rfl (fr_at hF 0 rfl) (fun W hW => ex_move W rfl (fr_at hF 3 rfl))) hS rfl (by decide) (fun a4 hA4 hF' => ?_)
          replace hF := hF'; clear hF'
          refine tk (i := 4) (d := 40) (v := .iface t p) hF rfl rfl (by kernel_rfl) (by kernel_rfl) (by kernel_rfl) (fun _ _ _ h => h) (yi_want rfl rfl (fr_at hF 1 rfl) (fun W hW => ex_move W rfl (fr_at hF 4 rfl))) hS rfl (by decide) (fun a5 hA5 hF' => ?_)
          replace hF := hF'; clear hF'
          refine tk (i := 6) (d := 42) (v := .func (.method "Has") #[.iface t p] #[]) hF rfl rfl (by kernel_rfl) (by kernel_rfl) (by kernel_rfl) (fun _ _ _ h => h) (yi_want rfl rfl (fr_at hF 2 rfl) (fun W hW => by have f39 := fr_at hF 1 rfl; go_simp)) hS rfl (by decide) (fun a6 hA6 hF' => ?_)
          replace hF := hF'; clear hF'
          refine tk (i := 7) (d := 43) (v := .func (.method "Has") #[.iface t p] #[]) hF rfl rfl (by kernel_rfl) (by kernel_rfl) (by kernel_rfl) (fun _ _ _ h => h) (yi_want rfl rfl (fr_at hF 3 rfl) (fun W hW => by have f42 := fr_at hF 0 rfl; go_simp)) hS rfl (by decide) (fun a7 hA7 hF' => ?_)
          replace hF := hF'; clear hF'
          refine tk (i := 8) (d := 44) (v := .iface t p) hF rfl rfl (by kernel_rfl) (by kernel_rfl) (by kernel_rfl) (fun _ _ _ h => h) (yi_want rfl rfl (fr_at hF 4 rfl) (fun W hW => ex_move W rfl (fr_at hF 3 rfl))) hS rfl (by decide) (fun a8 hA8 hF' => ?_)
          replace hF := hF'; clear hF'
          refine wpAnyH_ready (rs := [5]) (by kernel_rfl) (by simp) ?_
          refine AllReadyH.cons rfl (fun K hK => ?_) AllReadyH.nil
          rw [if_pos (by rw [guard_at rfl rfl (fr_at hF 5 rfl)]; rfl)]
          have f40 := fr_at hF 3 rfl
          go_simp
          clear f40
          refine (HCBOT.out _ hS).mono ?_
          rintro e wa ⟨rfl, hb⟩
          go_wp2_with fail
          refine hK.out _ _ (on hS hb) (fun _ => ?_)
          replace hS := on hS hb
          clear hK K
          change wpAnyH _ _ _ _ _ _ _ (a8.put (some 41) (.int .u64 ((S.bot : Nat) : Int))) _
          have hF' := fr_put hF 41 (.int .u64 ((S.bot : Nat) : Int)) rfl (by decide)
          generalize hA9 : Act.put a8 (some 41) (.int .u64 ((S.bot : Nat) : Int)) = a9 at hF' ⊢
          replace hF := hF'; clear hF'
          refine wpAnyH_ready (rs := [9]) (by kernel_rfl) (by simp) ?_
          refine AllReadyH.cons rfl (fun K hK => ?_) AllReadyH.nil
          rw [if_pos (by rw [guard_at rfl rfl (fr_at hF 6 rfl)]; rfl)]
          have f44 := fr_at hF 1 rfl
          have f41 := fr_at hF 0 rfl
          go_simp
          clear f44 f41
          refine (HCHAS.out _ hS).mono ?_
          rintro e wb ⟨rfl, hb⟩
          go_wp2_with fail
          refine hK.out _ _ (on hS hb) (fun _ => ?_)
          replace hS := on hS hb
          clear hK K
          change wpAnyH _ _ _ _ _ _ _ (a9.put (some 45) (.bool true)) _
          have hF' := fr_put hF 45 (.bool true) rfl (by decide)
          generalize hA10 : Act.put a9 (some 45) (.bool true) = a10 at hF' ⊢
          replace hF := hF'; clear hF'
          refine tk (i := 10) (d := 46) (v := .bool false) hF rfl rfl (by kernel_rfl) (by kernel_rfl) (by kernel_rfl) (fun _ _ _ h => h) (yi_want rfl rfl (fr_at hF 7 rfl) (fun W hW => by have f45 := fr_at hF 0 rfl; go_simp)) hS rfl (by decide) (fun a11 hA11 hF' => ?_)
          replace hF := hF'; clear hF'
          refine tk (i := 11) (d := 47) (v := .bool false) hF rfl rfl (by kernel_rfl) (by kernel_rfl) (by kernel_rfl) (fun _ _ _ h => h) (yi_go rfl (fun W hW => by have f38 := fr_at hF 8 rfl; have f46 := fr_at hF 0 rfl; go_simp)) hS rfl (by decide) (fun a12 hA12 hF' => ?_)
          replace hF := hF'; clear hF'
          refine tk (i := 12) (d := 48) (v := .bool false) hF rfl rfl (by kernel_rfl) (by kernel_rfl) (by kernel_rfl) (fun _ _ _ h => h) (yi_go rfl (fun W hW => ex_move W rfl (fr_at hF 0 rfl))) hS rfl (by decide) (fun a13 hA13 hF' => ?_)
          replace hF := hF'; clear hF'
          refine tk (i := 13) (d := 49) (v := .iface t p) hF rfl rfl (by kernel_rfl) (by kernel_rfl) (by kernel_rfl) (fun _ _ _ h => h) (yi_want rfl rfl (fr_at hF 0 rfl) (fun W hW => ex_move W rfl (fr_at hF 13 rfl))) hS rfl (by decide) (fun a14 hA14 hF' => ?_)
          replace hF := hF'; clear hF'
          refine tk (i := 14) (d := 50) (v := .slice (some ⟨BL, 0, none⟩) N N) hF rfl rfl (by kernel_rfl) (by kernel_rfl) (by kernel_rfl) (fun _ _ _ h => h) (yi_want rfl rfl (fr_at hF 1 rfl) (fun W hW => ex_move W rfl (fr_at hF 17 rfl))) hS rfl (by decide) (fun a15 hA15 hF' => ?_)
          replace hF := hF'; clear hF'
          refine tk (i := 15) (d := 51) (v := .slice A2 m c2) hF rfl rfl (by kernel_rfl) (by kernel_rfl) (by kernel_rfl) (fun _ _ _ h => h) (yi_want rfl rfl (fr_at hF 2 rfl) (fun W hW => ex_move W rfl (fr_at hF 17 rfl))) hS rfl (by decide) (fun a16 hA16 hF' => ?_)
          replace hF := hF'; clear hF'
          refine wpAnyH_ready (rs := [16]) (by kernel_rfl) (by simp) ?_
          refine AllReadyH.cons rfl (fun K hK => ?_) AllReadyH.nil
          rw [if_pos (by rw [guard_at rfl rfl (fr_at hF 3 rfl)]; rfl)]
          have f49 := fr_at hF 2 rfl
          have f50 := fr_at hF 1 rfl
          have f51 := fr_at hF 0 rfl
          go_simp
          clear f49 f50 f51
          go_at_call 17
          refine (HHO.out _ hS).mono ?_
          rintro e wc ⟨rfl, hb⟩
          go_wp2_with fail
          refine hK.out _ _ (on hS hb) (fun _ => ?_)
          replace hS := on hS hb
          clear hK K
          change wpAnyH _ _ _ _ _ _ _ (a16.put (some 52) (.bool false)) _
          have hF' := fr_put hF 52 (.bool false) rfl (by decide)
          generalize hA17 : Act.put a16 (some 52) (.bool false) = a17 at hF' ⊢
          replace hF := hF'; clear hF'
          refine tk (i := 17) (d := 53) (v := .bool true) hF rfl rfl (by kernel_rfl) (by kernel_rfl) (by kernel_rfl) (fun _ _ _ h => h) (yi_want rfl rfl (fr_at hF 4 rfl) (fun W hW => by have f52 := fr_at hF 0 rfl; go_simp)) hS rfl (by decide) (fun a18 hA18 hF' => ?_)
          replace hF := hF'; clear hF'
          refine tk (i := 18) (d := 54) (v := .bool true) hF rfl rfl (by kernel_rfl) (by kernel_rfl) (by kernel_rfl) (fun _ _ _ h => h) (yi_go rfl (fun W hW => by have f48 := fr_at hF 5 rfl; have f53 := fr_at hF 0 rfl; go_simp)) hS rfl (by decide) (fun a19 hA19 hF' => ?_)
          replace hF := hF'; clear hF'
          refine wpAnyH_done (by kernel_rfl) ?_ _
          rw [← hA19, ← hA18, ← hA17, ← hA16, ← hA15, ← hA14, ← hA13, ← hA12, ← hA11, ← hA10, ← hA9, ← hA8, ← hA7, ← hA6, ← hA5, ← hA4, ← hA3, ← hA2, ← hA1, ← hA0]
          simp only [Act.put, List.setIfInBounds_toArray, List.set_cons_zero, List.set_cons_succ]
          clear hF
          have HB7 := Lib.hid hS
          clear hS
          go_wp2_with fail
          go_ret3
          exact ⟨on HBE.out HB7.out, .inr ⟨HCKE.out, _, _, HIF.out, HST.out, HIG.out, HSG.out, .inl ⟨.inr HQ.out, rfl⟩⟩⟩
  · have hb : (((ck : Nat) : Int) != 0) = true := by simp; omega
    have HF := Lib.hid hck
    clear HWL HWH HIL HIH HCK HSC HCH HCB HCT
    go_wp2_with fail
    go_ret3
    exact ⟨HB1.out, .inl ⟨by rw [HCKE.out]; exact HF.out, by rw [HCKE.out]; rfl⟩⟩
end Go.Proofs.YtajilghlcfheiaaGreatDoor.Bnd
