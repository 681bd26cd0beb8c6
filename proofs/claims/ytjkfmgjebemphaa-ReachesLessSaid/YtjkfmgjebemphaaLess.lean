/- ReachesLess. -/
import Derived.Test.YtjkfmgjebemphaaAlive
import Derived.Test.YtjkfmgjebemphaaOpen2
import Derived.Test.YtjkfmgjebemphaaApp
import Derived.Test.YtjkfmgjebemphaaTake
import Derived.Deep.QuietTactic
import Derived.BigQuiet
namespace Go.Proofs.Ytjkfmgjebemphaa
open Go.RowKit
theorem IsM.cells2 {w : World} {O n i j : Nat} {M : Nat → Nat → Bool} (h : IsM w (some ⟨O, 0, none⟩) n M) (hi : i < n) (hj : j < n) : ∃ g, w.cell? ⟨O, i, none⟩ = some (.slice (some ⟨g, 0, none⟩) n n) ∧ w.cell? ⟨g, j, none⟩ = some (.bool (M i j)) := by
  obtain ⟨O', e, g, h1, h2⟩ := h i hi
  cases e
  exact ⟨g, h1, h2 j hj⟩
theorem below_drewN2 {B : Nat} {w W : World} (h : Below B w W) (n : Nat) : Below B w (W.drewN n) := ⟨h.os, h.tape, h.output, h.size, h.block⟩
set_option maxRecDepth 20000 in
set_option maxHeartbeats 4000000 in
theorem less_lim (a : Option Addr) (cap m : Nat) (L : List Bd) (b : Bd) (n : Int) (h : n < 0 ∨ 64 < n) (hm : m = L.length) (hm' : m ≤ 255) (hnil : a = none → cap = 0) (hb1n : b.an < 18446744073709551616) (hb2n : b.bn < 18446744073709551616) (w : World) (hL : Bds w a L) : Calls Try.prog 5 #[.int .i64 n, .slice a m cap, .agg #[.bool b.av, .int .u64 (b.an : Int), .bool b.bv, .int .u64 (b.bn : Int)]] w fun e w' => e = .returned (.bool true) ∧ Below w.heap.size w w' := by
  have hbox := heap_alloc_new w (.cells #[.bool b.av, .int .u64 (b.an : Int), .bool b.bv, .int .u64 (b.bn : Int)] 33)
  have c0 : (w.alloc (.cells #[.bool b.av, .int .u64 (b.an : Int), .bool b.bv, .int .u64 (b.bn : Int)] 33)).cell? ⟨w.heap.size, 0, none⟩ = some (.bool b.av) := by rw [cell_of_row _ _ _ _ _ _ hbox]; rfl
  have c1 : (w.alloc (.cells #[.bool b.av, .int .u64 (b.an : Int), .bool b.bv, .int .u64 (b.bn : Int)] 33)).cell? ⟨w.heap.size, 1, none⟩ = some (.int .u64 (b.an : Int)) := by rw [cell_of_row _ _ _ _ _ _ hbox]; rfl
  have c2 : (w.alloc (.cells #[.bool b.av, .int .u64 (b.an : Int), .bool b.bv, .int .u64 (b.bn : Int)] 33)).cell? ⟨w.heap.size, 2, none⟩ = some (.bool b.bv) := by rw [cell_of_row _ _ _ _ _ _ hbox]; rfl
  have c3 : (w.alloc (.cells #[.bool b.av, .int .u64 (b.an : Int), .bool b.bv, .int .u64 (b.bn : Int)] 33)).cell? ⟨w.heap.size, 3, none⟩ = some (.int .u64 (b.bn : Int)) := by rw [cell_of_row _ _ _ _ _ _ hbox]; rfl
  have hba : Below w.heap.size w (w.alloc (.cells #[.bool b.av, .int .u64 (b.an : Int), .bool b.bv, .int .u64 (b.bn : Int)] 33)) := (Below.refl _ w).alloc (Nat.le_refl _) _
  have HM := Lib.hid hm
  have d0 : decide (255 < (m : Int)) = false := by simp; omega
  clear hm hbox
  go_enter Try.func5, Try.ntmps5
  go_wp2_with fail
  have HC := Lib.hid (And.intro c0 (And.intro c1 (And.intro c2 c3)))
  have HBA := Lib.hid hba
  have HL0 := Lib.hid (hL.below hba)
  clear c0 c1 c2 c3 hba hL
  generalize w.alloc (.cells #[.bool b.av, .int .u64 (b.an : Int), .bool b.bv, .int .u64 (b.bn : Int)] 33) = wa at *
  have hle := HBA.out.size
  generalize hBB : w.heap.size = B at *
  refine (of_lim a cap m n (by omega) (by omega) wa).mono ?_
  rintro e w1 ⟨rfl, hb⟩
  have HL := Lib.hid (HL0.out.below hb)
  have HBW := Lib.hid (show Below B w w1 from HBA.out.trans (hb.mono hle))
  have HLE := Lib.hid (show B ≤ w1.heap.size from Nat.le_trans hle hb.size)
  clear hle
  obtain ⟨c0, c1, c2, c3⟩ := HC.out
  replace c0 := (hb.cell (p := ⟨B, 0, none⟩) (World.block_lt_of_cell? _ _ c0)).trans c0
  replace c1 := (hb.cell (p := ⟨B, 1, none⟩) (World.block_lt_of_cell? _ _ c1)).trans c1
  replace c2 := (hb.cell (p := ⟨B, 2, none⟩) (World.block_lt_of_cell? _ _ c2)).trans c2
  replace c3 := (hb.cell (p := ⟨B, 3, none⟩) (World.block_lt_of_cell? _ _ c3)).trans c3
  skip
  clear hb HL0 HC HBA
  go_wp2_with fail
  refine wp_region_held (S := fun W => Below w1.heap.size w1 W) (by kernel_rfl) ?_
  generalize hA0 : Act.mk _ _ = a0
  have hF := Fr.nil (n := 133) (a := a0) (by rw [← hA0]; rfl)
  replace hF := Fr.cons hF 5 (.pointer (some ⟨B, 0, none⟩)) (by rw [← hA0]; rfl)
  replace hF := Fr.cons hF 1 (.slice a m cap) (by rw [← hA0]; rfl)
  replace hF := Fr.cons hF 0 (.int .i64 n) (by rw [← hA0]; rfl)
  have hS : Below w1.heap.size w1 w1.drew := (Below.refl _ w1).drew
  change wpAnyH _ _ _ _ _ _ _ _ (World.drew _)
  refine tk (i := 0) (d := 25) (v := .int .i64 n) hF rfl rfl (by kernel_rfl) (by kernel_rfl) (by kernel_rfl) (fun _ _ _ h => h) (yi_go rfl (fun W hW => ex_move W rfl (fr_at hF 0 rfl))) hS rfl (by decide) (fun a1 hA1 hF' => ?_)
  replace hF := hF'; clear hF'
  refine tk (i := 1) (d := 26) (v := .slice a m cap) hF rfl rfl (by kernel_rfl) (by kernel_rfl) (by kernel_rfl) (fun _ _ _ h => h) (yi_go rfl (fun W hW => ex_move W rfl (fr_at hF 2 rfl))) hS rfl (by decide) (fun a2 hA2 hF' => ?_)
  replace hF := hF'; clear hF'
  refine tk (i := 3) (d := 28) (v := .agg #[.bool b.av, .int .u64 (b.an : Int), .bool b.bv, .int .u64 (b.bn : Int)]) hF rfl rfl (by kernel_rfl) (by kernel_rfl) (by kernel_rfl) (fun _ _ _ h => h) (yi_go rfl (fun W hW => by replace c0 := (hW.cell (p := ⟨B, 0, none⟩) (World.block_lt_of_cell? _ _ c0)).trans c0; replace c1 := (hW.cell (p := ⟨B, 1, none⟩) (World.block_lt_of_cell? _ _ c1)).trans c1; replace c2 := (hW.cell (p := ⟨B, 2, none⟩) (World.block_lt_of_cell? _ _ c2)).trans c2; replace c3 := (hW.cell (p := ⟨B, 3, none⟩) (World.block_lt_of_cell? _ _ c3)).trans c3; have f5 := fr_at hF 4 rfl; go_simp)) hS rfl (by decide) (fun a3 hA3 hF' => ?_)
  replace hF := hF'; clear hF'
  refine wpAnyH_ready (rs := [2, 4]) (by kernel_rfl) (by simp) ?_
  refine AllReadyH.cons rfl (fun K hK => ?orderA) (AllReadyH.cons rfl (fun K hK => ?orderB) AllReadyH.nil)
  case' orderA =>
    refine step_own rfl (.const (.slice none 0 0)) (.tmp 26) rfl rfl (Own.nil w1.heap.size _) a m cap (ev_tmp (fr_at hF 1 rfl)) HM.out (HL.out.below hS) (fun h => ⟨rfl, hnil h⟩) (by simp; have := HM.out; omega) hS.size ?_
    intro v1 w2 ho1 hg1
    rw [List.nil_append] at ho1
    have hb1 : Below w1.heap.size w1 w2 := hS.grown hg1 hS.size (fun k hk => by cases hk)
    refine hK.out _ _ hb1 (fun _ => ?_)
    clear hK K
    replace hS := hb1
    change wpAnyH _ _ _ _ _ _ _ (a3.put (some 27) (v1)) _
    have hF' := fr_put hF 27 (v1) rfl (by decide)
    generalize hA4 : Act.put a3 (some 27) (v1) = a4 at hF' ⊢
    replace hF := hF'; clear hF'
    refine wpAnyH_ready (rs := [4]) (by kernel_rfl) (by simp) ?_
    refine AllReadyH.cons rfl (fun K hK => ?_) AllReadyH.nil
    have f28 := fr_at hF 1 rfl
    go_simp
    clear f28
    have hbb : Below w2.heap.size w2 (w2.alloc (.cells #[.bool b.av, .int .u64 (b.an : Int), .bool b.bv, .int .u64 (b.bn : Int)] 33)) := ((Below.refl _ _).alloc (Nat.le_refl _) _)
    have hob : Bds (w2.alloc (.cells #[.bool b.av, .int .u64 (b.an : Int), .bool b.bv, .int .u64 (b.bn : Int)] 33)) (some ⟨w2.heap.size, 0, none⟩) [b] := Bds.below (bds_one w2 b hb1n hb2n) (Below.refl _ _)
    refine hK.out _ _ (hS.trans (hbb.mono hS.size)) (fun _ => ?_)
    clear hK K
    replace hS : Below w1.heap.size w1 _ := hS.trans (hbb.mono hS.size)
    generalize (w2.alloc (.cells #[.bool b.av, .int .u64 (b.an : Int), .bool b.bv, .int .u64 (b.bn : Int)] 33)) = w3 at *
    change wpAnyH _ _ _ _ _ _ _ (a4.put (some 29) (.slice (some ⟨w2.heap.size, 0, none⟩) 1 1)) _
    have hF' := fr_put hF 29 (.slice (some ⟨w2.heap.size, 0, none⟩) 1 1) rfl (by decide)
    generalize hA5 : Act.put a4 (some 29) (.slice (some ⟨w2.heap.size, 0, none⟩) 1 1) = a5 at hF' ⊢
    replace hF := hF'; clear hF'
    replace ho1 : Own w1.heap.size w3 v1 L := ho1.below hbb
    refine wpAnyH_ready (rs := [5]) (by kernel_rfl) (by simp) ?_
    refine AllReadyH.cons rfl (fun K hK => ?_) AllReadyH.nil
    refine step_own rfl (.tmp 27) (.tmp 29) rfl (ev_tmp (fr_at hF 1 rfl)) ho1 (some ⟨w2.heap.size, 0, none⟩) 1 1 (ev_tmp (fr_at hF 0 rfl)) rfl hob (fun h => by cases h) (by simp; have := HM.out; omega) hS.size ?_
    intro v2 w4 ho2 hg2
    have hb4 : Below w1.heap.size w1 w4 := hS.grown hg2 hS.size (fun k hk => (ho1.1.lt k hk).1)
    refine hK.out _ _ hb4 (fun _ => ?_)
    clear hK K
    replace hS := hb4
    obtain ⟨a2, cap2, rfl, hL2, _⟩ := ho2.bds
    have hm2 : (L ++ [b]).length = m + 1 := by rw [List.length_append]; have := HM.out; simp; omega
    rw [hm2]
    have HL2 := Lib.hid hL2
    have HO2 := Lib.hid ho2
    clear ho2 hL2 hg2 ho1 hob hb4
    change wpAnyH _ _ _ _ _ _ _ (a5.put (some 30) (.slice a2 (m + 1) cap2)) _
    have hF' := fr_put hF 30 (.slice a2 (m + 1) cap2) rfl (by decide)
    generalize hA6 : Act.put a5 (some 30) (.slice a2 (m + 1) cap2) = a6 at hF' ⊢
    replace hF := hF'; clear hF'
    refine wpAnyH_ready (rs := [6]) (by kernel_rfl) (by simp) ?_
    refine AllReadyH.cons rfl (fun K hK => ?_) AllReadyH.nil
    have f25 := fr_at hF 5 rfl
    have f30 := fr_at hF 0 rfl
    go_simp
    clear f25 f30
    go_at_call 6
    refine (of_lim a2 cap2 (m + 1) n (by omega) (by push_cast; omega) _).mono ?_
    rintro e w5 ⟨rfl, hb5⟩
    go_wp2_with fail
    refine hK.out _ _ (on hS hb5) (fun _ => ?_)
    replace hS := on hS hb5
    clear hK K
    change wpAnyH _ _ _ _ _ _ _ (a6.put (some 31) (.tuple #[.slice none 0 0, .int .i64 3])) _
    have hF' := fr_put hF 31 (.tuple #[.slice none 0 0, .int .i64 3]) rfl (by decide)
    generalize hA7 : Act.put a6 (some 31) (.tuple #[.slice none 0 0, .int .i64 3]) = a7 at hF' ⊢
    replace hF := hF'; clear hF'
    refine tk (i := 7) (d := 24) (v := .tuple #[.slice none 0 0, .int .i64 3]) hF rfl rfl (by kernel_rfl) (by kernel_rfl) (by kernel_rfl) (fun _ _ _ h => h) (yi_go rfl (fun W hW => ex_move W rfl (fr_at hF 0 rfl))) hS rfl (by decide) (fun a8 hA8 hF' => ?_)
    replace hF := hF'; clear hF'
    refine tk (i := 8) (d := 32) (v := .slice none 0 0) hF rfl rfl (by kernel_rfl) (by kernel_rfl) (by kernel_rfl) (fun _ _ _ h => h) (yi_go rfl (fun W hW => by have f24 := fr_at hF 0 rfl; go_simp)) hS rfl (by decide) (fun a9 hA9 hF' => ?_)
    replace hF := hF'; clear hF'
    refine tk (i := 9) (d := 33) (v := .int .i64 3) hF rfl rfl (by kernel_rfl) (by kernel_rfl) (by kernel_rfl) (fun _ _ _ h => h) (yi_go rfl (fun W hW => by have f24 := fr_at hF 1 rfl; go_simp)) hS rfl (by decide) (fun a10 hA10 hF' => ?_)
    replace hF := hF'; clear hF'
    refine tk (i := 10) (d := 9) (v := .slice none 0 0) hF rfl rfl (by kernel_rfl) (by kernel_rfl) (by kernel_rfl) (fun _ _ _ h => h) (yi_go rfl (fun W hW => ex_assign W rfl (fr_at hF 1 rfl))) hS rfl (by decide) (fun a11 hA11 hF' => ?_)
    replace hF := hF'; clear hF'
    refine tk (i := 11) (d := 10) (v := .int .i64 3) hF rfl rfl (by kernel_rfl) (by kernel_rfl) (by kernel_rfl) (fun _ _ _ h => h) (yi_go rfl (fun W hW => ex_assign W rfl (fr_at hF 1 rfl))) hS rfl (by decide) (fun a12 hA12 hF' => ?_)
    replace hF := hF'; clear hF'
    refine wpAnyH_done (by kernel_rfl) ?_ _
    rw [← hA12, ← hA11, ← hA10, ← hA9, ← hA8, ← hA7, ← hA6, ← hA5, ← hA4, ← hA3, ← hA2, ← hA1, ← hA0]
    simp only [Act.put, List.setIfInBounds_toArray, List.set_cons_zero, List.set_cons_succ]
    clear hF
  case' orderB =>
    have f28 := fr_at hF 0 rfl
    go_simp
    clear f28
    have hbb : Below w1.heap.size w1 (w1.alloc (.cells #[.bool b.av, .int .u64 (b.an : Int), .bool b.bv, .int .u64 (b.bn : Int)] 33)).drew := Below.drew ((Below.refl _ _).alloc (Nat.le_refl _) _)
    have hob : Bds (w1.alloc (.cells #[.bool b.av, .int .u64 (b.an : Int), .bool b.bv, .int .u64 (b.bn : Int)] 33)).drew (some ⟨w1.heap.size, 0, none⟩) [b] := Bds.below (bds_one w1 b hb1n hb2n) (Below.drew (Below.refl _ _))
    refine hK.out _ _ (hbb) (fun _ => ?_)
    clear hK K
    replace hS : Below w1.heap.size w1 _ := hbb
    generalize (w1.alloc (.cells #[.bool b.av, .int .u64 (b.an : Int), .bool b.bv, .int .u64 (b.bn : Int)] 33)).drew = w2 at *
    change wpAnyH _ _ _ _ _ _ _ (a3.put (some 29) (.slice (some ⟨w1.heap.size, 0, none⟩) 1 1)) _
    have hF' := fr_put hF 29 (.slice (some ⟨w1.heap.size, 0, none⟩) 1 1) rfl (by decide)
    generalize hA4 : Act.put a3 (some 29) (.slice (some ⟨w1.heap.size, 0, none⟩) 1 1) = a4 at hF' ⊢
    replace hF := hF'; clear hF'
    refine wpAnyH_ready (rs := [2]) (by kernel_rfl) (by simp) ?_
    refine AllReadyH.cons rfl (fun K hK => ?_) AllReadyH.nil
    refine step_own rfl (.const (.slice none 0 0)) (.tmp 26) rfl rfl (Own.nil w1.heap.size _) a m cap (ev_tmp (fr_at hF 2 rfl)) HM.out (HL.out.below hS) (fun h => ⟨rfl, hnil h⟩) (by simp; have := HM.out; omega) hS.size ?_
    intro v1 w3 ho1 hg1
    rw [List.nil_append] at ho1
    have hb1 : Below w1.heap.size w1 w3 := hS.grown hg1 hS.size (fun k hk => by cases hk)
    refine hK.out _ _ hb1 (fun _ => ?_)
    clear hK K
    replace hS := hb1
    change wpAnyH _ _ _ _ _ _ _ (a4.put (some 27) (v1)) _
    have hF' := fr_put hF 27 (v1) rfl (by decide)
    generalize hA5 : Act.put a4 (some 27) (v1) = a5 at hF' ⊢
    replace hF := hF'; clear hF'
    replace hob := hob.below ((Below.refl _ w2).grown hg1 (Nat.le_refl _) (fun k hk => by cases hk))
    refine wpAnyH_ready (rs := [5]) (by kernel_rfl) (by simp) ?_
    refine AllReadyH.cons rfl (fun K hK => ?_) AllReadyH.nil
    refine step_own rfl (.tmp 27) (.tmp 29) rfl (ev_tmp (fr_at hF 0 rfl)) ho1 (some ⟨w1.heap.size, 0, none⟩) 1 1 (ev_tmp (fr_at hF 1 rfl)) rfl hob (fun h => by cases h) (by simp; have := HM.out; omega) hS.size ?_
    intro v2 w4 ho2 hg2
    have hb4 : Below w1.heap.size w1 w4 := hS.grown hg2 hS.size (fun k hk => (ho1.1.lt k hk).1)
    refine hK.out _ _ hb4 (fun _ => ?_)
    clear hK K
    replace hS := hb4
    obtain ⟨a2, cap2, rfl, hL2, _⟩ := ho2.bds
    have hm2 : (L ++ [b]).length = m + 1 := by rw [List.length_append]; have := HM.out; simp; omega
    rw [hm2]
    have HL2 := Lib.hid hL2
    have HO2 := Lib.hid ho2
    clear ho2 hL2 hg2 ho1 hob hb4
    change wpAnyH _ _ _ _ _ _ _ (a5.put (some 30) (.slice a2 (m + 1) cap2)) _
    have hF' := fr_put hF 30 (.slice a2 (m + 1) cap2) rfl (by decide)
    generalize hA6 : Act.put a5 (some 30) (.slice a2 (m + 1) cap2) = a6 at hF' ⊢
    replace hF := hF'; clear hF'
    refine wpAnyH_ready (rs := [6]) (by kernel_rfl) (by simp) ?_
    refine AllReadyH.cons rfl (fun K hK => ?_) AllReadyH.nil
    have f25 := fr_at hF 5 rfl
    have f30 := fr_at hF 0 rfl
    go_simp
    clear f25 f30
    go_at_call 6
    refine (of_lim a2 cap2 (m + 1) n (by omega) (by push_cast; omega) _).mono ?_
    rintro e w5 ⟨rfl, hb5⟩
    go_wp2_with fail
    refine hK.out _ _ (on hS hb5) (fun _ => ?_)
    replace hS := on hS hb5
    clear hK K
    change wpAnyH _ _ _ _ _ _ _ (a6.put (some 31) (.tuple #[.slice none 0 0, .int .i64 3])) _
    have hF' := fr_put hF 31 (.tuple #[.slice none 0 0, .int .i64 3]) rfl (by decide)
    generalize hA7 : Act.put a6 (some 31) (.tuple #[.slice none 0 0, .int .i64 3]) = a7 at hF' ⊢
    replace hF := hF'; clear hF'
    refine tk (i := 7) (d := 24) (v := .tuple #[.slice none 0 0, .int .i64 3]) hF rfl rfl (by kernel_rfl) (by kernel_rfl) (by kernel_rfl) (fun _ _ _ h => h) (yi_go rfl (fun W hW => ex_move W rfl (fr_at hF 0 rfl))) hS rfl (by decide) (fun a8 hA8 hF' => ?_)
    replace hF := hF'; clear hF'
    refine tk (i := 8) (d := 32) (v := .slice none 0 0) hF rfl rfl (by kernel_rfl) (by kernel_rfl) (by kernel_rfl) (fun _ _ _ h => h) (yi_go rfl (fun W hW => by have f24 := fr_at hF 0 rfl; go_simp)) hS rfl (by decide) (fun a9 hA9 hF' => ?_)
    replace hF := hF'; clear hF'
    refine tk (i := 9) (d := 33) (v := .int .i64 3) hF rfl rfl (by kernel_rfl) (by kernel_rfl) (by kernel_rfl) (fun _ _ _ h => h) (yi_go rfl (fun W hW => by have f24 := fr_at hF 1 rfl; go_simp)) hS rfl (by decide) (fun a10 hA10 hF' => ?_)
    replace hF := hF'; clear hF'
    refine tk (i := 10) (d := 9) (v := .slice none 0 0) hF rfl rfl (by kernel_rfl) (by kernel_rfl) (by kernel_rfl) (fun _ _ _ h => h) (yi_go rfl (fun W hW => ex_assign W rfl (fr_at hF 1 rfl))) hS rfl (by decide) (fun a11 hA11 hF' => ?_)
    replace hF := hF'; clear hF'
    refine tk (i := 11) (d := 10) (v := .int .i64 3) hF rfl rfl (by kernel_rfl) (by kernel_rfl) (by kernel_rfl) (fun _ _ _ h => h) (yi_go rfl (fun W hW => ex_assign W rfl (fr_at hF 1 rfl))) hS rfl (by decide) (fun a12 hA12 hF' => ?_)
    replace hF := hF'; clear hF'
    refine wpAnyH_done (by kernel_rfl) ?_ _
    rw [← hA12, ← hA11, ← hA10, ← hA9, ← hA8, ← hA7, ← hA6, ← hA5, ← hA4, ← hA3, ← hA2, ← hA1, ← hA0]
    simp only [Act.put, List.setIfInBounds_toArray, List.set_cons_zero, List.set_cons_succ]
    clear hF
  all_goals
    have HS := Lib.hid (HBW.out.trans (hS.mono HLE.out))
    clear hS c0 c1 c2 c3
    go_wp2_with fail
    refine (alive_any _).mono ?_
    rintro e w6 ⟨rfl, hb6⟩
    have HB6 := Lib.hid (HS.out.trans (hb6.mono (by have := HS.out.size; have := HLE.out; omega)))
    clear hb6 HS
    go_wp2
    go_ret
    exact ⟨rfl, by rw [hBB]; exact HB6.out⟩
set_option maxRecDepth 20000 in
set_option maxHeartbeats 4000000 in
theorem less_bad (a : Option Addr) (cap m : Nat) (L : List Bd) (b : Bd) (n : Nat) (hn : n ≤ 64) (ho : L.all (·.ok n) = false) (hm : m = L.length) (hm' : m ≤ 255) (hnil : a = none → cap = 0) (hb1n : b.an < 18446744073709551616) (hb2n : b.bn < 18446744073709551616) (w : World) (hL : Bds w a L) : Calls Try.prog 5 #[.int .i64 (n : Int), .slice a m cap, .agg #[.bool b.av, .int .u64 (b.an : Int), .bool b.bv, .int .u64 (b.bn : Int)]] w fun e w' => e = .returned (.bool true) ∧ Below w.heap.size w w' := by
  have hbox := heap_alloc_new w (.cells #[.bool b.av, .int .u64 (b.an : Int), .bool b.bv, .int .u64 (b.bn : Int)] 33)
  have c0 : (w.alloc (.cells #[.bool b.av, .int .u64 (b.an : Int), .bool b.bv, .int .u64 (b.bn : Int)] 33)).cell? ⟨w.heap.size, 0, none⟩ = some (.bool b.av) := by rw [cell_of_row _ _ _ _ _ _ hbox]; rfl
  have c1 : (w.alloc (.cells #[.bool b.av, .int .u64 (b.an : Int), .bool b.bv, .int .u64 (b.bn : Int)] 33)).cell? ⟨w.heap.size, 1, none⟩ = some (.int .u64 (b.an : Int)) := by rw [cell_of_row _ _ _ _ _ _ hbox]; rfl
  have c2 : (w.alloc (.cells #[.bool b.av, .int .u64 (b.an : Int), .bool b.bv, .int .u64 (b.bn : Int)] 33)).cell? ⟨w.heap.size, 2, none⟩ = some (.bool b.bv) := by rw [cell_of_row _ _ _ _ _ _ hbox]; rfl
  have c3 : (w.alloc (.cells #[.bool b.av, .int .u64 (b.an : Int), .bool b.bv, .int .u64 (b.bn : Int)] 33)).cell? ⟨w.heap.size, 3, none⟩ = some (.int .u64 (b.bn : Int)) := by rw [cell_of_row _ _ _ _ _ _ hbox]; rfl
  have hba : Below w.heap.size w (w.alloc (.cells #[.bool b.av, .int .u64 (b.an : Int), .bool b.bv, .int .u64 (b.bn : Int)] 33)) := (Below.refl _ w).alloc (Nat.le_refl _) _
  have HM := Lib.hid hm
  have d0 : decide (255 < (m : Int)) = false := by simp; omega
  clear hm hbox
  go_enter Try.func5, Try.ntmps5
  go_wp2_with fail
  have HC := Lib.hid (And.intro c0 (And.intro c1 (And.intro c2 c3)))
  have HBA := Lib.hid hba
  have HL0 := Lib.hid (hL.below hba)
  clear c0 c1 c2 c3 hba hL
  generalize w.alloc (.cells #[.bool b.av, .int .u64 (b.an : Int), .bool b.bv, .int .u64 (b.bn : Int)] 33) = wa at *
  have hle := HBA.out.size
  generalize hBB : w.heap.size = B at *
  refine (of_bad a cap L n m hn HM.out (by omega) ho wa HL0.out).mono ?_
  rintro e w1 ⟨hb, rfl⟩
  have HL := Lib.hid (HL0.out.below hb)
  have HBW := Lib.hid (show Below B w w1 from HBA.out.trans (hb.mono hle))
  have HLE := Lib.hid (show B ≤ w1.heap.size from Nat.le_trans hle hb.size)
  clear hle
  obtain ⟨c0, c1, c2, c3⟩ := HC.out
  replace c0 := (hb.cell (p := ⟨B, 0, none⟩) (World.block_lt_of_cell? _ _ c0)).trans c0
  replace c1 := (hb.cell (p := ⟨B, 1, none⟩) (World.block_lt_of_cell? _ _ c1)).trans c1
  replace c2 := (hb.cell (p := ⟨B, 2, none⟩) (World.block_lt_of_cell? _ _ c2)).trans c2
  replace c3 := (hb.cell (p := ⟨B, 3, none⟩) (World.block_lt_of_cell? _ _ c3)).trans c3
  skip
  clear hb HL0 HC HBA
  go_wp2_with fail
  refine wp_region_held (S := fun W => Below w1.heap.size w1 W) (by kernel_rfl) ?_
  generalize hA0 : Act.mk _ _ = a0
  have hF := Fr.nil (n := 133) (a := a0) (by rw [← hA0]; rfl)
  replace hF := Fr.cons hF 5 (.pointer (some ⟨B, 0, none⟩)) (by rw [← hA0]; rfl)
  replace hF := Fr.cons hF 1 (.slice a m cap) (by rw [← hA0]; rfl)
  replace hF := Fr.cons hF 0 (.int .i64 n) (by rw [← hA0]; rfl)
  have hS : Below w1.heap.size w1 w1.drew := (Below.refl _ w1).drew
  change wpAnyH _ _ _ _ _ _ _ _ (World.drew _)
  refine tk (i := 0) (d := 25) (v := .int .i64 n) hF rfl rfl (by kernel_rfl) (by kernel_rfl) (by kernel_rfl) (fun _ _ _ h => h) (yi_go rfl (fun W hW => ex_move W rfl (fr_at hF 0 rfl))) hS rfl (by decide) (fun a1 hA1 hF' => ?_)
  replace hF := hF'; clear hF'
  refine tk (i := 1) (d := 26) (v := .slice a m cap) hF rfl rfl (by kernel_rfl) (by kernel_rfl) (by kernel_rfl) (fun _ _ _ h => h) (yi_go rfl (fun W hW => ex_move W rfl (fr_at hF 2 rfl))) hS rfl (by decide) (fun a2 hA2 hF' => ?_)
  replace hF := hF'; clear hF'
  refine tk (i := 3) (d := 28) (v := .agg #[.bool b.av, .int .u64 (b.an : Int), .bool b.bv, .int .u64 (b.bn : Int)]) hF rfl rfl (by kernel_rfl) (by kernel_rfl) (by kernel_rfl) (fun _ _ _ h => h) (yi_go rfl (fun W hW => by replace c0 := (hW.cell (p := ⟨B, 0, none⟩) (World.block_lt_of_cell? _ _ c0)).trans c0; replace c1 := (hW.cell (p := ⟨B, 1, none⟩) (World.block_lt_of_cell? _ _ c1)).trans c1; replace c2 := (hW.cell (p := ⟨B, 2, none⟩) (World.block_lt_of_cell? _ _ c2)).trans c2; replace c3 := (hW.cell (p := ⟨B, 3, none⟩) (World.block_lt_of_cell? _ _ c3)).trans c3; have f5 := fr_at hF 4 rfl; go_simp)) hS rfl (by decide) (fun a3 hA3 hF' => ?_)
  replace hF := hF'; clear hF'
  refine wpAnyH_ready (rs := [2, 4]) (by kernel_rfl) (by simp) ?_
  refine AllReadyH.cons rfl (fun K hK => ?orderA) (AllReadyH.cons rfl (fun K hK => ?orderB) AllReadyH.nil)
  case' orderA =>
    refine step_own rfl (.const (.slice none 0 0)) (.tmp 26) rfl rfl (Own.nil w1.heap.size _) a m cap (ev_tmp (fr_at hF 1 rfl)) HM.out (HL.out.below hS) (fun h => ⟨rfl, hnil h⟩) (by simp; have := HM.out; omega) hS.size ?_
    intro v1 w2 ho1 hg1
    rw [List.nil_append] at ho1
    have hb1 : Below w1.heap.size w1 w2 := hS.grown hg1 hS.size (fun k hk => by cases hk)
    refine hK.out _ _ hb1 (fun _ => ?_)
    clear hK K
    replace hS := hb1
    change wpAnyH _ _ _ _ _ _ _ (a3.put (some 27) (v1)) _
    have hF' := fr_put hF 27 (v1) rfl (by decide)
    generalize hA4 : Act.put a3 (some 27) (v1) = a4 at hF' ⊢
    replace hF := hF'; clear hF'
    refine wpAnyH_ready (rs := [4]) (by kernel_rfl) (by simp) ?_
    refine AllReadyH.cons rfl (fun K hK => ?_) AllReadyH.nil
    have f28 := fr_at hF 1 rfl
    go_simp
    clear f28
    have hbb : Below w2.heap.size w2 (w2.alloc (.cells #[.bool b.av, .int .u64 (b.an : Int), .bool b.bv, .int .u64 (b.bn : Int)] 33)) := ((Below.refl _ _).alloc (Nat.le_refl _) _)
    have hob : Bds (w2.alloc (.cells #[.bool b.av, .int .u64 (b.an : Int), .bool b.bv, .int .u64 (b.bn : Int)] 33)) (some ⟨w2.heap.size, 0, none⟩) [b] := Bds.below (bds_one w2 b hb1n hb2n) (Below.refl _ _)
    refine hK.out _ _ (hS.trans (hbb.mono hS.size)) (fun _ => ?_)
    clear hK K
    replace hS : Below w1.heap.size w1 _ := hS.trans (hbb.mono hS.size)
    generalize (w2.alloc (.cells #[.bool b.av, .int .u64 (b.an : Int), .bool b.bv, .int .u64 (b.bn : Int)] 33)) = w3 at *
    change wpAnyH _ _ _ _ _ _ _ (a4.put (some 29) (.slice (some ⟨w2.heap.size, 0, none⟩) 1 1)) _
    have hF' := fr_put hF 29 (.slice (some ⟨w2.heap.size, 0, none⟩) 1 1) rfl (by decide)
    generalize hA5 : Act.put a4 (some 29) (.slice (some ⟨w2.heap.size, 0, none⟩) 1 1) = a5 at hF' ⊢
    replace hF := hF'; clear hF'
    replace ho1 : Own w1.heap.size w3 v1 L := ho1.below hbb
    refine wpAnyH_ready (rs := [5]) (by kernel_rfl) (by simp) ?_
    refine AllReadyH.cons rfl (fun K hK => ?_) AllReadyH.nil
    refine step_own rfl (.tmp 27) (.tmp 29) rfl (ev_tmp (fr_at hF 1 rfl)) ho1 (some ⟨w2.heap.size, 0, none⟩) 1 1 (ev_tmp (fr_at hF 0 rfl)) rfl hob (fun h => by cases h) (by simp; have := HM.out; omega) hS.size ?_
    intro v2 w4 ho2 hg2
    have hb4 : Below w1.heap.size w1 w4 := hS.grown hg2 hS.size (fun k hk => (ho1.1.lt k hk).1)
    refine hK.out _ _ hb4 (fun _ => ?_)
    clear hK K
    replace hS := hb4
    obtain ⟨a2, cap2, rfl, hL2, _⟩ := ho2.bds
    have hm2 : (L ++ [b]).length = m + 1 := by rw [List.length_append]; have := HM.out; simp; omega
    rw [hm2]
    have HL2 := Lib.hid hL2
    have HO2 := Lib.hid ho2
    clear ho2 hL2 hg2 ho1 hob hb4
    change wpAnyH _ _ _ _ _ _ _ (a5.put (some 30) (.slice a2 (m + 1) cap2)) _
    have hF' := fr_put hF 30 (.slice a2 (m + 1) cap2) rfl (by decide)
    generalize hA6 : Act.put a5 (some 30) (.slice a2 (m + 1) cap2) = a6 at hF' ⊢
    replace hF := hF'; clear hF'
    refine wpAnyH_ready (rs := [6]) (by kernel_rfl) (by simp) ?_
    refine AllReadyH.cons rfl (fun K hK => ?_) AllReadyH.nil
    have f25 := fr_at hF 5 rfl
    have f30 := fr_at hF 0 rfl
    go_simp
    clear f25 f30
    go_at_call 6
    refine (of_bad a2 cap2 (L ++ [b]) n (m + 1) hn (by rw [hm2]) (by omega) (by rw [List.all_append, ho]; rfl) _ HL2.out).mono ?_
    rintro e w5 ⟨hb5, rfl⟩
    go_wp2_with fail
    refine hK.out _ _ (on hS hb5) (fun _ => ?_)
    replace hS := on hS hb5
    clear hK K
    change wpAnyH _ _ _ _ _ _ _ (a6.put (some 31) (.tuple #[.slice none 0 0, .int .i64 1])) _
    have hF' := fr_put hF 31 (.tuple #[.slice none 0 0, .int .i64 1]) rfl (by decide)
    generalize hA7 : Act.put a6 (some 31) (.tuple #[.slice none 0 0, .int .i64 1]) = a7 at hF' ⊢
    replace hF := hF'; clear hF'
    refine tk (i := 7) (d := 24) (v := .tuple #[.slice none 0 0, .int .i64 1]) hF rfl rfl (by kernel_rfl) (by kernel_rfl) (by kernel_rfl) (fun _ _ _ h => h) (yi_go rfl (fun W hW => ex_move W rfl (fr_at hF 0 rfl))) hS rfl (by decide) (fun a8 hA8 hF' => ?_)
    replace hF := hF'; clear hF'
    refine tk (i := 8) (d := 32) (v := .slice none 0 0) hF rfl rfl (by kernel_rfl) (by kernel_rfl) (by kernel_rfl) (fun _ _ _ h => h) (yi_go rfl (fun W hW => by have f24 := fr_at hF 0 rfl; go_simp)) hS rfl (by decide) (fun a9 hA9 hF' => ?_)
    replace hF := hF'; clear hF'
    refine tk (i := 9) (d := 33) (v := .int .i64 1) hF rfl rfl (by kernel_rfl) (by kernel_rfl) (by kernel_rfl) (fun _ _ _ h => h) (yi_go rfl (fun W hW => by have f24 := fr_at hF 1 rfl; go_simp)) hS rfl (by decide) (fun a10 hA10 hF' => ?_)
    replace hF := hF'; clear hF'
    refine tk (i := 10) (d := 9) (v := .slice none 0 0) hF rfl rfl (by kernel_rfl) (by kernel_rfl) (by kernel_rfl) (fun _ _ _ h => h) (yi_go rfl (fun W hW => ex_assign W rfl (fr_at hF 1 rfl))) hS rfl (by decide) (fun a11 hA11 hF' => ?_)
    replace hF := hF'; clear hF'
    refine tk (i := 11) (d := 10) (v := .int .i64 1) hF rfl rfl (by kernel_rfl) (by kernel_rfl) (by kernel_rfl) (fun _ _ _ h => h) (yi_go rfl (fun W hW => ex_assign W rfl (fr_at hF 1 rfl))) hS rfl (by decide) (fun a12 hA12 hF' => ?_)
    replace hF := hF'; clear hF'
    refine wpAnyH_done (by kernel_rfl) ?_ _
    rw [← hA12, ← hA11, ← hA10, ← hA9, ← hA8, ← hA7, ← hA6, ← hA5, ← hA4, ← hA3, ← hA2, ← hA1, ← hA0]
    simp only [Act.put, List.setIfInBounds_toArray, List.set_cons_zero, List.set_cons_succ]
    clear hF
  case' orderB =>
    have f28 := fr_at hF 0 rfl
    go_simp
    clear f28
    have hbb : Below w1.heap.size w1 (w1.alloc (.cells #[.bool b.av, .int .u64 (b.an : Int), .bool b.bv, .int .u64 (b.bn : Int)] 33)).drew := Below.drew ((Below.refl _ _).alloc (Nat.le_refl _) _)
    have hob : Bds (w1.alloc (.cells #[.bool b.av, .int .u64 (b.an : Int), .bool b.bv, .int .u64 (b.bn : Int)] 33)).drew (some ⟨w1.heap.size, 0, none⟩) [b] := Bds.below (bds_one w1 b hb1n hb2n) (Below.drew (Below.refl _ _))
    refine hK.out _ _ (hbb) (fun _ => ?_)
    clear hK K
    replace hS : Below w1.heap.size w1 _ := hbb
    generalize (w1.alloc (.cells #[.bool b.av, .int .u64 (b.an : Int), .bool b.bv, .int .u64 (b.bn : Int)] 33)).drew = w2 at *
    change wpAnyH _ _ _ _ _ _ _ (a3.put (some 29) (.slice (some ⟨w1.heap.size, 0, none⟩) 1 1)) _
    have hF' := fr_put hF 29 (.slice (some ⟨w1.heap.size, 0, none⟩) 1 1) rfl (by decide)
    generalize hA4 : Act.put a3 (some 29) (.slice (some ⟨w1.heap.size, 0, none⟩) 1 1) = a4 at hF' ⊢
    replace hF := hF'; clear hF'
    refine wpAnyH_ready (rs := [2]) (by kernel_rfl) (by simp) ?_
    refine AllReadyH.cons rfl (fun K hK => ?_) AllReadyH.nil
    refine step_own rfl (.const (.slice none 0 0)) (.tmp 26) rfl rfl (Own.nil w1.heap.size _) a m cap (ev_tmp (fr_at hF 2 rfl)) HM.out (HL.out.below hS) (fun h => ⟨rfl, hnil h⟩) (by simp; have := HM.out; omega) hS.size ?_
    intro v1 w3 ho1 hg1
    rw [List.nil_append] at ho1
    have hb1 : Below w1.heap.size w1 w3 := hS.grown hg1 hS.size (fun k hk => by cases hk)
    refine hK.out _ _ hb1 (fun _ => ?_)
    clear hK K
    replace hS := hb1
    change wpAnyH _ _ _ _ _ _ _ (a4.put (some 27) (v1)) _
    have hF' := fr_put hF 27 (v1) rfl (by decide)
    generalize hA5 : Act.put a4 (some 27) (v1) = a5 at hF' ⊢
    replace hF := hF'; clear hF'
    replace hob := hob.below ((Below.refl _ w2).grown hg1 (Nat.le_refl _) (fun k hk => by cases hk))
    refine wpAnyH_ready (rs := [5]) (by kernel_rfl) (by simp) ?_
    refine AllReadyH.cons rfl (fun K hK => ?_) AllReadyH.nil
    refine step_own rfl (.tmp 27) (.tmp 29) rfl (ev_tmp (fr_at hF 0 rfl)) ho1 (some ⟨w1.heap.size, 0, none⟩) 1 1 (ev_tmp (fr_at hF 1 rfl)) rfl hob (fun h => by cases h) (by simp; have := HM.out; omega) hS.size ?_
    intro v2 w4 ho2 hg2
    have hb4 : Below w1.heap.size w1 w4 := hS.grown hg2 hS.size (fun k hk => (ho1.1.lt k hk).1)
    refine hK.out _ _ hb4 (fun _ => ?_)
    clear hK K
    replace hS := hb4
    obtain ⟨a2, cap2, rfl, hL2, _⟩ := ho2.bds
    have hm2 : (L ++ [b]).length = m + 1 := by rw [List.length_append]; have := HM.out; simp; omega
    rw [hm2]
    have HL2 := Lib.hid hL2
    have HO2 := Lib.hid ho2
    clear ho2 hL2 hg2 ho1 hob hb4
    change wpAnyH _ _ _ _ _ _ _ (a5.put (some 30) (.slice a2 (m + 1) cap2)) _
    have hF' := fr_put hF 30 (.slice a2 (m + 1) cap2) rfl (by decide)
    generalize hA6 : Act.put a5 (some 30) (.slice a2 (m + 1) cap2) = a6 at hF' ⊢
    replace hF := hF'; clear hF'
    refine wpAnyH_ready (rs := [6]) (by kernel_rfl) (by simp) ?_
    refine AllReadyH.cons rfl (fun K hK => ?_) AllReadyH.nil
    have f25 := fr_at hF 5 rfl
    have f30 := fr_at hF 0 rfl
    go_simp
    clear f25 f30
    go_at_call 6
    refine (of_bad a2 cap2 (L ++ [b]) n (m + 1) hn (by rw [hm2]) (by omega) (by rw [List.all_append, ho]; rfl) _ HL2.out).mono ?_
    rintro e w5 ⟨hb5, rfl⟩
    go_wp2_with fail
    refine hK.out _ _ (on hS hb5) (fun _ => ?_)
    replace hS := on hS hb5
    clear hK K
    change wpAnyH _ _ _ _ _ _ _ (a6.put (some 31) (.tuple #[.slice none 0 0, .int .i64 1])) _
    have hF' := fr_put hF 31 (.tuple #[.slice none 0 0, .int .i64 1]) rfl (by decide)
    generalize hA7 : Act.put a6 (some 31) (.tuple #[.slice none 0 0, .int .i64 1]) = a7 at hF' ⊢
    replace hF := hF'; clear hF'
    refine tk (i := 7) (d := 24) (v := .tuple #[.slice none 0 0, .int .i64 1]) hF rfl rfl (by kernel_rfl) (by kernel_rfl) (by kernel_rfl) (fun _ _ _ h => h) (yi_go rfl (fun W hW => ex_move W rfl (fr_at hF 0 rfl))) hS rfl (by decide) (fun a8 hA8 hF' => ?_)
    replace hF := hF'; clear hF'
    refine tk (i := 8) (d := 32) (v := .slice none 0 0) hF rfl rfl (by kernel_rfl) (by kernel_rfl) (by kernel_rfl) (fun _ _ _ h => h) (yi_go rfl (fun W hW => by have f24 := fr_at hF 0 rfl; go_simp)) hS rfl (by decide) (fun a9 hA9 hF' => ?_)
    replace hF := hF'; clear hF'
    refine tk (i := 9) (d := 33) (v := .int .i64 1) hF rfl rfl (by kernel_rfl) (by kernel_rfl) (by kernel_rfl) (fun _ _ _ h => h) (yi_go rfl (fun W hW => by have f24 := fr_at hF 1 rfl; go_simp)) hS rfl (by decide) (fun a10 hA10 hF' => ?_)
    replace hF := hF'; clear hF'
    refine tk (i := 10) (d := 9) (v := .slice none 0 0) hF rfl rfl (by kernel_rfl) (by kernel_rfl) (by kernel_rfl) (fun _ _ _ h => h) (yi_go rfl (fun W hW => ex_assign W rfl (fr_at hF 1 rfl))) hS rfl (by decide) (fun a11 hA11 hF' => ?_)
    replace hF := hF'; clear hF'
    refine tk (i := 11) (d := 10) (v := .int .i64 1) hF rfl rfl (by kernel_rfl) (by kernel_rfl) (by kernel_rfl) (fun _ _ _ h => h) (yi_go rfl (fun W hW => ex_assign W rfl (fr_at hF 1 rfl))) hS rfl (by decide) (fun a12 hA12 hF' => ?_)
    replace hF := hF'; clear hF'
    refine wpAnyH_done (by kernel_rfl) ?_ _
    rw [← hA12, ← hA11, ← hA10, ← hA9, ← hA8, ← hA7, ← hA6, ← hA5, ← hA4, ← hA3, ← hA2, ← hA1, ← hA0]
    simp only [Act.put, List.setIfInBounds_toArray, List.set_cons_zero, List.set_cons_succ]
    clear hF
  all_goals
    have HS := Lib.hid (HBW.out.trans (hS.mono HLE.out))
    clear hS c0 c1 c2 c3
    go_wp2_with fail
    refine (alive_any _).mono ?_
    rintro e w6 ⟨rfl, hb6⟩
    have HB6 := Lib.hid (HS.out.trans (hb6.mono (by have := HS.out.size; have := HLE.out; omega)))
    clear hb6 HS
    go_wp2
    go_ret
    exact ⟨rfl, by rw [hBB]; exact HB6.out⟩
set_option maxRecDepth 20000 in
set_option maxHeartbeats 4000000 in
theorem less_mix (a : Option Addr) (cap m : Nat) (L : List Bd) (b : Bd) (n : Nat) (hn : n ≤ 64) (ho : L.all (·.ok n) = true) (hob0 : b.ok n = false) (hm : m = L.length) (hm' : m ≤ 255) (hnil : a = none → cap = 0) (hb1n : b.an < 18446744073709551616) (hb2n : b.bn < 18446744073709551616) (w : World) (hL : Bds w a L) : Calls Try.prog 5 #[.int .i64 (n : Int), .slice a m cap, .agg #[.bool b.av, .int .u64 (b.an : Int), .bool b.bv, .int .u64 (b.bn : Int)]] w fun e w' => e = .returned (.bool true) ∧ Below w.heap.size w w' := by
  have hbox := heap_alloc_new w (.cells #[.bool b.av, .int .u64 (b.an : Int), .bool b.bv, .int .u64 (b.bn : Int)] 33)
  have c0 : (w.alloc (.cells #[.bool b.av, .int .u64 (b.an : Int), .bool b.bv, .int .u64 (b.bn : Int)] 33)).cell? ⟨w.heap.size, 0, none⟩ = some (.bool b.av) := by rw [cell_of_row _ _ _ _ _ _ hbox]; rfl
  have c1 : (w.alloc (.cells #[.bool b.av, .int .u64 (b.an : Int), .bool b.bv, .int .u64 (b.bn : Int)] 33)).cell? ⟨w.heap.size, 1, none⟩ = some (.int .u64 (b.an : Int)) := by rw [cell_of_row _ _ _ _ _ _ hbox]; rfl
  have c2 : (w.alloc (.cells #[.bool b.av, .int .u64 (b.an : Int), .bool b.bv, .int .u64 (b.bn : Int)] 33)).cell? ⟨w.heap.size, 2, none⟩ = some (.bool b.bv) := by rw [cell_of_row _ _ _ _ _ _ hbox]; rfl
  have c3 : (w.alloc (.cells #[.bool b.av, .int .u64 (b.an : Int), .bool b.bv, .int .u64 (b.bn : Int)] 33)).cell? ⟨w.heap.size, 3, none⟩ = some (.int .u64 (b.bn : Int)) := by rw [cell_of_row _ _ _ _ _ _ hbox]; rfl
  have hba : Below w.heap.size w (w.alloc (.cells #[.bool b.av, .int .u64 (b.an : Int), .bool b.bv, .int .u64 (b.bn : Int)] 33)) := (Below.refl _ w).alloc (Nat.le_refl _) _
  have HM := Lib.hid hm
  have d0 : decide (255 < (m : Int)) = false := by simp; omega
  clear hm hbox
  go_enter Try.func5, Try.ntmps5
  go_wp2_with fail
  have HC := Lib.hid (And.intro c0 (And.intro c1 (And.intro c2 c3)))
  have HBA := Lib.hid hba
  have HL0 := Lib.hid (hL.below hba)
  clear c0 c1 c2 c3 hba hL
  generalize w.alloc (.cells #[.bool b.av, .int .u64 (b.an : Int), .bool b.bv, .int .u64 (b.bn : Int)] 33) = wa at *
  have hle := HBA.out.size
  generalize hBB : w.heap.size = B at *
  refine (of_ok a cap L n m hn HM.out (by omega) ho wa HL0.out).mono ?_
  rintro e w1 ⟨hb, ax, rfl, hx⟩
  have HL := Lib.hid (HL0.out.below hb)
  have HBW := Lib.hid (show Below B w w1 from HBA.out.trans (hb.mono hle))
  have HLE := Lib.hid (show B ≤ w1.heap.size from Nat.le_trans hle hb.size)
  clear hle
  obtain ⟨c0, c1, c2, c3⟩ := HC.out
  replace c0 := (hb.cell (p := ⟨B, 0, none⟩) (World.block_lt_of_cell? _ _ c0)).trans c0
  replace c1 := (hb.cell (p := ⟨B, 1, none⟩) (World.block_lt_of_cell? _ _ c1)).trans c1
  replace c2 := (hb.cell (p := ⟨B, 2, none⟩) (World.block_lt_of_cell? _ _ c2)).trans c2
  replace c3 := (hb.cell (p := ⟨B, 3, none⟩) (World.block_lt_of_cell? _ _ c3)).trans c3
  have HX1 := Lib.hid hx
  clear hb HL0 HC HBA
  go_wp2_with fail
  refine wp_region_held (S := fun W => Below w1.heap.size w1 W) (by kernel_rfl) ?_
  generalize hA0 : Act.mk _ _ = a0
  have hF := Fr.nil (n := 133) (a := a0) (by rw [← hA0]; rfl)
  replace hF := Fr.cons hF 5 (.pointer (some ⟨B, 0, none⟩)) (by rw [← hA0]; rfl)
  replace hF := Fr.cons hF 1 (.slice a m cap) (by rw [← hA0]; rfl)
  replace hF := Fr.cons hF 0 (.int .i64 n) (by rw [← hA0]; rfl)
  have hS : Below w1.heap.size w1 w1.drew := (Below.refl _ w1).drew
  change wpAnyH _ _ _ _ _ _ _ _ (World.drew _)
  refine tk (i := 0) (d := 25) (v := .int .i64 n) hF rfl rfl (by kernel_rfl) (by kernel_rfl) (by kernel_rfl) (fun _ _ _ h => h) (yi_go rfl (fun W hW => ex_move W rfl (fr_at hF 0 rfl))) hS rfl (by decide) (fun a1 hA1 hF' => ?_)
  replace hF := hF'; clear hF'
  refine tk (i := 1) (d := 26) (v := .slice a m cap) hF rfl rfl (by kernel_rfl) (by kernel_rfl) (by kernel_rfl) (fun _ _ _ h => h) (yi_go rfl (fun W hW => ex_move W rfl (fr_at hF 2 rfl))) hS rfl (by decide) (fun a2 hA2 hF' => ?_)
  replace hF := hF'; clear hF'
  refine tk (i := 3) (d := 28) (v := .agg #[.bool b.av, .int .u64 (b.an : Int), .bool b.bv, .int .u64 (b.bn : Int)]) hF rfl rfl (by kernel_rfl) (by kernel_rfl) (by kernel_rfl) (fun _ _ _ h => h) (yi_go rfl (fun W hW => by replace c0 := (hW.cell (p := ⟨B, 0, none⟩) (World.block_lt_of_cell? _ _ c0)).trans c0; replace c1 := (hW.cell (p := ⟨B, 1, none⟩) (World.block_lt_of_cell? _ _ c1)).trans c1; replace c2 := (hW.cell (p := ⟨B, 2, none⟩) (World.block_lt_of_cell? _ _ c2)).trans c2; replace c3 := (hW.cell (p := ⟨B, 3, none⟩) (World.block_lt_of_cell? _ _ c3)).trans c3; have f5 := fr_at hF 4 rfl; go_simp)) hS rfl (by decide) (fun a3 hA3 hF' => ?_)
  replace hF := hF'; clear hF'
  refine wpAnyH_ready (rs := [2, 4]) (by kernel_rfl) (by simp) ?_
  refine AllReadyH.cons rfl (fun K hK => ?orderA) (AllReadyH.cons rfl (fun K hK => ?orderB) AllReadyH.nil)
  case' orderA =>
    refine step_own rfl (.const (.slice none 0 0)) (.tmp 26) rfl rfl (Own.nil w1.heap.size _) a m cap (ev_tmp (fr_at hF 1 rfl)) HM.out (HL.out.below hS) (fun h => ⟨rfl, hnil h⟩) (by simp; have := HM.out; omega) hS.size ?_
    intro v1 w2 ho1 hg1
    rw [List.nil_append] at ho1
    have hb1 : Below w1.heap.size w1 w2 := hS.grown hg1 hS.size (fun k hk => by cases hk)
    refine hK.out _ _ hb1 (fun _ => ?_)
    clear hK K
    replace hS := hb1
    change wpAnyH _ _ _ _ _ _ _ (a3.put (some 27) (v1)) _
    have hF' := fr_put hF 27 (v1) rfl (by decide)
    generalize hA4 : Act.put a3 (some 27) (v1) = a4 at hF' ⊢
    replace hF := hF'; clear hF'
    refine wpAnyH_ready (rs := [4]) (by kernel_rfl) (by simp) ?_
    refine AllReadyH.cons rfl (fun K hK => ?_) AllReadyH.nil
    have f28 := fr_at hF 1 rfl
    go_simp
    clear f28
    have hbb : Below w2.heap.size w2 (w2.alloc (.cells #[.bool b.av, .int .u64 (b.an : Int), .bool b.bv, .int .u64 (b.bn : Int)] 33)) := ((Below.refl _ _).alloc (Nat.le_refl _) _)
    have hob : Bds (w2.alloc (.cells #[.bool b.av, .int .u64 (b.an : Int), .bool b.bv, .int .u64 (b.bn : Int)] 33)) (some ⟨w2.heap.size, 0, none⟩) [b] := Bds.below (bds_one w2 b hb1n hb2n) (Below.refl _ _)
    refine hK.out _ _ (hS.trans (hbb.mono hS.size)) (fun _ => ?_)
    clear hK K
    replace hS : Below w1.heap.size w1 _ := hS.trans (hbb.mono hS.size)
    generalize (w2.alloc (.cells #[.bool b.av, .int .u64 (b.an : Int), .bool b.bv, .int .u64 (b.bn : Int)] 33)) = w3 at *
    change wpAnyH _ _ _ _ _ _ _ (a4.put (some 29) (.slice (some ⟨w2.heap.size, 0, none⟩) 1 1)) _
    have hF' := fr_put hF 29 (.slice (some ⟨w2.heap.size, 0, none⟩) 1 1) rfl (by decide)
    generalize hA5 : Act.put a4 (some 29) (.slice (some ⟨w2.heap.size, 0, none⟩) 1 1) = a5 at hF' ⊢
    replace hF := hF'; clear hF'
    replace ho1 : Own w1.heap.size w3 v1 L := ho1.below hbb
    refine wpAnyH_ready (rs := [5]) (by kernel_rfl) (by simp) ?_
    refine AllReadyH.cons rfl (fun K hK => ?_) AllReadyH.nil
    refine step_own rfl (.tmp 27) (.tmp 29) rfl (ev_tmp (fr_at hF 1 rfl)) ho1 (some ⟨w2.heap.size, 0, none⟩) 1 1 (ev_tmp (fr_at hF 0 rfl)) rfl hob (fun h => by cases h) (by simp; have := HM.out; omega) hS.size ?_
    intro v2 w4 ho2 hg2
    have hb4 : Below w1.heap.size w1 w4 := hS.grown hg2 hS.size (fun k hk => (ho1.1.lt k hk).1)
    refine hK.out _ _ hb4 (fun _ => ?_)
    clear hK K
    replace hS := hb4
    obtain ⟨a2, cap2, rfl, hL2, _⟩ := ho2.bds
    have hm2 : (L ++ [b]).length = m + 1 := by rw [List.length_append]; have := HM.out; simp; omega
    rw [hm2]
    have HL2 := Lib.hid hL2
    have HO2 := Lib.hid ho2
    clear ho2 hL2 hg2 ho1 hob hb4
    change wpAnyH _ _ _ _ _ _ _ (a5.put (some 30) (.slice a2 (m + 1) cap2)) _
    have hF' := fr_put hF 30 (.slice a2 (m + 1) cap2) rfl (by decide)
    generalize hA6 : Act.put a5 (some 30) (.slice a2 (m + 1) cap2) = a6 at hF' ⊢
    replace hF := hF'; clear hF'
    refine wpAnyH_ready (rs := [6]) (by kernel_rfl) (by simp) ?_
    refine AllReadyH.cons rfl (fun K hK => ?_) AllReadyH.nil
    have f25 := fr_at hF 5 rfl
    have f30 := fr_at hF 0 rfl
    go_simp
    clear f25 f30
    go_at_call 6
    refine (of_bad a2 cap2 (L ++ [b]) n (m + 1) hn (by rw [hm2]) (by omega) (by rw [List.all_append, ho, List.all_cons, hob0]; rfl) _ HL2.out).mono ?_
    rintro e w5 ⟨hb5, rfl⟩
    go_wp2_with fail
    refine hK.out _ _ (on hS hb5) (fun _ => ?_)
    replace hS := on hS hb5
    clear hK K
    change wpAnyH _ _ _ _ _ _ _ (a6.put (some 31) (.tuple #[.slice none 0 0, .int .i64 1])) _
    have hF' := fr_put hF 31 (.tuple #[.slice none 0 0, .int .i64 1]) rfl (by decide)
    generalize hA7 : Act.put a6 (some 31) (.tuple #[.slice none 0 0, .int .i64 1]) = a7 at hF' ⊢
    replace hF := hF'; clear hF'
    refine tk (i := 7) (d := 24) (v := .tuple #[.slice none 0 0, .int .i64 1]) hF rfl rfl (by kernel_rfl) (by kernel_rfl) (by kernel_rfl) (fun _ _ _ h => h) (yi_go rfl (fun W hW => ex_move W rfl (fr_at hF 0 rfl))) hS rfl (by decide) (fun a8 hA8 hF' => ?_)
    replace hF := hF'; clear hF'
    refine tk (i := 8) (d := 32) (v := .slice none 0 0) hF rfl rfl (by kernel_rfl) (by kernel_rfl) (by kernel_rfl) (fun _ _ _ h => h) (yi_go rfl (fun W hW => by have f24 := fr_at hF 0 rfl; go_simp)) hS rfl (by decide) (fun a9 hA9 hF' => ?_)
    replace hF := hF'; clear hF'
    refine tk (i := 9) (d := 33) (v := .int .i64 1) hF rfl rfl (by kernel_rfl) (by kernel_rfl) (by kernel_rfl) (fun _ _ _ h => h) (yi_go rfl (fun W hW => by have f24 := fr_at hF 1 rfl; go_simp)) hS rfl (by decide) (fun a10 hA10 hF' => ?_)
    replace hF := hF'; clear hF'
    refine tk (i := 10) (d := 9) (v := .slice none 0 0) hF rfl rfl (by kernel_rfl) (by kernel_rfl) (by kernel_rfl) (fun _ _ _ h => h) (yi_go rfl (fun W hW => ex_assign W rfl (fr_at hF 1 rfl))) hS rfl (by decide) (fun a11 hA11 hF' => ?_)
    replace hF := hF'; clear hF'
    refine tk (i := 11) (d := 10) (v := .int .i64 1) hF rfl rfl (by kernel_rfl) (by kernel_rfl) (by kernel_rfl) (fun _ _ _ h => h) (yi_go rfl (fun W hW => ex_assign W rfl (fr_at hF 1 rfl))) hS rfl (by decide) (fun a12 hA12 hF' => ?_)
    replace hF := hF'; clear hF'
    refine wpAnyH_done (by kernel_rfl) ?_ _
    rw [← hA12, ← hA11, ← hA10, ← hA9, ← hA8, ← hA7, ← hA6, ← hA5, ← hA4, ← hA3, ← hA2, ← hA1, ← hA0]
    simp only [Act.put, List.setIfInBounds_toArray, List.set_cons_zero, List.set_cons_succ]
    clear hF
  case' orderB =>
    have f28 := fr_at hF 0 rfl
    go_simp
    clear f28
    have hbb : Below w1.heap.size w1 (w1.alloc (.cells #[.bool b.av, .int .u64 (b.an : Int), .bool b.bv, .int .u64 (b.bn : Int)] 33)).drew := Below.drew ((Below.refl _ _).alloc (Nat.le_refl _) _)
    have hob : Bds (w1.alloc (.cells #[.bool b.av, .int .u64 (b.an : Int), .bool b.bv, .int .u64 (b.bn : Int)] 33)).drew (some ⟨w1.heap.size, 0, none⟩) [b] := Bds.below (bds_one w1 b hb1n hb2n) (Below.drew (Below.refl _ _))
    refine hK.out _ _ (hbb) (fun _ => ?_)
    clear hK K
    replace hS : Below w1.heap.size w1 _ := hbb
    generalize (w1.alloc (.cells #[.bool b.av, .int .u64 (b.an : Int), .bool b.bv, .int .u64 (b.bn : Int)] 33)).drew = w2 at *
    change wpAnyH _ _ _ _ _ _ _ (a3.put (some 29) (.slice (some ⟨w1.heap.size, 0, none⟩) 1 1)) _
    have hF' := fr_put hF 29 (.slice (some ⟨w1.heap.size, 0, none⟩) 1 1) rfl (by decide)
    generalize hA4 : Act.put a3 (some 29) (.slice (some ⟨w1.heap.size, 0, none⟩) 1 1) = a4 at hF' ⊢
    replace hF := hF'; clear hF'
    refine wpAnyH_ready (rs := [2]) (by kernel_rfl) (by simp) ?_
    refine AllReadyH.cons rfl (fun K hK => ?_) AllReadyH.nil
    refine step_own rfl (.const (.slice none 0 0)) (.tmp 26) rfl rfl (Own.nil w1.heap.size _) a m cap (ev_tmp (fr_at hF 2 rfl)) HM.out (HL.out.below hS) (fun h => ⟨rfl, hnil h⟩) (by simp; have := HM.out; omega) hS.size ?_
    intro v1 w3 ho1 hg1
    rw [List.nil_append] at ho1
    have hb1 : Below w1.heap.size w1 w3 := hS.grown hg1 hS.size (fun k hk => by cases hk)
    refine hK.out _ _ hb1 (fun _ => ?_)
    clear hK K
    replace hS := hb1
    change wpAnyH _ _ _ _ _ _ _ (a4.put (some 27) (v1)) _
    have hF' := fr_put hF 27 (v1) rfl (by decide)
    generalize hA5 : Act.put a4 (some 27) (v1) = a5 at hF' ⊢
    replace hF := hF'; clear hF'
    replace hob := hob.below ((Below.refl _ w2).grown hg1 (Nat.le_refl _) (fun k hk => by cases hk))
    refine wpAnyH_ready (rs := [5]) (by kernel_rfl) (by simp) ?_
    refine AllReadyH.cons rfl (fun K hK => ?_) AllReadyH.nil
    refine step_own rfl (.tmp 27) (.tmp 29) rfl (ev_tmp (fr_at hF 0 rfl)) ho1 (some ⟨w1.heap.size, 0, none⟩) 1 1 (ev_tmp (fr_at hF 1 rfl)) rfl hob (fun h => by cases h) (by simp; have := HM.out; omega) hS.size ?_
    intro v2 w4 ho2 hg2
    have hb4 : Below w1.heap.size w1 w4 := hS.grown hg2 hS.size (fun k hk => (ho1.1.lt k hk).1)
    refine hK.out _ _ hb4 (fun _ => ?_)
    clear hK K
    replace hS := hb4
    obtain ⟨a2, cap2, rfl, hL2, _⟩ := ho2.bds
    have hm2 : (L ++ [b]).length = m + 1 := by rw [List.length_append]; have := HM.out; simp; omega
    rw [hm2]
    have HL2 := Lib.hid hL2
    have HO2 := Lib.hid ho2
    clear ho2 hL2 hg2 ho1 hob hb4
    change wpAnyH _ _ _ _ _ _ _ (a5.put (some 30) (.slice a2 (m + 1) cap2)) _
    have hF' := fr_put hF 30 (.slice a2 (m + 1) cap2) rfl (by decide)
    generalize hA6 : Act.put a5 (some 30) (.slice a2 (m + 1) cap2) = a6 at hF' ⊢
    replace hF := hF'; clear hF'
    refine wpAnyH_ready (rs := [6]) (by kernel_rfl) (by simp) ?_
    refine AllReadyH.cons rfl (fun K hK => ?_) AllReadyH.nil
    have f25 := fr_at hF 5 rfl
    have f30 := fr_at hF 0 rfl
    go_simp
    clear f25 f30
    go_at_call 6
    refine (of_bad a2 cap2 (L ++ [b]) n (m + 1) hn (by rw [hm2]) (by omega) (by rw [List.all_append, ho, List.all_cons, hob0]; rfl) _ HL2.out).mono ?_
    rintro e w5 ⟨hb5, rfl⟩
    go_wp2_with fail
    refine hK.out _ _ (on hS hb5) (fun _ => ?_)
    replace hS := on hS hb5
    clear hK K
    change wpAnyH _ _ _ _ _ _ _ (a6.put (some 31) (.tuple #[.slice none 0 0, .int .i64 1])) _
    have hF' := fr_put hF 31 (.tuple #[.slice none 0 0, .int .i64 1]) rfl (by decide)
    generalize hA7 : Act.put a6 (some 31) (.tuple #[.slice none 0 0, .int .i64 1]) = a7 at hF' ⊢
    replace hF := hF'; clear hF'
    refine tk (i := 7) (d := 24) (v := .tuple #[.slice none 0 0, .int .i64 1]) hF rfl rfl (by kernel_rfl) (by kernel_rfl) (by kernel_rfl) (fun _ _ _ h => h) (yi_go rfl (fun W hW => ex_move W rfl (fr_at hF 0 rfl))) hS rfl (by decide) (fun a8 hA8 hF' => ?_)
    replace hF := hF'; clear hF'
    refine tk (i := 8) (d := 32) (v := .slice none 0 0) hF rfl rfl (by kernel_rfl) (by kernel_rfl) (by kernel_rfl) (fun _ _ _ h => h) (yi_go rfl (fun W hW => by have f24 := fr_at hF 0 rfl; go_simp)) hS rfl (by decide) (fun a9 hA9 hF' => ?_)
    replace hF := hF'; clear hF'
    refine tk (i := 9) (d := 33) (v := .int .i64 1) hF rfl rfl (by kernel_rfl) (by kernel_rfl) (by kernel_rfl) (fun _ _ _ h => h) (yi_go rfl (fun W hW => by have f24 := fr_at hF 1 rfl; go_simp)) hS rfl (by decide) (fun a10 hA10 hF' => ?_)
    replace hF := hF'; clear hF'
    refine tk (i := 10) (d := 9) (v := .slice none 0 0) hF rfl rfl (by kernel_rfl) (by kernel_rfl) (by kernel_rfl) (fun _ _ _ h => h) (yi_go rfl (fun W hW => ex_assign W rfl (fr_at hF 1 rfl))) hS rfl (by decide) (fun a11 hA11 hF' => ?_)
    replace hF := hF'; clear hF'
    refine tk (i := 11) (d := 10) (v := .int .i64 1) hF rfl rfl (by kernel_rfl) (by kernel_rfl) (by kernel_rfl) (fun _ _ _ h => h) (yi_go rfl (fun W hW => ex_assign W rfl (fr_at hF 1 rfl))) hS rfl (by decide) (fun a12 hA12 hF' => ?_)
    replace hF := hF'; clear hF'
    refine wpAnyH_done (by kernel_rfl) ?_ _
    rw [← hA12, ← hA11, ← hA10, ← hA9, ← hA8, ← hA7, ← hA6, ← hA5, ← hA4, ← hA3, ← hA2, ← hA1, ← hA0]
    simp only [Act.put, List.setIfInBounds_toArray, List.set_cons_zero, List.set_cons_succ]
    clear hF
  all_goals
    have HS := Lib.hid (HBW.out.trans (hS.mono HLE.out))
    clear hS c0 c1 c2 c3
    go_wp2_with fail
    refine (alive_any _).mono ?_
    rintro e w6 ⟨rfl, hb6⟩
    have HB6 := Lib.hid (HS.out.trans (hb6.mono (by have := HS.out.size; have := HLE.out; omega)))
    clear hb6 HS
    go_wp2
    go_ret
    exact ⟨rfl, by rw [hBB]; exact HB6.out⟩
set_option maxRecDepth 20000 in
set_option maxHeartbeats 4000000 in
theorem less_ok (a : Option Addr) (cap m : Nat) (L : List Bd) (b : Bd) (n : Nat) (hn : n ≤ 64) (ho : L.all (·.ok n) = true) (hall : ∀ c ∈ L ++ [b], c.ok n = true) (hm : m = L.length) (hm' : m ≤ 255) (hnil : a = none → cap = 0) (hb1n : b.an < 18446744073709551616) (hb2n : b.bn < 18446744073709551616) (w : World) (hL : Bds w a L) : Calls Try.prog 5 #[.int .i64 (n : Int), .slice a m cap, .agg #[.bool b.av, .int .u64 (b.an : Int), .bool b.bv, .int .u64 (b.bn : Int)]] w fun e w' => e = .returned (.bool true) ∧ Below w.heap.size w w' := by
  have hbox := heap_alloc_new w (.cells #[.bool b.av, .int .u64 (b.an : Int), .bool b.bv, .int .u64 (b.bn : Int)] 33)
  have c0 : (w.alloc (.cells #[.bool b.av, .int .u64 (b.an : Int), .bool b.bv, .int .u64 (b.bn : Int)] 33)).cell? ⟨w.heap.size, 0, none⟩ = some (.bool b.av) := by rw [cell_of_row _ _ _ _ _ _ hbox]; rfl
  have c1 : (w.alloc (.cells #[.bool b.av, .int .u64 (b.an : Int), .bool b.bv, .int .u64 (b.bn : Int)] 33)).cell? ⟨w.heap.size, 1, none⟩ = some (.int .u64 (b.an : Int)) := by rw [cell_of_row _ _ _ _ _ _ hbox]; rfl
  have c2 : (w.alloc (.cells #[.bool b.av, .int .u64 (b.an : Int), .bool b.bv, .int .u64 (b.bn : Int)] 33)).cell? ⟨w.heap.size, 2, none⟩ = some (.bool b.bv) := by rw [cell_of_row _ _ _ _ _ _ hbox]; rfl
  have c3 : (w.alloc (.cells #[.bool b.av, .int .u64 (b.an : Int), .bool b.bv, .int .u64 (b.bn : Int)] 33)).cell? ⟨w.heap.size, 3, none⟩ = some (.int .u64 (b.bn : Int)) := by rw [cell_of_row _ _ _ _ _ _ hbox]; rfl
  have hba : Below w.heap.size w (w.alloc (.cells #[.bool b.av, .int .u64 (b.an : Int), .bool b.bv, .int .u64 (b.bn : Int)] 33)) := (Below.refl _ w).alloc (Nat.le_refl _) _
  have HM := Lib.hid hm
  have d0 : decide (255 < (m : Int)) = false := by simp; omega
  clear hm hbox
  go_enter Try.func5, Try.ntmps5
  go_wp2_with fail
  have HC := Lib.hid (And.intro c0 (And.intro c1 (And.intro c2 c3)))
  have HBA := Lib.hid hba
  have HL0 := Lib.hid (hL.below hba)
  clear c0 c1 c2 c3 hba hL
  generalize w.alloc (.cells #[.bool b.av, .int .u64 (b.an : Int), .bool b.bv, .int .u64 (b.bn : Int)] 33) = wa at *
  have hle := HBA.out.size
  generalize hBB : w.heap.size = B at *
  refine (of_ok a cap L n m hn HM.out (by omega) ho wa HL0.out).mono ?_
  rintro e w1 ⟨hb, ax, rfl, hx⟩
  have HL := Lib.hid (HL0.out.below hb)
  have HBW := Lib.hid (show Below B w w1 from HBA.out.trans (hb.mono hle))
  have HLE := Lib.hid (show B ≤ w1.heap.size from Nat.le_trans hle hb.size)
  clear hle
  obtain ⟨c0, c1, c2, c3⟩ := HC.out
  replace c0 := (hb.cell (p := ⟨B, 0, none⟩) (World.block_lt_of_cell? _ _ c0)).trans c0
  replace c1 := (hb.cell (p := ⟨B, 1, none⟩) (World.block_lt_of_cell? _ _ c1)).trans c1
  replace c2 := (hb.cell (p := ⟨B, 2, none⟩) (World.block_lt_of_cell? _ _ c2)).trans c2
  replace c3 := (hb.cell (p := ⟨B, 3, none⟩) (World.block_lt_of_cell? _ _ c3)).trans c3
  have HX1 := Lib.hid hx
  have HALL := Lib.hid hall
  clear hall
  clear hb HL0 HC HBA
  go_wp2_with fail
  refine wp_region_held (S := fun W => Below w1.heap.size w1 W) (by kernel_rfl) ?_
  generalize hA0 : Act.mk _ _ = a0
  have hF := Fr.nil (n := 133) (a := a0) (by rw [← hA0]; rfl)
  replace hF := Fr.cons hF 5 (.pointer (some ⟨B, 0, none⟩)) (by rw [← hA0]; rfl)
  replace hF := Fr.cons hF 1 (.slice a m cap) (by rw [← hA0]; rfl)
  replace hF := Fr.cons hF 0 (.int .i64 n) (by rw [← hA0]; rfl)
  have hS : Below w1.heap.size w1 w1.drew := (Below.refl _ w1).drew
  change wpAnyH _ _ _ _ _ _ _ _ (World.drew _)
  refine tk (i := 0) (d := 25) (v := .int .i64 n) hF rfl rfl (by kernel_rfl) (by kernel_rfl) (by kernel_rfl) (fun _ _ _ h => h) (yi_go rfl (fun W hW => ex_move W rfl (fr_at hF 0 rfl))) hS rfl (by decide) (fun a1 hA1 hF' => ?_)
  replace hF := hF'; clear hF'
  refine tk (i := 1) (d := 26) (v := .slice a m cap) hF rfl rfl (by kernel_rfl) (by kernel_rfl) (by kernel_rfl) (fun _ _ _ h => h) (yi_go rfl (fun W hW => ex_move W rfl (fr_at hF 2 rfl))) hS rfl (by decide) (fun a2 hA2 hF' => ?_)
  replace hF := hF'; clear hF'
  refine tk (i := 3) (d := 28) (v := .agg #[.bool b.av, .int .u64 (b.an : Int), .bool b.bv, .int .u64 (b.bn : Int)]) hF rfl rfl (by kernel_rfl) (by kernel_rfl) (by kernel_rfl) (fun _ _ _ h => h) (yi_go rfl (fun W hW => by replace c0 := (hW.cell (p := ⟨B, 0, none⟩) (World.block_lt_of_cell? _ _ c0)).trans c0; replace c1 := (hW.cell (p := ⟨B, 1, none⟩) (World.block_lt_of_cell? _ _ c1)).trans c1; replace c2 := (hW.cell (p := ⟨B, 2, none⟩) (World.block_lt_of_cell? _ _ c2)).trans c2; replace c3 := (hW.cell (p := ⟨B, 3, none⟩) (World.block_lt_of_cell? _ _ c3)).trans c3; have f5 := fr_at hF 4 rfl; go_simp)) hS rfl (by decide) (fun a3 hA3 hF' => ?_)
  replace hF := hF'; clear hF'
  refine wpAnyH_ready (rs := [2, 4]) (by kernel_rfl) (by simp) ?_
  refine AllReadyH.cons rfl (fun K hK => ?orderA) (AllReadyH.cons rfl (fun K hK => ?orderB) AllReadyH.nil)
  case' orderA =>
    refine step_own rfl (.const (.slice none 0 0)) (.tmp 26) rfl rfl (Own.nil w1.heap.size _) a m cap (ev_tmp (fr_at hF 1 rfl)) HM.out (HL.out.below hS) (fun h => ⟨rfl, hnil h⟩) (by simp; have := HM.out; omega) hS.size ?_
    intro v1 w2 ho1 hg1
    rw [List.nil_append] at ho1
    have hb1 : Below w1.heap.size w1 w2 := hS.grown hg1 hS.size (fun k hk => by cases hk)
    refine hK.out _ _ hb1 (fun _ => ?_)
    clear hK K
    replace hS := hb1
    change wpAnyH _ _ _ _ _ _ _ (a3.put (some 27) (v1)) _
    have hF' := fr_put hF 27 (v1) rfl (by decide)
    generalize hA4 : Act.put a3 (some 27) (v1) = a4 at hF' ⊢
    replace hF := hF'; clear hF'
    refine wpAnyH_ready (rs := [4]) (by kernel_rfl) (by simp) ?_
    refine AllReadyH.cons rfl (fun K hK => ?_) AllReadyH.nil
    have f28 := fr_at hF 1 rfl
    go_simp
    clear f28
    have hbb : Below w2.heap.size w2 (w2.alloc (.cells #[.bool b.av, .int .u64 (b.an : Int), .bool b.bv, .int .u64 (b.bn : Int)] 33)) := ((Below.refl _ _).alloc (Nat.le_refl _) _)
    have hob : Bds (w2.alloc (.cells #[.bool b.av, .int .u64 (b.an : Int), .bool b.bv, .int .u64 (b.bn : Int)] 33)) (some ⟨w2.heap.size, 0, none⟩) [b] := Bds.below (bds_one w2 b hb1n hb2n) (Below.refl _ _)
    refine hK.out _ _ (hS.trans (hbb.mono hS.size)) (fun _ => ?_)
    clear hK K
    replace hS : Below w1.heap.size w1 _ := hS.trans (hbb.mono hS.size)
    generalize (w2.alloc (.cells #[.bool b.av, .int .u64 (b.an : Int), .bool b.bv, .int .u64 (b.bn : Int)] 33)) = w3 at *
    change wpAnyH _ _ _ _ _ _ _ (a4.put (some 29) (.slice (some ⟨w2.heap.size, 0, none⟩) 1 1)) _
    have hF' := fr_put hF 29 (.slice (some ⟨w2.heap.size, 0, none⟩) 1 1) rfl (by decide)
    generalize hA5 : Act.put a4 (some 29) (.slice (some ⟨w2.heap.size, 0, none⟩) 1 1) = a5 at hF' ⊢
    replace hF := hF'; clear hF'
    replace ho1 : Own w1.heap.size w3 v1 L := ho1.below hbb
    refine wpAnyH_ready (rs := [5]) (by kernel_rfl) (by simp) ?_
    refine AllReadyH.cons rfl (fun K hK => ?_) AllReadyH.nil
    refine step_own rfl (.tmp 27) (.tmp 29) rfl (ev_tmp (fr_at hF 1 rfl)) ho1 (some ⟨w2.heap.size, 0, none⟩) 1 1 (ev_tmp (fr_at hF 0 rfl)) rfl hob (fun h => by cases h) (by simp; have := HM.out; omega) hS.size ?_
    intro v2 w4 ho2 hg2
    have hb4 : Below w1.heap.size w1 w4 := hS.grown hg2 hS.size (fun k hk => (ho1.1.lt k hk).1)
    refine hK.out _ _ hb4 (fun _ => ?_)
    clear hK K
    replace hS := hb4
    obtain ⟨a2, cap2, rfl, hL2, _⟩ := ho2.bds
    have hm2 : (L ++ [b]).length = m + 1 := by rw [List.length_append]; have := HM.out; simp; omega
    rw [hm2]
    have HL2 := Lib.hid hL2
    have HO2 := Lib.hid ho2
    clear ho2 hL2 hg2 ho1 hob hb4
    change wpAnyH _ _ _ _ _ _ _ (a5.put (some 30) (.slice a2 (m + 1) cap2)) _
    have hF' := fr_put hF 30 (.slice a2 (m + 1) cap2) rfl (by decide)
    generalize hA6 : Act.put a5 (some 30) (.slice a2 (m + 1) cap2) = a6 at hF' ⊢
    replace hF := hF'; clear hF'
    refine wpAnyH_ready (rs := [6]) (by kernel_rfl) (by simp) ?_
    refine AllReadyH.cons rfl (fun K hK => ?_) AllReadyH.nil
    have f25 := fr_at hF 5 rfl
    have f30 := fr_at hF 0 rfl
    go_simp
    clear f25 f30
    go_at_call 6
    refine (of_ok a2 cap2 (L ++ [b]) n (m + 1) hn (by rw [hm2]) (by omega) (by rw [List.all_eq_true]; exact HALL.out) _ HL2.out).mono ?_
    rintro e w5 ⟨hb5, ay, rfl, hy⟩
    go_wp2_with fail
    refine hK.out _ _ (on hS hb5) (fun _ => ?_)
    replace hS := on hS hb5
    clear hK K
    change wpAnyH _ _ _ _ _ _ _ (a6.put (some 31) (.tuple #[.slice ay n n, .int .i64 0])) _
    have hF' := fr_put hF 31 (.tuple #[.slice ay n n, .int .i64 0]) rfl (by decide)
    generalize hA7 : Act.put a6 (some 31) (.tuple #[.slice ay n n, .int .i64 0]) = a7 at hF' ⊢
    replace hF := hF'; clear hF'
    refine tk (i := 7) (d := 24) (v := .tuple #[.slice ay n n, .int .i64 0]) hF rfl rfl (by kernel_rfl) (by kernel_rfl) (by kernel_rfl) (fun _ _ _ h => h) (yi_go rfl (fun W hW => ex_move W rfl (fr_at hF 0 rfl))) hS rfl (by decide) (fun a8 hA8 hF' => ?_)
    replace hF := hF'; clear hF'
    refine tk (i := 8) (d := 32) (v := .slice ay n n) hF rfl rfl (by kernel_rfl) (by kernel_rfl) (by kernel_rfl) (fun _ _ _ h => h) (yi_go rfl (fun W hW => by have f24 := fr_at hF 0 rfl; go_simp)) hS rfl (by decide) (fun a9 hA9 hF' => ?_)
    replace hF := hF'; clear hF'
    refine tk (i := 9) (d := 33) (v := .int .i64 0) hF rfl rfl (by kernel_rfl) (by kernel_rfl) (by kernel_rfl) (fun _ _ _ h => h) (yi_go rfl (fun W hW => by have f24 := fr_at hF 1 rfl; go_simp)) hS rfl (by decide) (fun a10 hA10 hF' => ?_)
    replace hF := hF'; clear hF'
    refine tk (i := 10) (d := 9) (v := .slice ay n n) hF rfl rfl (by kernel_rfl) (by kernel_rfl) (by kernel_rfl) (fun _ _ _ h => h) (yi_go rfl (fun W hW => ex_assign W rfl (fr_at hF 1 rfl))) hS rfl (by decide) (fun a11 hA11 hF' => ?_)
    replace hF := hF'; clear hF'
    refine tk (i := 11) (d := 10) (v := .int .i64 0) hF rfl rfl (by kernel_rfl) (by kernel_rfl) (by kernel_rfl) (fun _ _ _ h => h) (yi_go rfl (fun W hW => ex_assign W rfl (fr_at hF 1 rfl))) hS rfl (by decide) (fun a12 hA12 hF' => ?_)
    replace hF := hF'; clear hF'
    refine wpAnyH_done (by kernel_rfl) ?_ _
    rw [← hA12, ← hA11, ← hA10, ← hA9, ← hA8, ← hA7, ← hA6, ← hA5, ← hA4, ← hA3, ← hA2, ← hA1, ← hA0]
    simp only [Act.put, List.setIfInBounds_toArray, List.set_cons_zero, List.set_cons_succ]
    clear hF
  case' orderB =>
    have f28 := fr_at hF 0 rfl
    go_simp
    clear f28
    have hbb : Below w1.heap.size w1 (w1.alloc (.cells #[.bool b.av, .int .u64 (b.an : Int), .bool b.bv, .int .u64 (b.bn : Int)] 33)).drew := Below.drew ((Below.refl _ _).alloc (Nat.le_refl _) _)
    have hob : Bds (w1.alloc (.cells #[.bool b.av, .int .u64 (b.an : Int), .bool b.bv, .int .u64 (b.bn : Int)] 33)).drew (some ⟨w1.heap.size, 0, none⟩) [b] := Bds.below (bds_one w1 b hb1n hb2n) (Below.drew (Below.refl _ _))
    refine hK.out _ _ (hbb) (fun _ => ?_)
    clear hK K
    replace hS : Below w1.heap.size w1 _ := hbb
    generalize (w1.alloc (.cells #[.bool b.av, .int .u64 (b.an : Int), .bool b.bv, .int .u64 (b.bn : Int)] 33)).drew = w2 at *
    change wpAnyH _ _ _ _ _ _ _ (a3.put (some 29) (.slice (some ⟨w1.heap.size, 0, none⟩) 1 1)) _
    have hF' := fr_put hF 29 (.slice (some ⟨w1.heap.size, 0, none⟩) 1 1) rfl (by decide)
    generalize hA4 : Act.put a3 (some 29) (.slice (some ⟨w1.heap.size, 0, none⟩) 1 1) = a4 at hF' ⊢
    replace hF := hF'; clear hF'
    refine wpAnyH_ready (rs := [2]) (by kernel_rfl) (by simp) ?_
    refine AllReadyH.cons rfl (fun K hK => ?_) AllReadyH.nil
    refine step_own rfl (.const (.slice none 0 0)) (.tmp 26) rfl rfl (Own.nil w1.heap.size _) a m cap (ev_tmp (fr_at hF 2 rfl)) HM.out (HL.out.below hS) (fun h => ⟨rfl, hnil h⟩) (by simp; have := HM.out; omega) hS.size ?_
    intro v1 w3 ho1 hg1
    rw [List.nil_append] at ho1
    have hb1 : Below w1.heap.size w1 w3 := hS.grown hg1 hS.size (fun k hk => by cases hk)
    refine hK.out _ _ hb1 (fun _ => ?_)
    clear hK K
    replace hS := hb1
    change wpAnyH _ _ _ _ _ _ _ (a4.put (some 27) (v1)) _
    have hF' := fr_put hF 27 (v1) rfl (by decide)
    generalize hA5 : Act.put a4 (some 27) (v1) = a5 at hF' ⊢
    replace hF := hF'; clear hF'
    replace hob := hob.below ((Below.refl _ w2).grown hg1 (Nat.le_refl _) (fun k hk => by cases hk))
    refine wpAnyH_ready (rs := [5]) (by kernel_rfl) (by simp) ?_
    refine AllReadyH.cons rfl (fun K hK => ?_) AllReadyH.nil
    refine step_own rfl (.tmp 27) (.tmp 29) rfl (ev_tmp (fr_at hF 0 rfl)) ho1 (some ⟨w1.heap.size, 0, none⟩) 1 1 (ev_tmp (fr_at hF 1 rfl)) rfl hob (fun h => by cases h) (by simp; have := HM.out; omega) hS.size ?_
    intro v2 w4 ho2 hg2
    have hb4 : Below w1.heap.size w1 w4 := hS.grown hg2 hS.size (fun k hk => (ho1.1.lt k hk).1)
    refine hK.out _ _ hb4 (fun _ => ?_)
    clear hK K
    replace hS := hb4
    obtain ⟨a2, cap2, rfl, hL2, _⟩ := ho2.bds
    have hm2 : (L ++ [b]).length = m + 1 := by rw [List.length_append]; have := HM.out; simp; omega
    rw [hm2]
    have HL2 := Lib.hid hL2
    have HO2 := Lib.hid ho2
    clear ho2 hL2 hg2 ho1 hob hb4
    change wpAnyH _ _ _ _ _ _ _ (a5.put (some 30) (.slice a2 (m + 1) cap2)) _
    have hF' := fr_put hF 30 (.slice a2 (m + 1) cap2) rfl (by decide)
    generalize hA6 : Act.put a5 (some 30) (.slice a2 (m + 1) cap2) = a6 at hF' ⊢
    replace hF := hF'; clear hF'
    refine wpAnyH_ready (rs := [6]) (by kernel_rfl) (by simp) ?_
    refine AllReadyH.cons rfl (fun K hK => ?_) AllReadyH.nil
    have f25 := fr_at hF 5 rfl
    have f30 := fr_at hF 0 rfl
    go_simp
    clear f25 f30
    go_at_call 6
    refine (of_ok a2 cap2 (L ++ [b]) n (m + 1) hn (by rw [hm2]) (by omega) (by rw [List.all_eq_true]; exact HALL.out) _ HL2.out).mono ?_
    rintro e w5 ⟨hb5, ay, rfl, hy⟩
    go_wp2_with fail
    refine hK.out _ _ (on hS hb5) (fun _ => ?_)
    replace hS := on hS hb5
    clear hK K
    change wpAnyH _ _ _ _ _ _ _ (a6.put (some 31) (.tuple #[.slice ay n n, .int .i64 0])) _
    have hF' := fr_put hF 31 (.tuple #[.slice ay n n, .int .i64 0]) rfl (by decide)
    generalize hA7 : Act.put a6 (some 31) (.tuple #[.slice ay n n, .int .i64 0]) = a7 at hF' ⊢
    replace hF := hF'; clear hF'
    refine tk (i := 7) (d := 24) (v := .tuple #[.slice ay n n, .int .i64 0]) hF rfl rfl (by kernel_rfl) (by kernel_rfl) (by kernel_rfl) (fun _ _ _ h => h) (yi_go rfl (fun W hW => ex_move W rfl (fr_at hF 0 rfl))) hS rfl (by decide) (fun a8 hA8 hF' => ?_)
    replace hF := hF'; clear hF'
    refine tk (i := 8) (d := 32) (v := .slice ay n n) hF rfl rfl (by kernel_rfl) (by kernel_rfl) (by kernel_rfl) (fun _ _ _ h => h) (yi_go rfl (fun W hW => by have f24 := fr_at hF 0 rfl; go_simp)) hS rfl (by decide) (fun a9 hA9 hF' => ?_)
    replace hF := hF'; clear hF'
    refine tk (i := 9) (d := 33) (v := .int .i64 0) hF rfl rfl (by kernel_rfl) (by kernel_rfl) (by kernel_rfl) (fun _ _ _ h => h) (yi_go rfl (fun W hW => by have f24 := fr_at hF 1 rfl; go_simp)) hS rfl (by decide) (fun a10 hA10 hF' => ?_)
    replace hF := hF'; clear hF'
    refine tk (i := 10) (d := 9) (v := .slice ay n n) hF rfl rfl (by kernel_rfl) (by kernel_rfl) (by kernel_rfl) (fun _ _ _ h => h) (yi_go rfl (fun W hW => ex_assign W rfl (fr_at hF 1 rfl))) hS rfl (by decide) (fun a11 hA11 hF' => ?_)
    replace hF := hF'; clear hF'
    refine tk (i := 11) (d := 10) (v := .int .i64 0) hF rfl rfl (by kernel_rfl) (by kernel_rfl) (by kernel_rfl) (fun _ _ _ h => h) (yi_go rfl (fun W hW => ex_assign W rfl (fr_at hF 1 rfl))) hS rfl (by decide) (fun a12 hA12 hF' => ?_)
    replace hF := hF'; clear hF'
    refine wpAnyH_done (by kernel_rfl) ?_ _
    rw [← hA12, ← hA11, ← hA10, ← hA9, ← hA8, ← hA7, ← hA6, ← hA5, ← hA4, ← hA3, ← hA2, ← hA1, ← hA0]
    simp only [Act.put, List.setIfInBounds_toArray, List.set_cons_zero, List.set_cons_succ]
    clear hF
  all_goals
    have HS := Lib.hid (HBW.out.trans (hS.mono HLE.out))
    have HX5 := Lib.hid (HX1.out.below hS)
    have HY5 := Lib.hid hy
    have HC5 := Lib.hid (And.intro ((hS.cell (p := ⟨B, 0, none⟩) (World.block_lt_of_cell? _ _ c0)).trans c0) (And.intro ((hS.cell (p := ⟨B, 1, none⟩) (World.block_lt_of_cell? _ _ c1)).trans c1) (And.intro ((hS.cell (p := ⟨B, 2, none⟩) (World.block_lt_of_cell? _ _ c2)).trans c2) ((hS.cell (p := ⟨B, 3, none⟩) (World.block_lt_of_cell? _ _ c3)).trans c3))))
    have HL5 := Lib.hid (Nat.le_trans HLE.out hS.size)
    clear hS c0 c1 c2 c3 hy hb5 HX1 HLE HBW HL
    go_wp2_with fail
    refine (square_any ax n hn (reach n L) w5 HX5.out).mono ?_
    rintro e w6 ⟨rfl, hb6⟩
    have HX6 := Lib.hid (HX5.out.below hb6)
    have HY6 := Lib.hid (HY5.out.below hb6)
    have HB6 := Lib.hid hb6
    clear hb6 HX5 HY5
    go_wp2_with fail
    refine (square_any ay n hn (reach n (L ++ [b])) w6 HY6.out).mono ?_
    rintro e w7 ⟨rfl, hb7⟩
    have HX := Lib.hid (HX6.out.below hb7)
    have HY := Lib.hid (HY6.out.below hb7)
    have HB7 := Lib.hid (on HB6.out hb7)
    clear hb7 HX6 HY6 HB6
    go_wp2
    go_loopw [11] (fun i wr => ∃ i0 : Nat, i0 ≤ n ∧ i = .int .i64 i0 ∧ Hid (Below w7.heap.size w7 wr)) (fun i _ => n - (intOf i).toNat)
    case atStart => exact ⟨0, by omega, rfl, Below.refl _ w7⟩
    case round =>
      obtain ⟨i0, hi0, rfl, HW⟩ := hrel
      by_cases hin : i0 < n
      · go_wp2
        go_loopw [12] (fun j wr => ∃ j0 : Nat, j0 ≤ n ∧ j = .int .i64 j0 ∧ Hid (Below w7.heap.size w7 wr)) (fun j _ => n - (intOf j).toNat)
        case atStart => exact ⟨0, by omega, rfl, HW.out⟩
        case round =>
          clear HW
          obtain ⟨j0, hj0, rfl, HW⟩ := hrel
          by_cases hjn : j0 < n
          · obtain ⟨O1, e1, _⟩ := HX.out i0 hin
            subst e1
            obtain ⟨O2, e2, _⟩ := HY.out i0 hin
            subst e2
            obtain ⟨g1, d1, d3⟩ := (HX.out.below HW.out).cells2 hin hjn
            obtain ⟨g2, z1, z3⟩ := (HY.out.below HW.out).cells2 hin hjn
            have hpq : reach n L i0 j0 = true → reach n (L ++ [b]) i0 j0 = true := reach_mono n HALL.out (fun c hc => List.mem_append.2 (.inl hc)) i0 j0
            have i1 : (0 : Int) ≤ (i0 : Int) := by omega
            have i2 : (i0 : Int) < (n : Int) := by omega
            have i3 : (0 : Int) ≤ (j0 : Int) := by omega
            have i4 : (j0 : Int) < (n : Int) := by omega
            generalize reach n L i0 j0 = p at d3 hpq
            generalize reach n (L ++ [b]) i0 j0 = q at z3 hpq
            cases p with
            | false =>
              clear hpq z1 z3
              go_wp2
              go_roundw
              case rel => exact ⟨j0 + 1, by omega, by go_num, HW.out⟩
              case measure => simp [intOf]; omega
            | true =>
              obtain rfl : q = true := hpq rfl
              clear hpq
              go_wp2
              go_roundw
              case rel => exact ⟨j0 + 1, by omega, by go_num, HW.out⟩
              case measure => simp [intOf]; omega
          · obtain rfl : n = j0 := by omega
            go_wp2
            go_roundw
            case rel => exact ⟨i0 + 1, by omega, by go_num, HW.out⟩
            case measure => simp [intOf]; omega
      · obtain rfl : n = i0 := by omega
        obtain ⟨c0, c1, c2, c3⟩ := HC5.out
        have hbx := on HB7.out HW.out
        replace c0 := (hbx.cell (p := ⟨B, 0, none⟩) (World.block_lt_of_cell? _ _ c0)).trans c0
        replace c1 := (hbx.cell (p := ⟨B, 1, none⟩) (World.block_lt_of_cell? _ _ c1)).trans c1
        replace c2 := (hbx.cell (p := ⟨B, 2, none⟩) (World.block_lt_of_cell? _ _ c2)).trans c2
        replace c3 := (hbx.cell (p := ⟨B, 3, none⟩) (World.block_lt_of_cell? _ _ c3)).trans c3
        have HBX := Lib.hid hbx
        clear hbx HC5
        obtain ⟨kn, hkn⟩ : ∃ kn, kn = sameM n (reach n L) (reach n (L ++ [b])) := ⟨_, rfl⟩
        have hkn2 := hkn.trans (same_known n L b HALL.out)
        have hbok := HALL.out b (by simp)
        have HKN := Lib.hid hkn
        clear hkn
        obtain ⟨va, hva⟩ : ∃ va, va = b.av := ⟨_, rfl⟩
        obtain ⟨vb, hvb⟩ : ∃ vb, vb = b.bv := ⟨_, rfl⟩
        obtain ⟨na, hna⟩ : ∃ na, na = b.an := ⟨_, rfl⟩
        obtain ⟨nb, hnb⟩ : ∃ nb, nb = b.bn := ⟨_, rfl⟩
        unfold Bd.ok at hbok
        rw [← hva, ← hvb, ← hna, ← hnb] at hkn2 hbok
        rw [← hva] at c0
        rw [← hna] at c1
        rw [← hvb] at c2
        rw [← hnb] at c3
        clear hva hvb hna hnb
        cases va with
        | false =>
          obtain rfl : kn = true := by simpa using hkn2
          clear hkn2 hbok
          go_wp2
          go_quiet (fail)
          have HWN := Lib.hid (below_drewN2 HW.out nq)
          go_wp2_with fail
          refine (alive_any _).mono ?_
          rintro e w8 ⟨rfl, hb8⟩
          have HW8 := Lib.hid (on HWN.out hb8)
          clear hb8
          go_wp2_with fail
          refine (lists_any _ _ n hn (reach n L) (reach n (L ++ [b])) _ (HX.out.below HW8.out) (HY.out.below HW8.out)).mono ?_
          rintro e w9 ⟨rfl, hb9⟩
          have HW9 := Lib.hid (on HB7.out (on HW8.out hb9))
          clear hb9
          rw [← HKN.out]
          go_wp2
          go_ret
          exact ⟨by simp, by rw [hBB]; exact HS.out.trans (HW9.out.mono HL5.out)⟩
        | true =>
          cases vb with
          | false =>
            obtain rfl : kn = true := by simpa using hkn2
            clear hkn2 hbok
            go_wp2
            go_quiet (fail)
            have HWN := Lib.hid (below_drewN2 HW.out nq)
            go_wp2_with fail
            refine (alive_any _).mono ?_
            rintro e w8 ⟨rfl, hb8⟩
            have HW8 := Lib.hid (on HWN.out hb8)
            clear hb8
            go_wp2_with fail
            refine (lists_any _ _ n hn (reach n L) (reach n (L ++ [b])) _ (HX.out.below HW8.out) (HY.out.below HW8.out)).mono ?_
            rintro e w9 ⟨rfl, hb9⟩
            have HW9 := Lib.hid (on HB7.out (on HW8.out hb9))
            clear hb9
            rw [← HKN.out]
            go_wp2
            go_ret
            exact ⟨by simp, by rw [hBB]; exact HS.out.trans (HW9.out.mono HL5.out)⟩
          | true =>
            have hna : na < n := by simp at hbok; exact hbok.1
            have hnb : nb < n := by simp at hbok; exact hbok.2
            obtain ⟨O1, e1, _⟩ := HX.out na hna
            subst e1
            obtain ⟨g1, d1, d3⟩ := (HX.out.below HW.out).cells2 hna hnb
            obtain rfl : kn = reach n L na nb := by simpa using hkn2
            generalize reach n L na nb = kn at HKN d3
            clear hkn2 hbok
            have i8 : IntKind.u64.wrap (n : Int) = (n : Int) := by rw [IntKind.wrap_u64]; omega
            have j1 : (na : Int) < (n : Int) := by omega
            have j2 : (nb : Int) < (n : Int) := by omega
            have j3 : decide ((n : Int) ≤ (na : Int)) = false := by simp; omega
            have j4 : decide ((n : Int) ≤ (nb : Int)) = false := by simp; omega
            have j5 : decide (n ≤ na) = false := by simp; omega
            have j6 : decide (n ≤ nb) = false := by simp; omega
            have j7 : ¬ ((n : Int) ≤ (na : Int)) := by omega
            have j8 : ¬ ((n : Int) ≤ (nb : Int)) := by omega
            have j9 : decide ((na : Int) < (n : Int)) = true := by simp; omega
            have j10 : decide ((nb : Int) < (n : Int)) = true := by simp; omega
            have j11 : decide (na < n) = true := by simp; omega
            have j12 : decide (nb < n) = true := by simp; omega
            go_wp2
            go_quiet (fail)
            have HWN := Lib.hid (below_drewN2 HW.out nq)
            go_wp2_with fail
            refine (alive_any _).mono ?_
            rintro e w8 ⟨rfl, hb8⟩
            have HW8 := Lib.hid (on HWN.out hb8)
            clear hb8
            go_wp2_with fail
            refine (lists_any _ _ n hn (reach n L) (reach n (L ++ [b])) _ (HX.out.below HW8.out) (HY.out.below HW8.out)).mono ?_
            rintro e w9 ⟨rfl, hb9⟩
            have HW9 := Lib.hid (on HB7.out (on HW8.out hb9))
            clear hb9
            rw [← HKN.out]
            go_wp2
            go_ret
            exact ⟨by simp, by rw [hBB]; exact HS.out.trans (HW9.out.mono HL5.out)⟩

end Go.Proofs.Ytjkfmgjebemphaa
