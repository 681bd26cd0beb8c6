/- alive, of bounds. -/
import Derived.Test.YtappaokjlnpbnaaDoorSameN
namespace Go.Proofs.YtappaokjlnpbnaaDoor
open Go.RowKit Go.Proofs.YtappaokjlnpbnaaDoorW.PrintWords
set_option linter.unusedVariables false
theorem lst_nums (w : World) (xs : List Nat) (hx : ∀ x ∈ xs, x < 18446744073709551616) : Nums (w.alloc (.cells (nums .u64 (intsN xs)).toArray 25)) (some ⟨w.heap.size, 0, none⟩) xs := nums_lit w xs hx
set_option maxRecDepth 100000 in
set_option maxHeartbeats 8000000 in
theorem alive10_any (w : World) (hT : Tab w) : Calls Tryd.prog 34 #[] w fun e w' => e = .returned (.bool true) ∧ Below w.heap.size w w' := by
  have HT := Lib.hid hT
  have HN0 := Lib.hid (show Nums (w.alloc (.cells #[.int .u64 7, .int .u64 6, .int .u64 4] 25)) (some ⟨w.heap.size, 0, none⟩) [7, 6, 4] from nums_lit w [7, 6, 4] (by decide))
  have HBa := Lib.hid (lit_below w (.cells #[.int .u64 7, .int .u64 6, .int .u64 4] 25))
  clear hT
  go_enter Tryd.func34, Tryd.ntmps34
  go_wp2_with fail
  refine (sort_any (some ⟨w.heap.size, 0, none⟩) 3 3 false 0 0 none 0 0 none 0 0 [7, 6, 4] rfl (by decide) _ HN0.out (HT.out.below HBa.out)).mono ?_
  rintro e ws ⟨⟨v, rfl, hv, hs⟩, hb⟩
  rw [sort3] at hs
  have HS := Lib.hid hs
  have HBx := Lib.hid (on HBa.out hb)
  clear hb hs hv HN0 HBa
  go_wp2_with fail
  refine (cB_any 1 _).mono ?_
  rintro e p0 ⟨rfl, hb⟩
  replace HBx := Lib.hid (on HBx.out (hb))
  replace HS := Lib.hid (HS.out.below (hb))
  clear hb
  go_wp2_with fail
  refine (vB_any 0 _).mono ?_
  rintro e p1 ⟨rfl, hb⟩
  replace HBx := Lib.hid (on HBx.out (hb))
  replace HS := Lib.hid (HS.out.below (hb))
  clear hb
  go_wp2_with fail
  refine (vB_any 0 _).mono ?_
  rintro e p2 ⟨rfl, hb⟩
  replace HBx := Lib.hid (on HBx.out (hb))
  replace HS := Lib.hid (HS.out.below (hb))
  clear hb
  go_wp2_with fail
  refine (vB_any 1 _).mono ?_
  rintro e p3 ⟨rfl, hb⟩
  replace HBx := Lib.hid (on HBx.out (hb))
  replace HS := Lib.hid (HS.out.below (hb))
  clear hb
  go_wp2_with fail
  have HL := Lib.hid (lit_below p3 (.cells #[.bool false, .int .u64 (1 : Nat), .bool true, .int .u64 (0 : Nat), .bool true, .int .u64 (0 : Nat), .bool true, .int .u64 (1 : Nat)] 72))
  refine (solved_all v (latS [7, 6, 4]) (.inl full3) 2 (some ⟨p3.heap.size, 0, none⟩) 2 2 la1 rfl _ (HS.out.below HL.out).n (bds2 _ false 1 true 0 (by decide) (by decide) true 0 true 1 (by decide) (by decide))).mono ?_
  intro e p hh
  obtain ⟨hb, Bl, Bh, rfl, n1, n2⟩ := a1 hh
  replace HBx := Lib.hid (on HBx.out (on HL.out hb))
  replace HS := Lib.hid (HS.out.below (on HL.out hb))
  clear hb hh HL
  have HN1 := Lib.hid n1
  have HN2 := Lib.hid n2
  clear n1 n2
  go_wp2_with fail
  refine (cB_any 2 _).mono ?_
  rintro e q0 ⟨rfl, hb⟩
  replace HBx := Lib.hid (on HBx.out (hb))
  replace HS := Lib.hid (HS.out.below (hb))
  replace HN1 := Lib.hid (HN1.out.below (hb))
  replace HN2 := Lib.hid (HN2.out.below (hb))
  clear hb
  go_wp2_with fail
  refine (vB_any 0 _).mono ?_
  rintro e q1 ⟨rfl, hb⟩
  replace HBx := Lib.hid (on HBx.out (hb))
  replace HS := Lib.hid (HS.out.below (hb))
  replace HN1 := Lib.hid (HN1.out.below (hb))
  replace HN2 := Lib.hid (HN2.out.below (hb))
  clear hb
  go_wp2_with fail
  refine (vB_any 0 _).mono ?_
  rintro e q2 ⟨rfl, hb⟩
  replace HBx := Lib.hid (on HBx.out (hb))
  replace HS := Lib.hid (HS.out.below (hb))
  replace HN1 := Lib.hid (HN1.out.below (hb))
  replace HN2 := Lib.hid (HN2.out.below (hb))
  clear hb
  go_wp2_with fail
  refine (cB_any 1 _).mono ?_
  rintro e q3 ⟨rfl, hb⟩
  replace HBx := Lib.hid (on HBx.out (hb))
  replace HS := Lib.hid (HS.out.below (hb))
  replace HN1 := Lib.hid (HN1.out.below (hb))
  replace HN2 := Lib.hid (HN2.out.below (hb))
  clear hb
  go_wp2_with fail
  have HL := Lib.hid (lit_below q3 (.cells #[.bool false, .int .u64 (2 : Nat), .bool true, .int .u64 (0 : Nat), .bool true, .int .u64 (0 : Nat), .bool false, .int .u64 (1 : Nat)] 72))
  refine (solved_all v (latS [7, 6, 4]) (.inl full3) 1 (some ⟨q3.heap.size, 0, none⟩) 2 2 la2 rfl _ (HS.out.below HL.out).n (bds2 _ false 2 true 0 (by decide) (by decide) true 0 false 1 (by decide) (by decide))).mono ?_
  intro e q hh
  obtain ⟨hb, rfl⟩ := a2 hh
  replace HBx := Lib.hid (on HBx.out (on HL.out hb))
  replace HS := Lib.hid (HS.out.below (on HL.out hb))
  replace HN1 := Lib.hid (HN1.out.below (on HL.out hb))
  replace HN2 := Lib.hid (HN2.out.below (on HL.out hb))
  clear hb hh HL
  go_wp2_with fail
  refine (vB_any 1 _).mono ?_
  rintro e r0 ⟨rfl, hb⟩
  replace HBx := Lib.hid (on HBx.out (hb))
  replace HS := Lib.hid (HS.out.below (hb))
  replace HN1 := Lib.hid (HN1.out.below (hb))
  replace HN2 := Lib.hid (HN2.out.below (hb))
  clear hb
  go_wp2_with fail
  refine (vB_any 0 _).mono ?_
  rintro e r1 ⟨rfl, hb⟩
  replace HBx := Lib.hid (on HBx.out (hb))
  replace HS := Lib.hid (HS.out.below (hb))
  replace HN1 := Lib.hid (HN1.out.below (hb))
  replace HN2 := Lib.hid (HN2.out.below (hb))
  clear hb
  go_wp2_with fail
  have HL := Lib.hid (lit_below r1 (.cells #[.bool true, .int .u64 (1 : Nat), .bool true, .int .u64 (0 : Nat)] 72))
  refine (solved_all v (latS [7, 6, 4]) (.inl full3) 1 (some ⟨r1.heap.size, 0, none⟩) 1 1 la3 rfl _ (HS.out.below HL.out).n (bds1 _ true 1 true 0 (by decide) (by decide))).mono ?_
  intro e r hh
  obtain ⟨hb, rfl⟩ := aN (k := 1) (by decide) (by decide) hh
  replace HBx := Lib.hid (on HBx.out (on HL.out hb))
  replace HS := Lib.hid (HS.out.below (on HL.out hb))
  replace HN1 := Lib.hid (HN1.out.below (on HL.out hb))
  replace HN2 := Lib.hid (HN2.out.below (on HL.out hb))
  clear hb hh HL
  go_wp2_with fail
  refine (cB_any 3 _).mono ?_
  rintro e s0 ⟨rfl, hb⟩
  replace HBx := Lib.hid (on HBx.out (hb))
  replace HS := Lib.hid (HS.out.below (hb))
  replace HN1 := Lib.hid (HN1.out.below (hb))
  replace HN2 := Lib.hid (HN2.out.below (hb))
  clear hb
  go_wp2_with fail
  refine (cB_any 3 _).mono ?_
  rintro e s1 ⟨rfl, hb⟩
  replace HBx := Lib.hid (on HBx.out (hb))
  replace HS := Lib.hid (HS.out.below (hb))
  replace HN1 := Lib.hid (HN1.out.below (hb))
  replace HN2 := Lib.hid (HN2.out.below (hb))
  clear hb
  go_wp2_with fail
  have HL := Lib.hid (lit_below s1 (.cells #[.bool false, .int .u64 (3 : Nat), .bool false, .int .u64 (3 : Nat)] 72))
  refine (solved_all v (latS [7, 6, 4]) (.inl full3) 0 (some ⟨s1.heap.size, 0, none⟩) 1 1 la4 rfl _ (HS.out.below HL.out).n (bds1 _ false 3 false 3 (by decide) (by decide))).mono ?_
  intro e s hh
  obtain ⟨hb, rfl⟩ := aN (k := 1) (by decide) (by decide) hh
  replace HBx := Lib.hid (on HBx.out (on HL.out hb))
  replace HS := Lib.hid (HS.out.below (on HL.out hb))
  replace HN1 := Lib.hid (HN1.out.below (on HL.out hb))
  replace HN2 := Lib.hid (HN2.out.below (on HL.out hb))
  clear hb hh HL
  go_wp2_with fail
  have HL := Lib.hid (Below.refl s.heap.size s)
  refine (solved_all v (latS [7, 6, 4]) (.inl full3) 65 none 0 0 [] rfl _ (HS.out.below HL.out).n (bds0 _ _)).mono ?_
  intro e t hh
  obtain ⟨hb, rfl⟩ := aN (k := 3) (by decide) (by decide) hh
  replace HBx := Lib.hid (on HBx.out (on HL.out hb))
  replace HS := Lib.hid (HS.out.below (on HL.out hb))
  replace HN1 := Lib.hid (HN1.out.below (on HL.out hb))
  replace HN2 := Lib.hid (HN2.out.below (on HL.out hb))
  clear hb hh HL
  go_wp2_with fail
  refine (vB_any 0 _).mono ?_
  rintro e u0 ⟨rfl, hb⟩
  replace HBx := Lib.hid (on HBx.out (hb))
  replace HS := Lib.hid (HS.out.below (hb))
  replace HN1 := Lib.hid (HN1.out.below (hb))
  replace HN2 := Lib.hid (HN2.out.below (hb))
  clear hb
  go_wp2_with fail
  refine (vB_any 1 _).mono ?_
  rintro e u1 ⟨rfl, hb⟩
  replace HBx := Lib.hid (on HBx.out (hb))
  replace HS := Lib.hid (HS.out.below (hb))
  replace HN1 := Lib.hid (HN1.out.below (hb))
  replace HN2 := Lib.hid (HN2.out.below (hb))
  clear hb
  have HL := Lib.hid (lit_below u1 (.cells #[.bool true, .int .u64 (0 : Nat), .bool true, .int .u64 (1 : Nat)] 72))
  have HLB := Lib.hid (bds1 u1 true 0 true 1 (by decide) (by decide))
  replace HBx := Lib.hid (on HBx.out (HL.out))
  replace HS := Lib.hid (HS.out.below (HL.out))
  replace HN1 := Lib.hid (HN1.out.below (HL.out))
  replace HN2 := Lib.hid (HN2.out.below (HL.out))
  have hsz : (u1.alloc (.cells #[.bool true, .int .u64 (0 : Nat), .bool true, .int .u64 (1 : Nat)] 72)).heap.size = u1.heap.size + 1 := by show (u1.heap.push _).size = _; rw [Array.size_push]
  have HSZ := Lib.hid hsz
  obtain ⟨BU, hBU⟩ : ∃ B, B = u1.heap.size := ⟨_, rfl⟩
  clear HL hsz
  go_wp2_with fail
  rw [← hBU] at HLB HSZ ⊢
  clear hBU
  generalize u1.alloc _ = u2 at *
  rw [← HSZ.out]
  clear HSZ
  have HL := Lib.hid (lit_below u2 (.cells #[.int .u64 1, .int .u64 1] 25))
  have HN := Lib.hid (show Nums (u2.alloc (.cells #[.int .u64 1, .int .u64 1] 25)) (some ⟨u2.heap.size, 0, none⟩) [1, 1] from nums_lit u2 [1, 1] (by decide))
  refine (same_nums (some ⟨Bl, 0, none⟩) 2 2 _ 2 2 [1, 1] [1, 1] rfl rfl (by decide) (by decide) _ (HN1.out.below HL.out) HN.out).mono ?_
  rintro e x1 ⟨rfl, hb⟩
  replace HBx := Lib.hid (on HBx.out (on HL.out hb))
  replace HS := Lib.hid (HS.out.below (on HL.out hb))
  replace HN1 := Lib.hid (HN1.out.below (on HL.out hb))
  replace HN2 := Lib.hid (HN2.out.below (on HL.out hb))
  replace HLB := Lib.hid (HLB.out.below (on HL.out hb))
  clear hb HL HN
  go_wp2_with fail
  have HL := Lib.hid (lit_below x1 (.cells #[.int .u64 2, .int .u64 2] 25))
  have HN := Lib.hid (show Nums (x1.alloc (.cells #[.int .u64 2, .int .u64 2] 25)) (some ⟨x1.heap.size, 0, none⟩) [2, 2] from nums_lit x1 [2, 2] (by decide))
  refine (same_nums (some ⟨Bh, 0, none⟩) 2 2 _ 2 2 [2, 2] [2, 2] rfl rfl (by decide) (by decide) _ (HN2.out.below HL.out) HN.out).mono ?_
  rintro e x2 ⟨rfl, hb⟩
  replace HBx := Lib.hid (on HBx.out (on HL.out hb))
  replace HS := Lib.hid (HS.out.below (on HL.out hb))
  replace HN1 := Lib.hid (HN1.out.below (on HL.out hb))
  replace HN2 := Lib.hid (HN2.out.below (on HL.out hb))
  replace HLB := Lib.hid (HLB.out.below (on HL.out hb))
  clear hb HL HN
  go_wp2_with fail
  have HL := Lib.hid (lit_below x2 (.cells #[.int .u64 0, .int .u64 1] 25))
  have HN := Lib.hid (show Nums (x2.alloc (.cells #[.int .u64 0, .int .u64 1] 25)) (some ⟨x2.heap.size, 0, none⟩) [0, 1] from nums_lit x2 [0, 1] (by decide))
  refine (hold_any v (latS [7, 6, 4]) _ 2 2 [0, 1] rfl (by decide) _ 1 1 [⟨true, 0, true, 1⟩] rfl (by decide) _ (HS.out.below HL.out).n HN.out (HLB.out.below HL.out)).mono ?_
  rintro e x3 ⟨rfl, hb⟩
  replace HBx := Lib.hid (on HBx.out (on HL.out hb))
  replace HS := Lib.hid (HS.out.below (on HL.out hb))
  replace HN1 := Lib.hid (HN1.out.below (on HL.out hb))
  replace HN2 := Lib.hid (HN2.out.below (on HL.out hb))
  replace HLB := Lib.hid (HLB.out.below (on HL.out hb))
  clear hb HL HN
  go_wp2_with fail
  have HL := Lib.hid (lit_below x3 (.cells #[.int .u64 1, .int .u64 0] 25))
  have HN := Lib.hid (show Nums (x3.alloc (.cells #[.int .u64 1, .int .u64 0] 25)) (some ⟨x3.heap.size, 0, none⟩) [1, 0] from nums_lit x3 [1, 0] (by decide))
  refine (hold_any v (latS [7, 6, 4]) _ 2 2 [1, 0] rfl (by decide) _ 1 1 [⟨true, 0, true, 1⟩] rfl (by decide) _ (HS.out.below HL.out).n HN.out (HLB.out.below HL.out)).mono ?_
  rintro e x4 ⟨rfl, hb⟩
  replace HBx := Lib.hid (on HBx.out (on HL.out hb))
  replace HS := Lib.hid (HS.out.below (on HL.out hb))
  replace HN1 := Lib.hid (HN1.out.below (on HL.out hb))
  replace HN2 := Lib.hid (HN2.out.below (on HL.out hb))
  replace HLB := Lib.hid (HLB.out.below (on HL.out hb))
  clear hb HL HN
  go_wp2_with fail
  have HL := Lib.hid (lit_below x4 (.cells #[.int .u64 0] 25))
  have HN := Lib.hid (show Nums (x4.alloc (.cells #[.int .u64 0] 25)) (some ⟨x4.heap.size, 0, none⟩) [0] from nums_lit x4 [0] (by decide))
  refine (hold_any v (latS [7, 6, 4]) _ 1 1 [0] rfl (by decide) _ 1 1 [⟨true, 0, true, 1⟩] rfl (by decide) _ (HS.out.below HL.out).n HN.out (HLB.out.below HL.out)).mono ?_
  rintro e x5 ⟨rfl, hb⟩
  replace HBx := Lib.hid (on HBx.out (on HL.out hb))
  replace HS := Lib.hid (HS.out.below (on HL.out hb))
  replace HN1 := Lib.hid (HN1.out.below (on HL.out hb))
  replace HN2 := Lib.hid (HN2.out.below (on HL.out hb))
  replace HLB := Lib.hid (HLB.out.below (on HL.out hb))
  clear hb HL HN
  go_wp2_with fail
  go_ret
  exact ⟨rfl, HBx.out⟩
end Go.Proofs.YtappaokjlnpbnaaDoor
