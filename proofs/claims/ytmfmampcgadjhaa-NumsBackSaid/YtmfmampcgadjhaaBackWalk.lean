/- What is put is got, whatever stands behind it: the law's walk. -/
import Derived.Test.YtmfmampcgadjhaaBackOne
namespace Go.Proofs.Ytmfmampcgadjhaa
open Go.RowKit Go.Proofs.YtmfmampcgadjhaaW.PrintWords
theorem two_cells {w w' : World} {a b : Addr} {u v : Value} (h : w.cell? a = some u ∧ w.cell? b = some v) (hb : Below w.heap.size w w') : w'.cell? a = some u ∧ w'.cell? b = some v :=
  ⟨(hb.cell (World.block_lt_of_cell? w a h.1)).trans h.1, (hb.cell (World.block_lt_of_cell? w b h.2)).trans h.2⟩
set_option maxRecDepth 20000 in
set_option maxHeartbeats 16000000 in
theorem back_ok (x : Nat) (hx : x < 18446744073709551616) (l : List UInt8) (hl : l.length ≤ 20000) (A1 A2 : Option Addr) (n1 c1 n2 c2 : Nat) (ah be : List UInt8) (hn1 : n1 = ah.length) (hn2 : n2 = be.length) (h1 : n1 ≤ 20000) (h2 : n2 ≤ 20000) (w : World) (hI1 : Bytes w w.heap.size A1 ah) (hI2 : Bytes w w.heap.size A2 be) :
    Calls Try.prog 4 #[.int .u64 (x : Int), .string ⟨l.toArray⟩, .agg #[.slice A1 n1 c1, .slice A2 n2 c2]] w fun e w' => e = .returned (.bool true) ∧ Below w.heap.size w w' := by
  have hbox := heap_alloc_new w (.cells #[.slice A1 n1 c1, .slice A2 n2 c2] 36)
  have hba : Below w.heap.size w (w.alloc (.cells #[.slice A1 n1 c1, .slice A2 n2 c2] 36)) := (Below.refl _ w).alloc (Nat.le_refl _) _
  obtain ⟨B, hB⟩ : ∃ B, B = w.heap.size := ⟨_, rfl⟩
  have HC : Hid ((w.alloc (.cells #[.slice A1 n1 c1, .slice A2 n2 c2] 36)).cell? ⟨B, 0, none⟩ = some (.slice A1 n1 c1) ∧ (w.alloc (.cells #[.slice A1 n1 c1, .slice A2 n2 c2] 36)).cell? ⟨B, 1, none⟩ = some (.slice A2 n2 c2)) := Lib.hid (by
    rw [hB, cell_of_row _ _ _ _ _ _ hbox, cell_of_row _ _ _ _ _ _ hbox]
    exact ⟨rfl, rfl⟩)
  have HB := Lib.hid hba
  have HI1 := Lib.hid (hI1.later hba)
  have HI2 := Lib.hid (hI2.later hba)
  have HN1 := Lib.hid hn1
  have HN2 := Lib.hid hn2
  clear hbox hba hI1 hI2 hn1 hn2
  obtain ⟨y, hy⟩ : ∃ y, y = x % 4294967296 := ⟨_, rfl⟩
  have hyx : (x : Int) % 4294967296 = (y : Int) := by omega
  have hyl : y < 4294967296 := by omega
  obtain ⟨p, hp⟩ : ∃ p, p = (num x).length := ⟨_, rfl⟩
  obtain ⟨pt, hpt⟩ : ∃ pt, pt = (num l.length ++ l).length := ⟨_, rfl⟩
  have hp1 : 1 ≤ p := by rw [hp]; exact num_pos' x
  have hp10 : p ≤ 10 := by rw [hp]; exact num_le x hx
  have hq1 := num_pos' l.length
  have hq10 := num_le l.length (by omega)
  have hpt1 : 1 ≤ pt := by rw [hpt, List.length_append]; omega
  have hpt2 : pt ≤ 20010 := by rw [hpt, List.length_append]; omega
  have HD8L := Lib.hid hp
  have HD9L := Lib.hid (show 4 = (four4 y).length from rfl)
  have HD10L := Lib.hid hpt
  have HD8 := Lib.hid (show (ah ++ num x).drop n1 = num x by rw [HN1.out, List.drop_left])
  have HD9 := Lib.hid (show (ah ++ four4 y).drop n1 = four4 y by rw [HN1.out, List.drop_left])
  have HD10 := Lib.hid (show (ah ++ (num l.length ++ l)).drop n1 = num l.length ++ l by rw [HN1.out, List.drop_left])
  have HT8 := Lib.hid (show (ah ++ num x).take n1 = ah by rw [HN1.out, List.take_left])
  have HT9 := Lib.hid (show (ah ++ four4 y).take n1 = ah by rw [HN1.out, List.take_left])
  have HT10 := Lib.hid (show (ah ++ (num l.length ++ l)).take n1 = ah by rw [HN1.out, List.take_left])
  have HG8 := Lib.hid (show get (num x ++ be) = (x, p, 0) by rw [hp]; exact get_num x hx be)
  have HG9 := Lib.hid (four_put y hyl be)
  have HG10 := Lib.hid (show text (num l.length ++ l ++ be) = (l, pt, 0) by rw [hpt, List.length_append]; exact text_put l be (by omega))
  have HU8 := Lib.hid (show get ((num x).take (p - 1)) = (0, 0, 5) from get_cut x (p - 1) hx (by omega))
  have HU10 := Lib.hid (show text ((num l.length ++ l).take (pt - 1)) = ([], 0, 5) by rw [hpt, List.length_append]; exact text_cut l (by omega))
  have g1 : decide (20000 < (l.length : Int)) = false := by simp; omega
  have g2 : decide (20000 < (n1 : Int)) = false := by simp; omega
  have g3 : decide (20000 < (n2 : Int)) = false := by simp; omega
  clear hy hp hpt hq1 hq10
  go_enter Try.func4, Try.ntmps4
  go_wp2_with fail
  rw [← hB]
  generalize (w.alloc (.cells #[.slice A1 n1 c1, .slice A2 n2 c2] 36)) = wa at *
  have HBB := Lib.hid hB
  clear hB
  refine (alive_any _).mono ?_
  rintro e w1 ⟨rfl, hb⟩
  replace HB := Lib.hid (on HB.out hb)
  replace HI1 := Lib.hid (HI1.out.later hb)
  replace HI2 := Lib.hid (HI2.out.later hb)
  replace HC := Lib.hid (two_cells HC.out hb)
  clear hb
  obtain ⟨q0, q1⟩ := HC.out
  go_wp2_with fail
  clear q0 q1
  refine (num_any A1 n1 c1 ah HN1.out (by omega) x hx _ HI1.out).mono ?_
  rintro e w2 ⟨⟨v, rfl, hr⟩, hb⟩
  replace HB := Lib.hid (on HB.out hb)
  replace HI1 := Lib.hid (HI1.out.later hb)
  replace HI2 := Lib.hid (HI2.out.later hb)
  replace HC := Lib.hid (two_cells HC.out hb)
  obtain ⟨A8, c8, rfl, hle8, hJ⟩ := hr.bytes
  have hl8 : (ah ++ num x).length = n1 + p := by rw [List.length_append, ← HN1.out, ← HD8L.out]
  rw [hl8] at hle8 ⊢
  obtain ⟨b8, o8, e8, _⟩ := hJ.2 (by rw [hl8]; have := HD8L.out; omega)
  subst e8
  have HJ8 := Lib.hid hJ
  have HLE8 := Lib.hid hle8
  clear hr hb hJ hl8 hle8
  skip
  obtain ⟨q0, q1⟩ := HC.out
  go_wp2_with fail
  clear q0 q1
  refine (four4_any A1 n1 c1 ah HN1.out (by omega) y hyl _ HI1.out).mono ?_
  rintro e w3 ⟨⟨v, rfl, hr⟩, hb⟩
  replace HB := Lib.hid (on HB.out hb)
  replace HI1 := Lib.hid (HI1.out.later hb)
  replace HI2 := Lib.hid (HI2.out.later hb)
  replace HC := Lib.hid (two_cells HC.out hb)
  replace HJ8 := Lib.hid (HJ8.out.later hb)
  obtain ⟨A9, c9, rfl, hle9, hJ⟩ := hr.bytes
  have hl9 : (ah ++ four4 y).length = n1 + 4 := by rw [List.length_append, ← HN1.out, ← HD9L.out]
  rw [hl9] at hle9 ⊢
  obtain ⟨b9, o9, e9, _⟩ := hJ.2 (by rw [hl9]; have := HD9L.out; omega)
  subst e9
  have HJ9 := Lib.hid hJ
  have HLE9 := Lib.hid hle9
  clear hr hb hJ hl9 hle9
  skip
  obtain ⟨q0, q1⟩ := HC.out
  go_wp2_with fail
  clear q0 q1
  refine (ptext_any A1 n1 c1 ah HN1.out (by omega) l (by omega) _ HI1.out).mono ?_
  rintro e w4 ⟨⟨v, rfl, hr⟩, hb⟩
  replace HB := Lib.hid (on HB.out hb)
  replace HI1 := Lib.hid (HI1.out.later hb)
  replace HI2 := Lib.hid (HI2.out.later hb)
  replace HC := Lib.hid (two_cells HC.out hb)
  replace HJ8 := Lib.hid (HJ8.out.later hb)
  replace HJ9 := Lib.hid (HJ9.out.later hb)
  rw [List.append_assoc] at hr
  obtain ⟨A10, c10, rfl, hle10, hJ⟩ := hr.bytes
  have hl10 : (ah ++ (num l.length ++ l)).length = n1 + pt := by rw [List.length_append, ← HN1.out, ← HD10L.out]
  rw [hl10] at hle10 ⊢
  obtain ⟨b10, o10, e10, _⟩ := hJ.2 (by rw [hl10]; have := HD10L.out; omega)
  subst e10
  have HJ10 := Lib.hid hJ
  have HLE10 := Lib.hid hle10
  clear hr hb hJ hl10 hle10
  skip
  generalize w4 = ws at *
  have z1 : ¬ c8 < n1 := by have := HLE8.out; omega
  have z2 : ¬ c9 < n1 := by have := HLE9.out; omega
  have z3 : ¬ c10 < n1 := by have := HLE10.out; omega
  have z4 : ¬ c8 = n1 := by have := HLE8.out; omega
  have z5 : ¬ c9 = n1 := by have := HLE9.out; omega
  have z6 : ¬ c10 = n1 := by have := HLE10.out; omega
  have z7 : ¬ p = 0 := by omega
  have z8 : ¬ pt = 0 := by omega
  have z9 : n1 ≤ n1 + p := by omega
  have y1 : n1 ≤ n1 + pt := by omega
  have y2 : decide (((n1 + p : Nat) : Int) ≤ (n1 : Int)) = false := by simp; omega
  have y3 : decide (((n1 + pt : Nat) : Int) ≤ (n1 : Int)) = false := by simp; omega
  have y4 : decide (n1 + p ≤ n1) = false := by simp; omega
  have y5 : decide (n1 + pt ≤ n1) = false := by simp; omega
  have x1 : (n1 : Int) < (n1 : Int) + (p : Int) := by omega
  have x2 : (n1 : Int) < (n1 : Int) + (pt : Int) := by omega
  have x3 : IntKind.i64.wrap ((n1 : Int) + 4) = (n1 : Int) + 4 := by rw [IntKind.wrap_i64]; omega
  have x4 : ¬ ((n1 : Int) + (p : Int) < (n1 : Int)) := by omega
  have x5 : ¬ ((n1 : Int) + 4 < (n1 : Int)) := by omega
  have x6 : ¬ ((n1 : Int) + (pt : Int) < (n1 : Int)) := by omega
  obtain ⟨q0, q1⟩ := HC.out
  go_wp2
  refine wp_region_held (S := fun W => Below ws.heap.size ws W) (by kernel_rfl) ?_
  generalize hA0 : Act.mk _ _ = a0
  have hF := Fr.nil (n := 212) (a := a0) (by rw [← hA0]; rfl)
  replace hF := Fr.cons hF 10 (.slice (some ⟨b10, o10, none⟩) (n1 + pt) c10) (by rw [← hA0]; rfl)
  replace hF := Fr.cons hF 9 (.slice (some ⟨b9, o9, none⟩) (n1 + 4) c9) (by rw [← hA0]; rfl)
  replace hF := Fr.cons hF 8 (.slice (some ⟨b8, o8, none⟩) (n1 + p) c8) (by rw [← hA0]; rfl)
  replace hF := Fr.cons hF 7 (.int .i64 n1) (by rw [← hA0]; rfl)
  replace hF := Fr.cons hF 5 (.pointer (some ⟨B, 0, none⟩)) (by rw [← hA0]; rfl)
  have hS : Below ws.heap.size ws ws.drew := (Below.refl _ ws).drew
  change wpAnyH _ _ _ _ _ _ _ _ (World.drew _)
  refine tk (i := 0) (d := 61) (v := .slice (some ⟨b8, o8, none⟩) (n1 + p) c8) hF rfl rfl (by kernel_rfl) (by kernel_rfl) (by kernel_rfl) (fun _ _ _ h => h) (yi_go rfl (fun W hW => ex_move W rfl (fr_at hF 2 rfl))) hS rfl (by decide) (fun a1 hA1 hF' => ?_)
  replace hF := hF'; clear hF'
  refine tk (i := 1) (d := 62) (v := .int .i64 ((n1 + p : Nat) : Int)) hF rfl rfl (by kernel_rfl) (by kernel_rfl) (by kernel_rfl) (fun _ _ _ h => h) (yi_go rfl (fun W hW => by have f61 := fr_at hF 0 rfl; go_simp)) hS rfl (by decide) (fun a2 hA2 hF' => ?_)
  replace hF := hF'; clear hF'
  refine tk (i := 2) (d := 63) (v := .int .i64 n1) hF rfl rfl (by kernel_rfl) (by kernel_rfl) (by kernel_rfl) (fun _ _ _ h => h) (yi_go rfl (fun W hW => ex_move W rfl (fr_at hF 3 rfl))) hS rfl (by decide) (fun a3 hA3 hF' => ?_)
  replace hF := hF'; clear hF'
  refine tk (i := 3) (d := 64) (v := .bool false) hF rfl rfl (by kernel_rfl) (by kernel_rfl) (by kernel_rfl) (fun _ _ _ h => h) (yi_go rfl (fun W hW => by have f62 := fr_at hF 1 rfl; have f63 := fr_at hF 0 rfl; go_simp)) hS rfl (by decide) (fun a4 hA4 hF' => ?_)
  replace hF := hF'; clear hF'
  refine tk (i := 4) (d := 65) (v := .bool false) hF rfl rfl (by kernel_rfl) (by kernel_rfl) (by kernel_rfl) (fun _ _ _ h => h) (yi_go rfl (fun W hW => ex_move W rfl (fr_at hF 0 rfl))) hS rfl (by decide) (fun a5 hA5 hF' => ?_)
  replace hF := hF'; clear hF'
  refine tk (i := 5) (d := 66) (v := .slice (some ⟨b9, o9, none⟩) (n1 + 4) c9) hF rfl rfl (by kernel_rfl) (by kernel_rfl) (by kernel_rfl) (fun _ _ _ h => h) (yi_want rfl rfl (fr_at hF 0 rfl) (fun W hW => ex_move W rfl (fr_at hF 8 rfl))) hS rfl (by decide) (fun a6 hA6 hF' => ?_)
  replace hF := hF'; clear hF'
  refine tk (i := 6) (d := 67) (v := .int .i64 ((n1 + 4 : Nat) : Int)) hF rfl rfl (by kernel_rfl) (by kernel_rfl) (by kernel_rfl) (fun _ _ _ h => h) (yi_want rfl rfl (fr_at hF 1 rfl) (fun W hW => by have f66 := fr_at hF 0 rfl; go_simp)) hS rfl (by decide) (fun a7 hA7 hF' => ?_)
  replace hF := hF'; clear hF'
  refine tk (i := 7) (d := 68) (v := .int .i64 n1) hF rfl rfl (by kernel_rfl) (by kernel_rfl) (by kernel_rfl) (fun _ _ _ h => h) (yi_want rfl rfl (fr_at hF 2 rfl) (fun W hW => ex_move W rfl (fr_at hF 8 rfl))) hS rfl (by decide) (fun a8 hA8 hF' => ?_)
  replace hF := hF'; clear hF'
  refine tk (i := 8) (d := 69) (v := .int .i64 ((n1 + 4 : Nat) : Int)) hF rfl rfl (by kernel_rfl) (by kernel_rfl) (by kernel_rfl) (fun _ _ _ h => h) (yi_want rfl rfl (fr_at hF 3 rfl) (fun W hW => by have f68 := fr_at hF 0 rfl; go_simp)) hS rfl (by decide) (fun a9 hA9 hF' => ?_)
  replace hF := hF'; clear hF'
  refine tk (i := 9) (d := 70) (v := .bool false) hF rfl rfl (by kernel_rfl) (by kernel_rfl) (by kernel_rfl) (fun _ _ _ h => h) (yi_want rfl rfl (fr_at hF 4 rfl) (fun W hW => by have f67 := fr_at hF 2 rfl; have f69 := fr_at hF 0 rfl; go_simp)) hS rfl (by decide) (fun a10 hA10 hF' => ?_)
  replace hF := hF'; clear hF'
  refine tk (i := 10) (d := 71) (v := .bool false) hF rfl rfl (by kernel_rfl) (by kernel_rfl) (by kernel_rfl) (fun _ _ _ h => h) (yi_go rfl (fun W hW => by have f65 := fr_at hF 5 rfl; have f70 := fr_at hF 0 rfl; go_simp)) hS rfl (by decide) (fun a11 hA11 hF' => ?_)
  replace hF := hF'; clear hF'
  refine tk (i := 11) (d := 72) (v := .bool false) hF rfl rfl (by kernel_rfl) (by kernel_rfl) (by kernel_rfl) (fun _ _ _ h => h) (yi_go rfl (fun W hW => ex_move W rfl (fr_at hF 0 rfl))) hS rfl (by decide) (fun a12 hA12 hF' => ?_)
  replace hF := hF'; clear hF'
  refine tk (i := 12) (d := 73) (v := .slice (some ⟨b10, o10, none⟩) (n1 + pt) c10) hF rfl rfl (by kernel_rfl) (by kernel_rfl) (by kernel_rfl) (fun _ _ _ h => h) (yi_want rfl rfl (fr_at hF 0 rfl) (fun W hW => ex_move W rfl (fr_at hF 16 rfl))) hS rfl (by decide) (fun a13 hA13 hF' => ?_)
  replace hF := hF'; clear hF'
  refine tk (i := 13) (d := 74) (v := .int .i64 ((n1 + pt : Nat) : Int)) hF rfl rfl (by kernel_rfl) (by kernel_rfl) (by kernel_rfl) (fun _ _ _ h => h) (yi_want rfl rfl (fr_at hF 1 rfl) (fun W hW => by have f73 := fr_at hF 0 rfl; go_simp)) hS rfl (by decide) (fun a14 hA14 hF' => ?_)
  replace hF := hF'; clear hF'
  refine tk (i := 14) (d := 75) (v := .int .i64 n1) hF rfl rfl (by kernel_rfl) (by kernel_rfl) (by kernel_rfl) (fun _ _ _ h => h) (yi_want rfl rfl (fr_at hF 2 rfl) (fun W hW => ex_move W rfl (fr_at hF 15 rfl))) hS rfl (by decide) (fun a15 hA15 hF' => ?_)
  replace hF := hF'; clear hF'
  refine tk (i := 15) (d := 76) (v := .bool false) hF rfl rfl (by kernel_rfl) (by kernel_rfl) (by kernel_rfl) (fun _ _ _ h => h) (yi_want rfl rfl (fr_at hF 3 rfl) (fun W hW => by have f74 := fr_at hF 1 rfl; have f75 := fr_at hF 0 rfl; go_simp)) hS rfl (by decide) (fun a16 hA16 hF' => ?_)
  replace hF := hF'; clear hF'
  refine tk (i := 16) (d := 77) (v := .bool false) hF rfl rfl (by kernel_rfl) (by kernel_rfl) (by kernel_rfl) (fun _ _ _ h => h) (yi_go rfl (fun W hW => by have f72 := fr_at hF 4 rfl; have f76 := fr_at hF 0 rfl; go_simp)) hS rfl (by decide) (fun a17 hA17 hF' => ?_)
  replace hF := hF'; clear hF'
  refine tk (i := 17) (d := 78) (v := .bool false) hF rfl rfl (by kernel_rfl) (by kernel_rfl) (by kernel_rfl) (fun _ _ _ h => h) (yi_go rfl (fun W hW => ex_move W rfl (fr_at hF 0 rfl))) hS rfl (by decide) (fun a18 hA18 hF' => ?_)
  replace hF := hF'; clear hF'
  refine tk (i := 18) (d := 79) (v := .slice (some ⟨b8, o8, none⟩) (n1 + p) c8) hF rfl rfl (by kernel_rfl) (by kernel_rfl) (by kernel_rfl) (fun _ _ _ h => h) (yi_want rfl rfl (fr_at hF 0 rfl) (fun W hW => ex_move W rfl (fr_at hF 20 rfl))) hS rfl (by decide) (fun a19 hA19 hF' => ?_)
  replace hF := hF'; clear hF'
  refine tk (i := 19) (d := 80) (v := .int .i64 n1) hF rfl rfl (by kernel_rfl) (by kernel_rfl) (by kernel_rfl) (fun _ _ _ h => h) (yi_want rfl rfl (fr_at hF 1 rfl) (fun W hW => ex_move W rfl (fr_at hF 20 rfl))) hS rfl (by decide) (fun a20 hA20 hF' => ?_)
  replace hF := hF'; clear hF'
  refine tk (i := 20) (d := 81) (v := .slice (some ⟨b8, o8, none⟩) n1 c8) hF rfl rfl (by kernel_rfl) (by kernel_rfl) (by kernel_rfl) (fun _ _ _ h => h) (yi_want rfl rfl (fr_at hF 2 rfl) (fun W hW => by have f79 := fr_at hF 1 rfl; have f80 := fr_at hF 0 rfl; go_simp)) hS rfl (by decide) (fun a21 hA21 hF' => ?_)
  replace hF := hF'; clear hF'
  refine tk (i := 21) (d := 82) (v := .pointer (some ⟨B, 0, none⟩)) hF rfl rfl (by kernel_rfl) (by kernel_rfl) (by kernel_rfl) (fun _ _ _ h => h) (yi_want rfl rfl (fr_at hF 3 rfl) (fun W hW => by have f5 := fr_at hF 21 rfl; go_simp)) hS rfl (by decide) (fun a22 hA22 hF' => ?_)
  replace hF := hF'; clear hF'
  refine tk (i := 22) (d := 83) (v := .slice A1 n1 c1) hF rfl rfl (by kernel_rfl) (by kernel_rfl) (by kernel_rfl) (fun _ _ _ h => h) (yi_want rfl rfl (fr_at hF 4 rfl) (fun W hW => by replace q0 := (hW.cell (p := ⟨B, 0, none⟩) (World.block_lt_of_cell? _ _ q0)).trans q0; have f82 := fr_at hF 0 rfl; go_simp)) hS rfl (by decide) (fun a23 hA23 hF' => ?_)
  replace hF := hF'; clear hF'
  refine wpAnyH_ready (rs := [23]) (by kernel_rfl) (by simp) ?_
  refine AllReadyH.cons rfl (fun K hK => ?_) AllReadyH.nil
  rw [if_pos (by rw [guard_at rfl rfl (fr_at hF 5 rfl)]; rfl)]
  have f81 := fr_at hF 2 rfl
  have f83 := fr_at hF 0 rfl
  go_simp
  clear f81 f83
  go_at_call 20
  refine (same_any (some ⟨b8, o8, none⟩) n1 c8 A1 c1 ah HN1.out _ (by rw [← HT8.out]; exact (HJ8.out.later hS).take n1) (HI1.out.later hS)).mono ?_
  rintro e wa ⟨rfl, hb⟩
  go_wp2_with fail
  refine hK.out _ _ (on hS hb) (fun _ => ?_)
  replace hS := on hS hb
  clear hK K
  change wpAnyH _ _ _ _ _ _ _ (a23.put (some 84) (.bool true)) _
  have hF' := fr_put hF 84 (.bool true) rfl (by decide)
  generalize hA24 : Act.put a23 (some 84) (.bool true) = a24 at hF' ⊢
  replace hF := hF'; clear hF'
  refine tk (i := 24) (d := 85) (v := .bool false) hF rfl rfl (by kernel_rfl) (by kernel_rfl) (by kernel_rfl) (fun _ _ _ h => h) (yi_want rfl rfl (fr_at hF 6 rfl) (fun W hW => by have f84 := fr_at hF 0 rfl; go_simp)) hS rfl (by decide) (fun a25 hA25 hF' => ?_)
  replace hF := hF'; clear hF'
  refine tk (i := 25) (d := 86) (v := .bool false) hF rfl rfl (by kernel_rfl) (by kernel_rfl) (by kernel_rfl) (fun _ _ _ h => h) (yi_go rfl (fun W hW => by have f78 := fr_at hF 7 rfl; have f85 := fr_at hF 0 rfl; go_simp)) hS rfl (by decide) (fun a26 hA26 hF' => ?_)
  replace hF := hF'; clear hF'
  refine tk (i := 26) (d := 87) (v := .bool false) hF rfl rfl (by kernel_rfl) (by kernel_rfl) (by kernel_rfl) (fun _ _ _ h => h) (yi_go rfl (fun W hW => ex_move W rfl (fr_at hF 0 rfl))) hS rfl (by decide) (fun a27 hA27 hF' => ?_)
  replace hF := hF'; clear hF'
  refine tk (i := 27) (d := 88) (v := .slice (some ⟨b9, o9, none⟩) (n1 + 4) c9) hF rfl rfl (by kernel_rfl) (by kernel_rfl) (by kernel_rfl) (fun _ _ _ h => h) (yi_want rfl rfl (fr_at hF 0 rfl) (fun W hW => ex_move W rfl (fr_at hF 30 rfl))) hS rfl (by decide) (fun a28 hA28 hF' => ?_)
  replace hF := hF'; clear hF'
  refine tk (i := 28) (d := 89) (v := .int .i64 n1) hF rfl rfl (by kernel_rfl) (by kernel_rfl) (by kernel_rfl) (fun _ _ _ h => h) (yi_want rfl rfl (fr_at hF 1 rfl) (fun W hW => ex_move W rfl (fr_at hF 29 rfl))) hS rfl (by decide) (fun a29 hA29 hF' => ?_)
  replace hF := hF'; clear hF'
  refine tk (i := 29) (d := 90) (v := .slice (some ⟨b9, o9, none⟩) n1 c9) hF rfl rfl (by kernel_rfl) (by kernel_rfl) (by kernel_rfl) (fun _ _ _ h => h) (yi_want rfl rfl (fr_at hF 2 rfl) (fun W hW => by have f88 := fr_at hF 1 rfl; have f89 := fr_at hF 0 rfl; go_simp)) hS rfl (by decide) (fun a30 hA30 hF' => ?_)
  replace hF := hF'; clear hF'
  refine tk (i := 30) (d := 91) (v := .pointer (some ⟨B, 0, none⟩)) hF rfl rfl (by kernel_rfl) (by kernel_rfl) (by kernel_rfl) (fun _ _ _ h => h) (yi_want rfl rfl (fr_at hF 3 rfl) (fun W hW => by have f5 := fr_at hF 30 rfl; go_simp)) hS rfl (by decide) (fun a31 hA31 hF' => ?_)
  replace hF := hF'; clear hF'
  refine tk (i := 31) (d := 92) (v := .slice A1 n1 c1) hF rfl rfl (by kernel_rfl) (by kernel_rfl) (by kernel_rfl) (fun _ _ _ h => h) (yi_want rfl rfl (fr_at hF 4 rfl) (fun W hW => by replace q0 := (hW.cell (p := ⟨B, 0, none⟩) (World.block_lt_of_cell? _ _ q0)).trans q0; have f91 := fr_at hF 0 rfl; go_simp)) hS rfl (by decide) (fun a32 hA32 hF' => ?_)
  replace hF := hF'; clear hF'
  refine wpAnyH_ready (rs := [32]) (by kernel_rfl) (by simp) ?_
  refine AllReadyH.cons rfl (fun K hK => ?_) AllReadyH.nil
  rw [if_pos (by rw [guard_at rfl rfl (fr_at hF 5 rfl)]; rfl)]
  have f90 := fr_at hF 2 rfl
  have f92 := fr_at hF 0 rfl
  go_simp
  clear f90 f92
  go_at_call 20
  refine (same_any (some ⟨b9, o9, none⟩) n1 c9 A1 c1 ah HN1.out _ (by rw [← HT9.out]; exact (HJ9.out.later hS).take n1) (HI1.out.later hS)).mono ?_
  rintro e wb ⟨rfl, hb⟩
  go_wp2_with fail
  refine hK.out _ _ (on hS hb) (fun _ => ?_)
  replace hS := on hS hb
  clear hK K
  change wpAnyH _ _ _ _ _ _ _ (a32.put (some 93) (.bool true)) _
  have hF' := fr_put hF 93 (.bool true) rfl (by decide)
  generalize hA33 : Act.put a32 (some 93) (.bool true) = a33 at hF' ⊢
  replace hF := hF'; clear hF'
  refine tk (i := 33) (d := 94) (v := .bool false) hF rfl rfl (by kernel_rfl) (by kernel_rfl) (by kernel_rfl) (fun _ _ _ h => h) (yi_want rfl rfl (fr_at hF 6 rfl) (fun W hW => by have f93 := fr_at hF 0 rfl; go_simp)) hS rfl (by decide) (fun a34 hA34 hF' => ?_)
  replace hF := hF'; clear hF'
  refine tk (i := 34) (d := 95) (v := .bool false) hF rfl rfl (by kernel_rfl) (by kernel_rfl) (by kernel_rfl) (fun _ _ _ h => h) (yi_go rfl (fun W hW => by have f87 := fr_at hF 7 rfl; have f94 := fr_at hF 0 rfl; go_simp)) hS rfl (by decide) (fun a35 hA35 hF' => ?_)
  replace hF := hF'; clear hF'
  refine tk (i := 35) (d := 96) (v := .bool false) hF rfl rfl (by kernel_rfl) (by kernel_rfl) (by kernel_rfl) (fun _ _ _ h => h) (yi_go rfl (fun W hW => ex_move W rfl (fr_at hF 0 rfl))) hS rfl (by decide) (fun a36 hA36 hF' => ?_)
  replace hF := hF'; clear hF'
  refine tk (i := 36) (d := 97) (v := .slice (some ⟨b10, o10, none⟩) (n1 + pt) c10) hF rfl rfl (by kernel_rfl) (by kernel_rfl) (by kernel_rfl) (fun _ _ _ h => h) (yi_want rfl rfl (fr_at hF 0 rfl) (fun W hW => ex_move W rfl (fr_at hF 40 rfl))) hS rfl (by decide) (fun a37 hA37 hF' => ?_)
  replace hF := hF'; clear hF'
  refine tk (i := 37) (d := 98) (v := .int .i64 n1) hF rfl rfl (by kernel_rfl) (by kernel_rfl) (by kernel_rfl) (fun _ _ _ h => h) (yi_want rfl rfl (fr_at hF 1 rfl) (fun W hW => ex_move W rfl (fr_at hF 38 rfl))) hS rfl (by decide) (fun a38 hA38 hF' => ?_)
  replace hF := hF'; clear hF'
  refine tk (i := 38) (d := 99) (v := .slice (some ⟨b10, o10, none⟩) n1 c10) hF rfl rfl (by kernel_rfl) (by kernel_rfl) (by kernel_rfl) (fun _ _ _ h => h) (yi_want rfl rfl (fr_at hF 2 rfl) (fun W hW => by have f97 := fr_at hF 1 rfl; have f98 := fr_at hF 0 rfl; go_simp)) hS rfl (by decide) (fun a39 hA39 hF' => ?_)
  replace hF := hF'; clear hF'
  refine tk (i := 39) (d := 100) (v := .pointer (some ⟨B, 0, none⟩)) hF rfl rfl (by kernel_rfl) (by kernel_rfl) (by kernel_rfl) (fun _ _ _ h => h) (yi_want rfl rfl (fr_at hF 3 rfl) (fun W hW => by have f5 := fr_at hF 39 rfl; go_simp)) hS rfl (by decide) (fun a40 hA40 hF' => ?_)
  replace hF := hF'; clear hF'
  refine tk (i := 40) (d := 101) (v := .slice A1 n1 c1) hF rfl rfl (by kernel_rfl) (by kernel_rfl) (by kernel_rfl) (fun _ _ _ h => h) (yi_want rfl rfl (fr_at hF 4 rfl) (fun W hW => by replace q0 := (hW.cell (p := ⟨B, 0, none⟩) (World.block_lt_of_cell? _ _ q0)).trans q0; have f100 := fr_at hF 0 rfl; go_simp)) hS rfl (by decide) (fun a41 hA41 hF' => ?_)
  replace hF := hF'; clear hF'
  refine wpAnyH_ready (rs := [41]) (by kernel_rfl) (by simp) ?_
  refine AllReadyH.cons rfl (fun K hK => ?_) AllReadyH.nil
  rw [if_pos (by rw [guard_at rfl rfl (fr_at hF 5 rfl)]; rfl)]
  have f99 := fr_at hF 2 rfl
  have f101 := fr_at hF 0 rfl
  go_simp
  clear f99 f101
  go_at_call 20
  refine (same_any (some ⟨b10, o10, none⟩) n1 c10 A1 c1 ah HN1.out _ (by rw [← HT10.out]; exact (HJ10.out.later hS).take n1) (HI1.out.later hS)).mono ?_
  rintro e wc ⟨rfl, hb⟩
  go_wp2_with fail
  refine hK.out _ _ (on hS hb) (fun _ => ?_)
  replace hS := on hS hb
  clear hK K
  change wpAnyH _ _ _ _ _ _ _ (a41.put (some 102) (.bool true)) _
  have hF' := fr_put hF 102 (.bool true) rfl (by decide)
  generalize hA42 : Act.put a41 (some 102) (.bool true) = a42 at hF' ⊢
  replace hF := hF'; clear hF'
  refine tk (i := 42) (d := 103) (v := .bool false) hF rfl rfl (by kernel_rfl) (by kernel_rfl) (by kernel_rfl) (fun _ _ _ h => h) (yi_want rfl rfl (fr_at hF 6 rfl) (fun W hW => by have f102 := fr_at hF 0 rfl; go_simp)) hS rfl (by decide) (fun a43 hA43 hF' => ?_)
  replace hF := hF'; clear hF'
  refine tk (i := 43) (d := 104) (v := .bool false) hF rfl rfl (by kernel_rfl) (by kernel_rfl) (by kernel_rfl) (fun _ _ _ h => h) (yi_go rfl (fun W hW => by have f96 := fr_at hF 7 rfl; have f103 := fr_at hF 0 rfl; go_simp)) hS rfl (by decide) (fun a44 hA44 hF' => ?_)
  replace hF := hF'; clear hF'
  refine wpAnyH_done (by kernel_rfl) ?_ _
  rw [← hA44, ← hA43, ← hA42, ← hA41, ← hA40, ← hA39, ← hA38, ← hA37, ← hA36, ← hA35, ← hA34, ← hA33, ← hA32, ← hA31, ← hA30, ← hA29, ← hA28, ← hA27, ← hA26, ← hA25, ← hA24, ← hA23, ← hA22, ← hA21, ← hA20, ← hA19, ← hA18, ← hA17, ← hA16, ← hA15, ← hA14, ← hA13, ← hA12, ← hA11, ← hA10, ← hA9, ← hA8, ← hA7, ← hA6, ← hA5, ← hA4, ← hA3, ← hA2, ← hA1, ← hA0]
  simp only [Act.put, List.setIfInBounds_toArray, List.set_cons_zero, List.set_cons_succ]
  clear hF
  clear x3
  replace HB := Lib.hid (on HB.out hS)
  replace HI1 := Lib.hid (HI1.out.later hS)
  replace HI2 := Lib.hid (HI2.out.later hS)
  replace HC := Lib.hid (two_cells HC.out hS)
  replace HJ8 := Lib.hid (HJ8.out.later hS)
  replace HJ9 := Lib.hid (HJ9.out.later hS)
  replace HJ10 := Lib.hid (HJ10.out.later hS)
  clear hS q0 q1
  generalize wc = wr1 at *
  obtain ⟨q0, q1⟩ := HC.out
  go_wp2
  refine wp_region_held (S := fun W => Below wr1.heap.size wr1 W) (by kernel_rfl) ?_
  generalize hA0 : Act.mk _ _ = a0
  have hF := Fr.nil (n := 212) (a := a0) (by rw [← hA0]; rfl)
  replace hF := Fr.cons hF 8 (.slice (some ⟨b8, o8, none⟩) (n1 + p) c8) (by rw [← hA0]; rfl)
  replace hF := Fr.cons hF 7 (.int .i64 n1) (by rw [← hA0]; rfl)
  replace hF := Fr.cons hF 5 (.pointer (some ⟨B, 0, none⟩)) (by rw [← hA0]; rfl)
  have hS : Below wr1.heap.size wr1 wr1.drew := (Below.refl _ wr1).drew
  change wpAnyH _ _ _ _ _ _ _ _ (World.drew _)
  refine tk (i := 0) (d := 106) (v := .slice (some ⟨b8, o8, none⟩) (n1 + p) c8) hF rfl rfl (by kernel_rfl) (by kernel_rfl) (by kernel_rfl) (fun _ _ _ h => h) (yi_go rfl (fun W hW => ex_move W rfl (fr_at hF 2 rfl))) hS rfl (by decide) (fun a1 hA1 hF' => ?_)
  replace hF := hF'; clear hF'
  refine tk (i := 1) (d := 107) (v := .int .i64 n1) hF rfl rfl (by kernel_rfl) (by kernel_rfl) (by kernel_rfl) (fun _ _ _ h => h) (yi_go rfl (fun W hW => ex_move W rfl (fr_at hF 2 rfl))) hS rfl (by decide) (fun a2 hA2 hF' => ?_)
  replace hF := hF'; clear hF'
  refine tk (i := 2) (d := 108) (v := .slice (some ⟨b8, o8 + n1, none⟩) p (c8 - n1)) hF rfl rfl (by kernel_rfl) (by kernel_rfl) (by kernel_rfl) (fun _ _ _ h => h) (yi_go rfl (fun W hW => by have f106 := fr_at hF 1 rfl; have f107 := fr_at hF 0 rfl; go_simp)) hS rfl (by decide) (fun a3 hA3 hF' => ?_)
  replace hF := hF'; clear hF'
  refine tk (i := 4) (d := 110) (v := .pointer (some ⟨B, 1, none⟩)) hF rfl rfl (by kernel_rfl) (by kernel_rfl) (by kernel_rfl) (fun _ _ _ h => h) (yi_go rfl (fun W hW => by have f5 := fr_at hF 3 rfl; go_simp)) hS rfl (by decide) (fun a4 hA4 hF' => ?_)
  replace hF := hF'; clear hF'
  refine tk (i := 5) (d := 111) (v := .slice A2 n2 c2) hF rfl rfl (by kernel_rfl) (by kernel_rfl) (by kernel_rfl) (fun _ _ _ h => h) (yi_go rfl (fun W hW => by replace q1 := (hW.cell (p := ⟨B, 1, none⟩) (World.block_lt_of_cell? _ _ q1)).trans q1; have f110 := fr_at hF 0 rfl; go_simp)) hS rfl (by decide) (fun a5 hA5 hF' => ?_)
  replace hF := hF'; clear hF'
  refine wpAnyH_ready (rs := [3]) (by kernel_rfl) (by simp) ?_
  refine AllReadyH.cons rfl (fun K hK => ?_) AllReadyH.nil
  refine step_bytes rfl (.const (.slice none 0 0)) (.tmp 108) rfl rfl (Row.nil wr1.heap.size _) (some ⟨b8, o8 + n1, none⟩) p (c8 - n1) (ev_tmp (fr_at hF 2 rfl)) (ys := num x) HD8L.out (by rw [← HD8.out]; exact (HJ8.out.later hS).drop n1) (by first | (simp; omega) | simp) hS.size ?_
  intro v1 wu1 hr hg
  have hb1 : Below wr1.heap.size wr1 wu1 := hS.grown hg hS.size (fun k hk => by cases hk)
  rw [List.nil_append] at hr
  have hr1 := hr
  clear hr hg
  refine hK.out _ _ hb1 (fun _ => ?_)
  clear hK K
  replace hS := hb1
  clear hb1
  change wpAnyH _ _ _ _ _ _ _ (a5.put (some 109) (v1)) _
  have hF' := fr_put hF 109 (v1) rfl (by decide)
  generalize hA6 : Act.put a5 (some 109) (v1) = a6 at hF' ⊢
  replace hF := hF'; clear hF'
  refine wpAnyH_ready (rs := [6]) (by kernel_rfl) (by simp) ?_
  refine AllReadyH.cons rfl (fun K hK => ?_) AllReadyH.nil
  refine step_bytes rfl (.tmp 109) (.tmp 111) rfl (ev_tmp (fr_at hF 0 rfl)) hr1 A2 n2 c2 (ev_tmp (fr_at hF 1 rfl)) HN2.out (HI2.out.later hS) (by have := HD8L.out; omega) hS.size ?_
  intro v2 wu2 hr hg
  have hb1 : Below wr1.heap.size wr1 wu2 := hS.grown hg hS.size (fun k hk => hr1.lt k hk)
  obtain ⟨A3, c3, rfl, hle3, hJ3⟩ := hr.bytes
  have hl3 : (num x ++ be).length = p + n2 := by rw [List.length_append, ← HD8L.out, ← HN2.out]
  rw [hl3] at hle3 ⊢
  have HJ3 := Lib.hid hJ3
  clear hr hg hr1 hJ3
  refine hK.out _ _ hb1 (fun _ => ?_)
  clear hK K
  replace hS := hb1
  clear hb1
  change wpAnyH _ _ _ _ _ _ _ (a6.put (some 112) (.slice A3 (p + n2) c3)) _
  have hF' := fr_put hF 112 (.slice A3 (p + n2) c3) rfl (by decide)
  generalize hA7 : Act.put a6 (some 112) (.slice A3 (p + n2) c3) = a7 at hF' ⊢
  replace hF := hF'; clear hF'
  refine wpAnyH_ready (rs := [7]) (by kernel_rfl) (by simp) ?_
  refine AllReadyH.cons rfl (fun K hK => ?_) AllReadyH.nil
  have f112 := fr_at hF 0 rfl
  go_simp
  clear f112
  go_at_call 9
  refine (get_any A3 (p + n2) c3 (num x ++ be) hl3.symm _ HJ3.out).mono ?_
  rintro e wa ⟨rfl, rfl⟩
  rw [HG8.out]
  unfold tup
  go_wp2_with fail
  refine hK.out _ _ (hS) (fun _ => ?_)
  replace hS := hS
  clear hK K
  change wpAnyH _ _ _ _ _ _ _ (a7.put (some 113) (.tuple #[.int .u64 (x : Int), .int .i64 (p : Int), .int .i64 0])) _
  have hF' := fr_put hF 113 (.tuple #[.int .u64 (x : Int), .int .i64 (p : Int), .int .i64 0]) rfl (by decide)
  generalize hA8 : Act.put a7 (some 113) (.tuple #[.int .u64 (x : Int), .int .i64 (p : Int), .int .i64 0]) = a8 at hF' ⊢
  replace hF := hF'; clear hF'
  refine tk (i := 8) (d := 105) (v := .tuple #[.int .u64 (x : Int), .int .i64 (p : Int), .int .i64 0]) hF rfl rfl (by kernel_rfl) (by kernel_rfl) (by kernel_rfl) (fun _ _ _ h => h) (yi_go rfl (fun W hW => ex_move W rfl (fr_at hF 0 rfl))) hS rfl (by decide) (fun a9 hA9 hF' => ?_)
  replace hF := hF'; clear hF'
  refine tk (i := 9) (d := 114) (v := .int .u64 (x : Int)) hF rfl rfl (by kernel_rfl) (by kernel_rfl) (by kernel_rfl) (fun _ _ _ h => h) (yi_go rfl (fun W hW => by have f105 := fr_at hF 0 rfl; go_simp)) hS rfl (by decide) (fun a10 hA10 hF' => ?_)
  replace hF := hF'; clear hF'
  refine tk (i := 10) (d := 115) (v := .int .i64 (p : Int)) hF rfl rfl (by kernel_rfl) (by kernel_rfl) (by kernel_rfl) (fun _ _ _ h => h) (yi_go rfl (fun W hW => by have f105 := fr_at hF 1 rfl; go_simp)) hS rfl (by decide) (fun a11 hA11 hF' => ?_)
  replace hF := hF'; clear hF'
  refine tk (i := 11) (d := 116) (v := .int .i64 0) hF rfl rfl (by kernel_rfl) (by kernel_rfl) (by kernel_rfl) (fun _ _ _ h => h) (yi_go rfl (fun W hW => by have f105 := fr_at hF 2 rfl; go_simp)) hS rfl (by decide) (fun a12 hA12 hF' => ?_)
  replace hF := hF'; clear hF'
  refine tk (i := 12) (d := 11) (v := .int .u64 (x : Int)) hF rfl rfl (by kernel_rfl) (by kernel_rfl) (by kernel_rfl) (fun _ _ _ h => h) (yi_go rfl (fun W hW => ex_assign W rfl (fr_at hF 2 rfl))) hS rfl (by decide) (fun a13 hA13 hF' => ?_)
  replace hF := hF'; clear hF'
  refine tk (i := 13) (d := 12) (v := .int .i64 (p : Int)) hF rfl rfl (by kernel_rfl) (by kernel_rfl) (by kernel_rfl) (fun _ _ _ h => h) (yi_go rfl (fun W hW => ex_assign W rfl (fr_at hF 2 rfl))) hS rfl (by decide) (fun a14 hA14 hF' => ?_)
  replace hF := hF'; clear hF'
  refine tk (i := 14) (d := 13) (v := .int .i64 0) hF rfl rfl (by kernel_rfl) (by kernel_rfl) (by kernel_rfl) (fun _ _ _ h => h) (yi_go rfl (fun W hW => ex_assign W rfl (fr_at hF 2 rfl))) hS rfl (by decide) (fun a15 hA15 hF' => ?_)
  replace hF := hF'; clear hF'
  refine wpAnyH_done (by kernel_rfl) ?_ _
  rw [← hA15, ← hA14, ← hA13, ← hA12, ← hA11, ← hA10, ← hA9, ← hA8, ← hA7, ← hA6, ← hA5, ← hA4, ← hA3, ← hA2, ← hA1, ← hA0]
  simp only [Act.put, List.setIfInBounds_toArray, List.set_cons_zero, List.set_cons_succ]
  clear hF hl3 hle3 HJ3
  replace HB := Lib.hid (on HB.out hS)
  replace HI1 := Lib.hid (HI1.out.later hS)
  replace HI2 := Lib.hid (HI2.out.later hS)
  replace HC := Lib.hid (two_cells HC.out hS)
  replace HJ8 := Lib.hid (HJ8.out.later hS)
  replace HJ9 := Lib.hid (HJ9.out.later hS)
  replace HJ10 := Lib.hid (HJ10.out.later hS)
  clear hS q0 q1
  generalize wu2 = wr2 at *
  obtain ⟨q0, q1⟩ := HC.out
  go_wp2
  refine wp_region_held (S := fun W => Below wr2.heap.size wr2 W) (by kernel_rfl) ?_
  generalize hA0 : Act.mk _ _ = a0
  have hF := Fr.nil (n := 212) (a := a0) (by rw [← hA0]; rfl)
  replace hF := Fr.cons hF 9 (.slice (some ⟨b9, o9, none⟩) (n1 + 4) c9) (by rw [← hA0]; rfl)
  replace hF := Fr.cons hF 7 (.int .i64 n1) (by rw [← hA0]; rfl)
  replace hF := Fr.cons hF 5 (.pointer (some ⟨B, 0, none⟩)) (by rw [← hA0]; rfl)
  have hS : Below wr2.heap.size wr2 wr2.drew := (Below.refl _ wr2).drew
  change wpAnyH _ _ _ _ _ _ _ _ (World.drew _)
  refine tk (i := 0) (d := 118) (v := .slice (some ⟨b9, o9, none⟩) (n1 + 4) c9) hF rfl rfl (by kernel_rfl) (by kernel_rfl) (by kernel_rfl) (fun _ _ _ h => h) (yi_go rfl (fun W hW => ex_move W rfl (fr_at hF 2 rfl))) hS rfl (by decide) (fun a1 hA1 hF' => ?_)
  replace hF := hF'; clear hF'
  refine tk (i := 1) (d := 119) (v := .int .i64 n1) hF rfl rfl (by kernel_rfl) (by kernel_rfl) (by kernel_rfl) (fun _ _ _ h => h) (yi_go rfl (fun W hW => ex_move W rfl (fr_at hF 2 rfl))) hS rfl (by decide) (fun a2 hA2 hF' => ?_)
  replace hF := hF'; clear hF'
  refine tk (i := 2) (d := 120) (v := .slice (some ⟨b9, o9 + n1, none⟩) 4 (c9 - n1)) hF rfl rfl (by kernel_rfl) (by kernel_rfl) (by kernel_rfl) (fun _ _ _ h => h) (yi_go rfl (fun W hW => by have f118 := fr_at hF 1 rfl; have f119 := fr_at hF 0 rfl; go_simp)) hS rfl (by decide) (fun a3 hA3 hF' => ?_)
  replace hF := hF'; clear hF'
  refine tk (i := 4) (d := 122) (v := .pointer (some ⟨B, 1, none⟩)) hF rfl rfl (by kernel_rfl) (by kernel_rfl) (by kernel_rfl) (fun _ _ _ h => h) (yi_go rfl (fun W hW => by have f5 := fr_at hF 3 rfl; go_simp)) hS rfl (by decide) (fun a4 hA4 hF' => ?_)
  replace hF := hF'; clear hF'
  refine tk (i := 5) (d := 123) (v := .slice A2 n2 c2) hF rfl rfl (by kernel_rfl) (by kernel_rfl) (by kernel_rfl) (fun _ _ _ h => h) (yi_go rfl (fun W hW => by replace q1 := (hW.cell (p := ⟨B, 1, none⟩) (World.block_lt_of_cell? _ _ q1)).trans q1; have f122 := fr_at hF 0 rfl; go_simp)) hS rfl (by decide) (fun a5 hA5 hF' => ?_)
  replace hF := hF'; clear hF'
  refine wpAnyH_ready (rs := [3]) (by kernel_rfl) (by simp) ?_
  refine AllReadyH.cons rfl (fun K hK => ?_) AllReadyH.nil
  refine step_bytes rfl (.const (.slice none 0 0)) (.tmp 120) rfl rfl (Row.nil wr2.heap.size _) (some ⟨b9, o9 + n1, none⟩) 4 (c9 - n1) (ev_tmp (fr_at hF 2 rfl)) (ys := four4 y) HD9L.out (by rw [← HD9.out]; exact (HJ9.out.later hS).drop n1) (by first | (simp; omega) | simp) hS.size ?_
  intro v1 wu3 hr hg
  have hb1 : Below wr2.heap.size wr2 wu3 := hS.grown hg hS.size (fun k hk => by cases hk)
  rw [List.nil_append] at hr
  have hr1 := hr
  clear hr hg
  refine hK.out _ _ hb1 (fun _ => ?_)
  clear hK K
  replace hS := hb1
  clear hb1
  change wpAnyH _ _ _ _ _ _ _ (a5.put (some 121) (v1)) _
  have hF' := fr_put hF 121 (v1) rfl (by decide)
  generalize hA6 : Act.put a5 (some 121) (v1) = a6 at hF' ⊢
  replace hF := hF'; clear hF'
  refine wpAnyH_ready (rs := [6]) (by kernel_rfl) (by simp) ?_
  refine AllReadyH.cons rfl (fun K hK => ?_) AllReadyH.nil
  refine step_bytes rfl (.tmp 121) (.tmp 123) rfl (ev_tmp (fr_at hF 0 rfl)) hr1 A2 n2 c2 (ev_tmp (fr_at hF 1 rfl)) HN2.out (HI2.out.later hS) (by have := HD9L.out; omega) hS.size ?_
  intro v2 wu4 hr hg
  have hb1 : Below wr2.heap.size wr2 wu4 := hS.grown hg hS.size (fun k hk => hr1.lt k hk)
  obtain ⟨A3, c3, rfl, hle3, hJ3⟩ := hr.bytes
  have hl3 : (four4 y ++ be).length = 4 + n2 := by rw [List.length_append, ← HD9L.out, ← HN2.out]
  rw [hl3] at hle3 ⊢
  have HJ3 := Lib.hid hJ3
  clear hr hg hr1 hJ3
  refine hK.out _ _ hb1 (fun _ => ?_)
  clear hK K
  replace hS := hb1
  clear hb1
  change wpAnyH _ _ _ _ _ _ _ (a6.put (some 124) (.slice A3 (4 + n2) c3)) _
  have hF' := fr_put hF 124 (.slice A3 (4 + n2) c3) rfl (by decide)
  generalize hA7 : Act.put a6 (some 124) (.slice A3 (4 + n2) c3) = a7 at hF' ⊢
  replace hF := hF'; clear hF'
  refine wpAnyH_ready (rs := [7]) (by kernel_rfl) (by simp) ?_
  refine AllReadyH.cons rfl (fun K hK => ?_) AllReadyH.nil
  have f124 := fr_at hF 0 rfl
  go_simp
  clear f124
  go_at_call 11
  refine (four_any A3 (4 + n2) c3 (four4 y ++ be) hl3.symm hle3 _ HJ3.out).mono ?_
  rintro e wa ⟨rfl, hb⟩
  rw [HG9.out]
  unfold tup2
  go_wp2_with fail
  refine hK.out _ _ (on hS hb) (fun _ => ?_)
  replace hS := on hS hb
  clear hK K
  change wpAnyH _ _ _ _ _ _ _ (a7.put (some 125) (.tuple #[.int .u32 (y : Int), .int .i64 0])) _
  have hF' := fr_put hF 125 (.tuple #[.int .u32 (y : Int), .int .i64 0]) rfl (by decide)
  generalize hA8 : Act.put a7 (some 125) (.tuple #[.int .u32 (y : Int), .int .i64 0]) = a8 at hF' ⊢
  replace hF := hF'; clear hF'
  refine tk (i := 8) (d := 117) (v := .tuple #[.int .u32 (y : Int), .int .i64 0]) hF rfl rfl (by kernel_rfl) (by kernel_rfl) (by kernel_rfl) (fun _ _ _ h => h) (yi_go rfl (fun W hW => ex_move W rfl (fr_at hF 0 rfl))) hS rfl (by decide) (fun a9 hA9 hF' => ?_)
  replace hF := hF'; clear hF'
  refine tk (i := 9) (d := 126) (v := .int .u32 (y : Int)) hF rfl rfl (by kernel_rfl) (by kernel_rfl) (by kernel_rfl) (fun _ _ _ h => h) (yi_go rfl (fun W hW => by have f117 := fr_at hF 0 rfl; go_simp)) hS rfl (by decide) (fun a10 hA10 hF' => ?_)
  replace hF := hF'; clear hF'
  refine tk (i := 10) (d := 127) (v := .int .i64 0) hF rfl rfl (by kernel_rfl) (by kernel_rfl) (by kernel_rfl) (fun _ _ _ h => h) (yi_go rfl (fun W hW => by have f117 := fr_at hF 1 rfl; go_simp)) hS rfl (by decide) (fun a11 hA11 hF' => ?_)
  replace hF := hF'; clear hF'
  refine tk (i := 11) (d := 14) (v := .int .u32 (y : Int)) hF rfl rfl (by kernel_rfl) (by kernel_rfl) (by kernel_rfl) (fun _ _ _ h => h) (yi_go rfl (fun W hW => ex_assign W rfl (fr_at hF 1 rfl))) hS rfl (by decide) (fun a12 hA12 hF' => ?_)
  replace hF := hF'; clear hF'
  refine tk (i := 12) (d := 15) (v := .int .i64 0) hF rfl rfl (by kernel_rfl) (by kernel_rfl) (by kernel_rfl) (fun _ _ _ h => h) (yi_go rfl (fun W hW => ex_assign W rfl (fr_at hF 1 rfl))) hS rfl (by decide) (fun a13 hA13 hF' => ?_)
  replace hF := hF'; clear hF'
  refine wpAnyH_done (by kernel_rfl) ?_ _
  rw [← hA13, ← hA12, ← hA11, ← hA10, ← hA9, ← hA8, ← hA7, ← hA6, ← hA5, ← hA4, ← hA3, ← hA2, ← hA1, ← hA0]
  simp only [Act.put, List.setIfInBounds_toArray, List.set_cons_zero, List.set_cons_succ]
  clear hF hl3 hle3 HJ3
  replace HB := Lib.hid (on HB.out hS)
  replace HI1 := Lib.hid (HI1.out.later hS)
  replace HI2 := Lib.hid (HI2.out.later hS)
  replace HC := Lib.hid (two_cells HC.out hS)
  replace HJ8 := Lib.hid (HJ8.out.later hS)
  replace HJ9 := Lib.hid (HJ9.out.later hS)
  replace HJ10 := Lib.hid (HJ10.out.later hS)
  clear hS q0 q1
  generalize wa = wr3 at *
  obtain ⟨q0, q1⟩ := HC.out
  go_wp2
  refine wp_region_held (S := fun W => Below wr3.heap.size wr3 W) (by kernel_rfl) ?_
  generalize hA0 : Act.mk _ _ = a0
  have hF := Fr.nil (n := 212) (a := a0) (by rw [← hA0]; rfl)
  replace hF := Fr.cons hF 10 (.slice (some ⟨b10, o10, none⟩) (n1 + pt) c10) (by rw [← hA0]; rfl)
  replace hF := Fr.cons hF 7 (.int .i64 n1) (by rw [← hA0]; rfl)
  replace hF := Fr.cons hF 5 (.pointer (some ⟨B, 0, none⟩)) (by rw [← hA0]; rfl)
  have hS : Below wr3.heap.size wr3 wr3.drew := (Below.refl _ wr3).drew
  change wpAnyH _ _ _ _ _ _ _ _ (World.drew _)
  refine tk (i := 0) (d := 129) (v := .slice (some ⟨b10, o10, none⟩) (n1 + pt) c10) hF rfl rfl (by kernel_rfl) (by kernel_rfl) (by kernel_rfl) (fun _ _ _ h => h) (yi_go rfl (fun W hW => ex_move W rfl (fr_at hF 2 rfl))) hS rfl (by decide) (fun a1 hA1 hF' => ?_)
  replace hF := hF'; clear hF'
  refine tk (i := 1) (d := 130) (v := .int .i64 n1) hF rfl rfl (by kernel_rfl) (by kernel_rfl) (by kernel_rfl) (fun _ _ _ h => h) (yi_go rfl (fun W hW => ex_move W rfl (fr_at hF 2 rfl))) hS rfl (by decide) (fun a2 hA2 hF' => ?_)
  replace hF := hF'; clear hF'
  refine tk (i := 2) (d := 131) (v := .slice (some ⟨b10, o10 + n1, none⟩) pt (c10 - n1)) hF rfl rfl (by kernel_rfl) (by kernel_rfl) (by kernel_rfl) (fun _ _ _ h => h) (yi_go rfl (fun W hW => by have f129 := fr_at hF 1 rfl; have f130 := fr_at hF 0 rfl; go_simp)) hS rfl (by decide) (fun a3 hA3 hF' => ?_)
  replace hF := hF'; clear hF'
  refine tk (i := 4) (d := 133) (v := .pointer (some ⟨B, 1, none⟩)) hF rfl rfl (by kernel_rfl) (by kernel_rfl) (by kernel_rfl) (fun _ _ _ h => h) (yi_go rfl (fun W hW => by have f5 := fr_at hF 3 rfl; go_simp)) hS rfl (by decide) (fun a4 hA4 hF' => ?_)
  replace hF := hF'; clear hF'
  refine tk (i := 5) (d := 134) (v := .slice A2 n2 c2) hF rfl rfl (by kernel_rfl) (by kernel_rfl) (by kernel_rfl) (fun _ _ _ h => h) (yi_go rfl (fun W hW => by replace q1 := (hW.cell (p := ⟨B, 1, none⟩) (World.block_lt_of_cell? _ _ q1)).trans q1; have f133 := fr_at hF 0 rfl; go_simp)) hS rfl (by decide) (fun a5 hA5 hF' => ?_)
  replace hF := hF'; clear hF'
  refine wpAnyH_ready (rs := [3]) (by kernel_rfl) (by simp) ?_
  refine AllReadyH.cons rfl (fun K hK => ?_) AllReadyH.nil
  refine step_bytes rfl (.const (.slice none 0 0)) (.tmp 131) rfl rfl (Row.nil wr3.heap.size _) (some ⟨b10, o10 + n1, none⟩) pt (c10 - n1) (ev_tmp (fr_at hF 2 rfl)) (ys := (num l.length ++ l)) HD10L.out (by rw [← HD10.out]; exact (HJ10.out.later hS).drop n1) (by first | (simp; omega) | simp) hS.size ?_
  intro v1 wu5 hr hg
  have hb1 : Below wr3.heap.size wr3 wu5 := hS.grown hg hS.size (fun k hk => by cases hk)
  rw [List.nil_append] at hr
  have hr1 := hr
  clear hr hg
  refine hK.out _ _ hb1 (fun _ => ?_)
  clear hK K
  replace hS := hb1
  clear hb1
  change wpAnyH _ _ _ _ _ _ _ (a5.put (some 132) (v1)) _
  have hF' := fr_put hF 132 (v1) rfl (by decide)
  generalize hA6 : Act.put a5 (some 132) (v1) = a6 at hF' ⊢
  replace hF := hF'; clear hF'
  refine wpAnyH_ready (rs := [6]) (by kernel_rfl) (by simp) ?_
  refine AllReadyH.cons rfl (fun K hK => ?_) AllReadyH.nil
  refine step_bytes rfl (.tmp 132) (.tmp 134) rfl (ev_tmp (fr_at hF 0 rfl)) hr1 A2 n2 c2 (ev_tmp (fr_at hF 1 rfl)) HN2.out (HI2.out.later hS) (by have := HD10L.out; omega) hS.size ?_
  intro v2 wu6 hr hg
  have hb1 : Below wr3.heap.size wr3 wu6 := hS.grown hg hS.size (fun k hk => hr1.lt k hk)
  obtain ⟨A3, c3, rfl, hle3, hJ3⟩ := hr.bytes
  have hl3 : ((num l.length ++ l) ++ be).length = pt + n2 := by rw [List.length_append, ← HD10L.out, ← HN2.out]
  rw [hl3] at hle3 ⊢
  have HJ3 := Lib.hid hJ3
  clear hr hg hr1 hJ3
  refine hK.out _ _ hb1 (fun _ => ?_)
  clear hK K
  replace hS := hb1
  clear hb1
  change wpAnyH _ _ _ _ _ _ _ (a6.put (some 135) (.slice A3 (pt + n2) c3)) _
  have hF' := fr_put hF 135 (.slice A3 (pt + n2) c3) rfl (by decide)
  generalize hA7 : Act.put a6 (some 135) (.slice A3 (pt + n2) c3) = a7 at hF' ⊢
  replace hF := hF'; clear hF'
  refine wpAnyH_ready (rs := [7]) (by kernel_rfl) (by simp) ?_
  refine AllReadyH.cons rfl (fun K hK => ?_) AllReadyH.nil
  have f135 := fr_at hF 0 rfl
  go_simp
  clear f135
  go_at_call 13
  refine (text_any A3 (pt + n2) c3 (num l.length ++ l ++ be) hl3.symm hle3 _ HJ3.out).mono ?_
  rintro e wa ⟨rfl, rfl⟩
  rw [HG10.out]
  unfold tupT
  go_wp2_with fail
  refine hK.out _ _ (hS) (fun _ => ?_)
  replace hS := hS
  clear hK K
  change wpAnyH _ _ _ _ _ _ _ (a7.put (some 136) (.tuple #[.string ⟨l.toArray⟩, .int .i64 (pt : Int), .int .i64 0])) _
  have hF' := fr_put hF 136 (.tuple #[.string ⟨l.toArray⟩, .int .i64 (pt : Int), .int .i64 0]) rfl (by decide)
  generalize hA8 : Act.put a7 (some 136) (.tuple #[.string ⟨l.toArray⟩, .int .i64 (pt : Int), .int .i64 0]) = a8 at hF' ⊢
  replace hF := hF'; clear hF'
  refine tk (i := 8) (d := 128) (v := .tuple #[.string ⟨l.toArray⟩, .int .i64 (pt : Int), .int .i64 0]) hF rfl rfl (by kernel_rfl) (by kernel_rfl) (by kernel_rfl) (fun _ _ _ h => h) (yi_go rfl (fun W hW => ex_move W rfl (fr_at hF 0 rfl))) hS rfl (by decide) (fun a9 hA9 hF' => ?_)
  replace hF := hF'; clear hF'
  refine tk (i := 9) (d := 137) (v := .string ⟨l.toArray⟩) hF rfl rfl (by kernel_rfl) (by kernel_rfl) (by kernel_rfl) (fun _ _ _ h => h) (yi_go rfl (fun W hW => by have f128 := fr_at hF 0 rfl; go_simp)) hS rfl (by decide) (fun a10 hA10 hF' => ?_)
  replace hF := hF'; clear hF'
  refine tk (i := 10) (d := 138) (v := .int .i64 (pt : Int)) hF rfl rfl (by kernel_rfl) (by kernel_rfl) (by kernel_rfl) (fun _ _ _ h => h) (yi_go rfl (fun W hW => by have f128 := fr_at hF 1 rfl; go_simp)) hS rfl (by decide) (fun a11 hA11 hF' => ?_)
  replace hF := hF'; clear hF'
  refine tk (i := 11) (d := 139) (v := .int .i64 0) hF rfl rfl (by kernel_rfl) (by kernel_rfl) (by kernel_rfl) (fun _ _ _ h => h) (yi_go rfl (fun W hW => by have f128 := fr_at hF 2 rfl; go_simp)) hS rfl (by decide) (fun a12 hA12 hF' => ?_)
  replace hF := hF'; clear hF'
  refine tk (i := 12) (d := 16) (v := .string ⟨l.toArray⟩) hF rfl rfl (by kernel_rfl) (by kernel_rfl) (by kernel_rfl) (fun _ _ _ h => h) (yi_go rfl (fun W hW => ex_assign W rfl (fr_at hF 2 rfl))) hS rfl (by decide) (fun a13 hA13 hF' => ?_)
  replace hF := hF'; clear hF'
  refine tk (i := 13) (d := 17) (v := .int .i64 (pt : Int)) hF rfl rfl (by kernel_rfl) (by kernel_rfl) (by kernel_rfl) (fun _ _ _ h => h) (yi_go rfl (fun W hW => ex_assign W rfl (fr_at hF 2 rfl))) hS rfl (by decide) (fun a14 hA14 hF' => ?_)
  replace hF := hF'; clear hF'
  refine tk (i := 14) (d := 18) (v := .int .i64 0) hF rfl rfl (by kernel_rfl) (by kernel_rfl) (by kernel_rfl) (fun _ _ _ h => h) (yi_go rfl (fun W hW => ex_assign W rfl (fr_at hF 2 rfl))) hS rfl (by decide) (fun a15 hA15 hF' => ?_)
  replace hF := hF'; clear hF'
  refine wpAnyH_done (by kernel_rfl) ?_ _
  rw [← hA15, ← hA14, ← hA13, ← hA12, ← hA11, ← hA10, ← hA9, ← hA8, ← hA7, ← hA6, ← hA5, ← hA4, ← hA3, ← hA2, ← hA1, ← hA0]
  simp only [Act.put, List.setIfInBounds_toArray, List.set_cons_zero, List.set_cons_succ]
  clear hF hl3 hle3 HJ3
  replace HB := Lib.hid (on HB.out hS)
  replace HI1 := Lib.hid (HI1.out.later hS)
  replace HI2 := Lib.hid (HI2.out.later hS)
  replace HC := Lib.hid (two_cells HC.out hS)
  replace HJ8 := Lib.hid (HJ8.out.later hS)
  replace HJ9 := Lib.hid (HJ9.out.later hS)
  replace HJ10 := Lib.hid (HJ10.out.later hS)
  clear hS q0 q1
  generalize wu6 = wr4 at *
  have v1 : (1 : Int) ≤ (n1 : Int) + (p : Int) := by omega
  have v2 : (n1 : Int) + (p : Int) - 1 ≤ (c8 : Int) := by have := HLE8.out; omega
  have v3 : (1 : Int) ≤ (n1 : Int) + (pt : Int) := by omega
  have v4 : (n1 : Int) + (pt : Int) - 1 ≤ (c10 : Int) := by have := HLE10.out; omega
  have v5 : (n1 : Int) ≤ (n1 : Int) + (p : Int) - 1 := by omega
  have v6 : (n1 : Int) ≤ (n1 : Int) + (pt : Int) - 1 := by omega
  have f1 : ((p : Int) == (n1 : Int) + (p : Int) - (n1 : Int)) = true := by rw [beq_iff_eq]; omega
  have f2 : ((pt : Int) == (n1 : Int) + (pt : Int) - (n1 : Int)) = true := by rw [beq_iff_eq]; omega
  have HM8 := Lib.hid (show n1 + p - 1 - n1 = ((num x).take (p - 1)).length by rw [List.length_take, ← HD8L.out]; omega)
  have HM10 := Lib.hid (show n1 + pt - 1 - n1 = ((num l.length ++ l).take (pt - 1)).length by rw [List.length_take, ← HD10L.out]; omega)
  have hk8 := (HJ8.out.drop n1).take (p - 1)
  have hk10 := (HJ10.out.drop n1).take (pt - 1)
  rw [HD8.out] at hk8
  rw [HD10.out] at hk10
  have HK8 := Lib.hid hk8
  have HK10 := Lib.hid hk10
  clear hk8 hk10
  go_wp2_with fail
  refine (get_any _ (n1 + p - 1 - n1) (c8 - n1) ((num x).take (p - 1)) HM8.out _ HK8.out).mono ?_
  rintro e wn ⟨rfl, rfl⟩
  rw [HU8.out]
  unfold tup
  have v7 : n1 + pt - 1 - n1 ≤ c10 - n1 := by have := HLE10.out; omega
  have HV7 := Lib.hid v7
  clear v7
  go_wp2_with fail
  refine (text_any _ (n1 + pt - 1 - n1) (c10 - n1) ((num l.length ++ l).take (pt - 1)) HM10.out HV7.out _ HK10.out).mono ?_
  rintro e wn ⟨rfl, rfl⟩
  rw [HU10.out]
  unfold tupT
  go_wp2
  go_ret
  exact ⟨rfl, HB.out⟩
end Go.Proofs.Ytmfmampcgadjhaa
