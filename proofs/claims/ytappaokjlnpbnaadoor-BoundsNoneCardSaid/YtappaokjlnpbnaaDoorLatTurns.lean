/- Joins and meets: the laws' walks. -/
import Derived.Test.YtappaokjlnpbnaaDoorLatAlive
namespace Go.Proofs.YtappaokjlnpbnaaDoor
open Go.RowKit Go.Proofs.YtappaokjlnpbnaaDoorW.PrintWords
theorem joinR {W : World} {B : Nat} {rows : List Nat} (hL : LatAt W B rows) (hT : Tab W) {x y r : Nat} (e : Hid (joinF rows x y = r)) : Calls Tryd.prog 17 #[.pointer (some ⟨B, 0, none⟩), .int .u64 (x : Int), .int .u64 (y : Int)] W fun e w' => e = .returned (.int .u64 (r : Int)) ∧ Below W.heap.size W w' :=
  (join_any _ rows x y W hL.v hT).mono (by rintro e' w' ⟨rfl, hb⟩; exact ⟨by rw [← e.out], hb⟩)
theorem meetR {W : World} {B : Nat} {rows : List Nat} (hL : LatAt W B rows) (hT : Tab W) {x y r : Nat} (e : Hid (meetF rows x y = r)) : Calls Tryd.prog 18 #[.pointer (some ⟨B, 0, none⟩), .int .u64 (x : Int), .int .u64 (y : Int)] W fun e w' => e = .returned (.int .u64 (r : Int)) ∧ Below W.heap.size W w' :=
  (meet_any _ rows x y W hL.v hT).mono (by rintro e' w' ⟨rfl, hb⟩; exact ⟨by rw [← e.out], hb⟩)
theorem botR {W : World} {B : Nat} {rows : List Nat} (hL : LatAt W B rows) (hT : Tab W) {r : Nat} (e : Hid (botF rows = r)) : Calls Tryd.prog 27 #[.pointer (some ⟨B, 0, none⟩)] W fun e w' => e = .returned (.int .u64 (r : Int)) ∧ Below W.heap.size W w' :=
  (bottom_any _ rows W hL.v hT).mono (by rintro e' w' ⟨rfl, hb⟩; exact ⟨by rw [← e.out], hb⟩)
theorem topR {W : World} {B : Nat} {rows : List Nat} (hL : LatAt W B rows) (hT : Tab W) {r : Nat} (e : Hid (topF rows = r)) : Calls Tryd.prog 29 #[.pointer (some ⟨B, 0, none⟩)] W fun e w' => e = .returned (.int .u64 (r : Int)) ∧ Below W.heap.size W w' :=
  (top_any _ rows W hL.v hT).mono (by rintro e' w' ⟨rfl, hb⟩; exact ⟨by rw [← e.out], hb⟩)
theorem belowR {W : World} {B : Nat} {rows : List Nat} (hL : LatAt W B rows) (_hT : Tab W) {x y : Nat} {r : Bool} (e : Hid (rowB rows x y = r)) : Calls Tryd.prog 25 #[.pointer (some ⟨B, 0, none⟩), .int .u64 (x : Int), .int .u64 (y : Int)] W fun e w' => e = .returned (.bool r) ∧ Below W.heap.size W w' :=
  (latbelow_any _ rows x y W hL.v).mono (by rintro e' w' ⟨rfl, rfl⟩; exact ⟨by rw [← e.out], Below.refl _ _⟩)
theorem hasR {W : World} {B : Nat} {rows : List Nat} (hL : LatAt W B rows) (_hT : Tab W) {x : Nat} {r : Bool} (e : Hid (decide (x < rows.length) = r)) : Calls Tryd.prog 23 #[.pointer (some ⟨B, 0, none⟩), .int .u64 (x : Int)] W fun e w' => e = .returned (.bool r) ∧ Below W.heap.size W w' :=
  (has_any _ rows x W hL.v).mono (by rintro e' w' ⟨rfl, rfl⟩; exact ⟨by rw [← e.out], Below.refl _ _⟩)
set_option maxRecDepth 100000 in
set_option maxHeartbeats 4000000 in
theorem turns_in (A : Option Addr) (n c : Nat) (rows : List Nat) (z0 z1 z2 : Nat) (hn : n = rows.length) (hmax : n ≤ 9223372036854775807) (hz0 : z0 < 256) (hz1 : z1 < 256) (hz2 : z2 < 256) (w : World) (hI : Nums w A rows) (hT : Tab w) :
    Calls Tryd.prog 3 #[.slice A n c, .agg #[.int .u8 (z0 : Int), .int .u8 (z1 : Int), .int .u8 (z2 : Int)]] w fun e w' => e = .returned (.bool true) ∧ Below w.heap.size w w' := by
  have HI := Lib.hid hI
  have HT := Lib.hid hT
  have HN := Lib.hid hn
  clear hI hT hn
  obtain ⟨O, hO⟩ : ∃ O, O = Obj.cells #[.int .u8 (z0 : Int), .int .u8 (z1 : Int), .int .u8 (z2 : Int)] 23 := ⟨_, rfl⟩
  have HB0' := Lib.hid ((Below.refl w.heap.size w).alloc (Nat.le_refl _) O)
  go_enter Tryd.func3, Tryd.ntmps3
  go_wp2_with fail
  rw [← hO]
  refine (made_any A n c rows HN.out hmax _ (HI.out.below HB0'.out) (HT.out.below HB0'.out)).mono ?_
  rintro e w2 ⟨hb1, rfl | ⟨hf, B, rfl, hnew, hl⟩⟩
  · have HB1' := Lib.hid (on HB0'.out hb1)
    clear hb1
    go_wp2_with fail
    refine (alive_any _ (HT.out.below HB1'.out)).mono ?_
    rintro e w3 ⟨rfl, hb⟩
    have HB2 := Lib.hid (on HB1'.out hb)
    clear hb
    go_wp2
    go_ret
    exact ⟨rfl, HB2.out⟩
  · have HB1' := Lib.hid (on HB0'.out hb1)
    have hO2 : w2.heap[w.heap.size]? = some O := by
      rw [hb1.block w.heap.size (by show _ < (w.heap.push O).size; rw [Array.size_push]; omega)]
      exact heap_alloc_new w O
    rw [hO] at hO2
    have c0 : w2.cell? ⟨w.heap.size, 0, none⟩ = some (.int .u8 (z0 : Int)) := by rw [cell_of_row _ _ _ _ _ _ hO2]; rfl
    have c1 : w2.cell? ⟨w.heap.size, 1, none⟩ = some (.int .u8 (z1 : Int)) := by rw [cell_of_row _ _ _ _ _ _ hO2]; rfl
    have c2 : w2.cell? ⟨w.heap.size, 2, none⟩ = some (.int .u8 (z2 : Int)) := by rw [cell_of_row _ _ _ _ _ _ hO2]; rfl
    have HL := Lib.hid hl
    have HF := Lib.hid hf
    have HT2 := Lib.hid (HT.out.below HB1'.out)
    have HB0 := Lib.hid (Below.refl w2.heap.size w2)
    have hp := hf.pos
    have h64 := hf.le
    rw [← HN.out] at hp h64 ⊢
    have nz : ¬ n = 0 := by omega
    have nz2 : ¬ (n : Int) = 0 := by omega
    have nz3 : ((n : Int) == 0) = false := by rw [beq_eq_false_iff_ne]; omega
    clear hb1 hO2 hl hf hnew
    obtain ⟨a, ha⟩ : ∃ a : Nat, a = z0 % n := ⟨_, rfl⟩
    have an : a < rows.length := by rw [ha, ← HN.out]; exact Nat.mod_lt _ (by omega)
    have ea : (z0 : Int) % (n : Int) = (a : Int) := by rw [ha]; rfl
    obtain ⟨b, hb⟩ : ∃ b : Nat, b = z1 % n := ⟨_, rfl⟩
    have bn : b < rows.length := by rw [hb, ← HN.out]; exact Nat.mod_lt _ (by omega)
    have eb : (z1 : Int) % (n : Int) = (b : Int) := by rw [hb]; rfl
    obtain ⟨d, hd⟩ : ∃ d : Nat, d = z2 % n := ⟨_, rfl⟩
    have dn : d < rows.length := by rw [hd, ← HN.out]; exact Nat.mod_lt _ (by omega)
    have ed : (z2 : Int) % (n : Int) = (d : Int) := by rw [hd]; rfl
    clear ha hb hd
    obtain ⟨j, h_j⟩ : ∃ x, joinF rows a b = x := ⟨_, rfl⟩
    obtain ⟨m, h_m⟩ : ∃ x, meetF rows a b = x := ⟨_, rfl⟩
    obtain ⟨j2, h_j2⟩ : ∃ x, joinF rows b d = x := ⟨_, rfl⟩
    obtain ⟨m2, h_m2⟩ : ∃ x, meetF rows b d = x := ⟨_, rfl⟩
    obtain ⟨x, h_x⟩ : ∃ x, joinF rows j d = x := ⟨_, rfl⟩
    obtain ⟨y, h_y⟩ : ∃ x, meetF rows m d = x := ⟨_, rfl⟩
    have jn : j < rows.length := by rw [← h_j]; exact join_lt HF.out an bn
    have mn : m < rows.length := by rw [← h_m]; exact meet_lt HF.out an bn
    have E1 := Lib.hid (show joinF rows a b = j from h_j)
    have E2 := Lib.hid (show joinF rows b a = j from (join_comm HF.out bn an).trans h_j)
    have E3 := Lib.hid (show meetF rows a b = m from h_m)
    have E4 := Lib.hid (show meetF rows b a = m from (meet_comm HF.out bn an).trans h_m)
    have E5 := Lib.hid (show joinF rows a a = a from join_self HF.out an)
    have E6 := Lib.hid (show meetF rows a a = a from meet_self HF.out an)
    have E7 := Lib.hid (show joinF rows j d = x from h_x)
    have E8 := Lib.hid (show joinF rows b d = j2 from h_j2)
    have E9 := Lib.hid (show joinF rows a j2 = x from by rw [← h_j2, ← join_assoc HF.out an bn dn, h_j, h_x])
    have E10 := Lib.hid (show meetF rows m d = y from h_y)
    have E11 := Lib.hid (show meetF rows b d = m2 from h_m2)
    have E12 := Lib.hid (show meetF rows a m2 = y from by rw [← h_m2, ← meet_assoc HF.out an bn dn, h_m, h_y])
    have E13 := Lib.hid (show joinF rows a m = a from by rw [← h_m]; exact join_abs HF.out an bn)
    have E14 := Lib.hid (show meetF rows a j = a from by rw [← h_j]; exact meet_abs HF.out an bn)
    have dnj : ((j : Int) != (j : Int)) = false := by simp
    have dej : ((j : Int) == (j : Int)) = true := by simp
    have dnm : ((m : Int) != (m : Int)) = false := by simp
    have dem : ((m : Int) == (m : Int)) = true := by simp
    have dna : ((a : Int) != (a : Int)) = false := by simp
    have dea : ((a : Int) == (a : Int)) = true := by simp
    have dnx : ((x : Int) != (x : Int)) = false := by simp
    have dex : ((x : Int) == (x : Int)) = true := by simp
    have dny : ((y : Int) != (y : Int)) = false := by simp
    have dey : ((y : Int) == (y : Int)) = true := by simp
    clear h_j h_m h_j2 h_m2 h_x h_y jn mn
    clear an bn dn
    go_wp2_with fail
    rw [ea, eb, ed]
    clear ea eb ed c0 c1 c2
    go_wp2_with fail
    refine (joinR (HL.out.below HB0.out) (HT2.out.below HB0.out) E1).mono ?_
    rintro e w3 ⟨rfl, hb⟩
    have HB1 := Lib.hid (on HB0.out hb)
    clear hb HB0
    go_wp2_with fail
    refine (joinR (HL.out.below HB1.out) (HT2.out.below HB1.out) E2).mono ?_
    rintro e w4 ⟨rfl, hb⟩
    have HB2 := Lib.hid (on HB1.out hb)
    clear hb HB1
    go_wp2_with fail
    refine (meetR (HL.out.below HB2.out) (HT2.out.below HB2.out) E3).mono ?_
    rintro e w5 ⟨rfl, hb⟩
    have HB3 := Lib.hid (on HB2.out hb)
    clear hb HB2
    go_wp2_with fail
    refine (meetR (HL.out.below HB3.out) (HT2.out.below HB3.out) E4).mono ?_
    rintro e w6 ⟨rfl, hb⟩
    have HB4 := Lib.hid (on HB3.out hb)
    clear hb HB3
    go_wp2_with fail
    refine (joinR (HL.out.below HB4.out) (HT2.out.below HB4.out) E5).mono ?_
    rintro e w7 ⟨rfl, hb⟩
    have HB5 := Lib.hid (on HB4.out hb)
    clear hb HB4
    go_wp2_with fail
    refine (meetR (HL.out.below HB5.out) (HT2.out.below HB5.out) E6).mono ?_
    rintro e w8 ⟨rfl, hb⟩
    have HB6 := Lib.hid (on HB5.out hb)
    clear hb HB5
    go_wp2_with fail
    refine (joinR (HL.out.below HB6.out) (HT2.out.below HB6.out) E1).mono ?_
    rintro e w9 ⟨rfl, hb⟩
    have HB7 := Lib.hid (on HB6.out hb)
    clear hb HB6
    go_wp2_with fail
    refine (joinR (HL.out.below HB7.out) (HT2.out.below HB7.out) E7).mono ?_
    rintro e w10 ⟨rfl, hb⟩
    have HB8 := Lib.hid (on HB7.out hb)
    clear hb HB7
    go_wp2_with fail
    refine (joinR (HL.out.below HB8.out) (HT2.out.below HB8.out) E8).mono ?_
    rintro e w11 ⟨rfl, hb⟩
    have HB9 := Lib.hid (on HB8.out hb)
    clear hb HB8
    go_wp2_with fail
    refine (joinR (HL.out.below HB9.out) (HT2.out.below HB9.out) E9).mono ?_
    rintro e w12 ⟨rfl, hb⟩
    have HB10 := Lib.hid (on HB9.out hb)
    clear hb HB9
    go_wp2_with fail
    refine (meetR (HL.out.below HB10.out) (HT2.out.below HB10.out) E3).mono ?_
    rintro e w13 ⟨rfl, hb⟩
    have HB11 := Lib.hid (on HB10.out hb)
    clear hb HB10
    go_wp2_with fail
    refine (meetR (HL.out.below HB11.out) (HT2.out.below HB11.out) E10).mono ?_
    rintro e w14 ⟨rfl, hb⟩
    have HB12 := Lib.hid (on HB11.out hb)
    clear hb HB11
    go_wp2_with fail
    refine (meetR (HL.out.below HB12.out) (HT2.out.below HB12.out) E11).mono ?_
    rintro e w15 ⟨rfl, hb⟩
    have HB13 := Lib.hid (on HB12.out hb)
    clear hb HB12
    go_wp2_with fail
    refine (meetR (HL.out.below HB13.out) (HT2.out.below HB13.out) E12).mono ?_
    rintro e w16 ⟨rfl, hb⟩
    have HB14 := Lib.hid (on HB13.out hb)
    clear hb HB13
    go_wp2_with fail
    refine (alive_any _ (HT2.out.below HB14.out)).mono ?_
    rintro e w17 ⟨rfl, hb⟩
    have HB15 := Lib.hid (on HB14.out hb)
    clear hb HB14
    go_wp2_with fail
    refine (meetR (HL.out.below HB15.out) (HT2.out.below HB15.out) E3).mono ?_
    rintro e w18 ⟨rfl, hb⟩
    have HB16 := Lib.hid (on HB15.out hb)
    clear hb HB15
    go_wp2_with fail
    refine (joinR (HL.out.below HB16.out) (HT2.out.below HB16.out) E13).mono ?_
    rintro e w19 ⟨rfl, hb⟩
    have HB17 := Lib.hid (on HB16.out hb)
    clear hb HB16
    go_wp2_with fail
    refine (joinR (HL.out.below HB17.out) (HT2.out.below HB17.out) E1).mono ?_
    rintro e w20 ⟨rfl, hb⟩
    have HB18 := Lib.hid (on HB17.out hb)
    clear hb HB17
    go_wp2_with fail
    refine (meetR (HL.out.below HB18.out) (HT2.out.below HB18.out) E14).mono ?_
    rintro e w21 ⟨rfl, hb⟩
    have HB19 := Lib.hid (on HB18.out hb)
    clear hb HB18
    go_wp2
    go_ret
    exact ⟨rfl, on HB1'.out HB19.out⟩
set_option maxRecDepth 100000 in
set_option maxHeartbeats 4000000 in
theorem latbelow_in (A : Option Addr) (n c : Nat) (rows : List Nat) (z0 z1 : Nat) (hn : n = rows.length) (hmax : n ≤ 9223372036854775807) (hz0 : z0 < 256) (hz1 : z1 < 256) (w : World) (hI : Nums w A rows) (hT : Tab w) :
    Calls Tryd.prog 6 #[.slice A n c, .agg #[.int .u8 (z0 : Int), .int .u8 (z1 : Int)]] w fun e w' => e = .returned (.bool true) ∧ Below w.heap.size w w' := by
  have HI := Lib.hid hI
  have HT := Lib.hid hT
  have HN := Lib.hid hn
  clear hI hT hn
  obtain ⟨O, hO⟩ : ∃ O, O = Obj.cells #[.int .u8 (z0 : Int), .int .u8 (z1 : Int)] 49 := ⟨_, rfl⟩
  have HB0' := Lib.hid ((Below.refl w.heap.size w).alloc (Nat.le_refl _) O)
  go_enter Tryd.func6, Tryd.ntmps6
  go_wp2_with fail
  rw [← hO]
  refine (made_any A n c rows HN.out hmax _ (HI.out.below HB0'.out) (HT.out.below HB0'.out)).mono ?_
  rintro e w2 ⟨hb1, rfl | ⟨hf, B, rfl, hnew, hl⟩⟩
  · have HB1' := Lib.hid (on HB0'.out hb1)
    clear hb1
    go_wp2_with fail
    refine (alive_any _ (HT.out.below HB1'.out)).mono ?_
    rintro e w3 ⟨rfl, hb⟩
    have HB2 := Lib.hid (on HB1'.out hb)
    clear hb
    go_wp2
    go_ret
    exact ⟨rfl, HB2.out⟩
  · have HB1' := Lib.hid (on HB0'.out hb1)
    have hO2 : w2.heap[w.heap.size]? = some O := by
      rw [hb1.block w.heap.size (by show _ < (w.heap.push O).size; rw [Array.size_push]; omega)]
      exact heap_alloc_new w O
    rw [hO] at hO2
    have c0 : w2.cell? ⟨w.heap.size, 0, none⟩ = some (.int .u8 (z0 : Int)) := by rw [cell_of_row _ _ _ _ _ _ hO2]; rfl
    have c1 : w2.cell? ⟨w.heap.size, 1, none⟩ = some (.int .u8 (z1 : Int)) := by rw [cell_of_row _ _ _ _ _ _ hO2]; rfl
    have HL := Lib.hid hl
    have HF := Lib.hid hf
    have HT2 := Lib.hid (HT.out.below HB1'.out)
    have HB0 := Lib.hid (Below.refl w2.heap.size w2)
    have hp := hf.pos
    have h64 := hf.le
    rw [← HN.out] at hp h64 ⊢
    have nz : ¬ n = 0 := by omega
    have nz2 : ¬ (n : Int) = 0 := by omega
    have nz3 : ((n : Int) == 0) = false := by rw [beq_eq_false_iff_ne]; omega
    clear hb1 hO2 hl hf hnew
    obtain ⟨a, ha⟩ : ∃ a : Nat, a = z0 % n := ⟨_, rfl⟩
    have an : a < rows.length := by rw [ha, ← HN.out]; exact Nat.mod_lt _ (by omega)
    have ea : (z0 : Int) % (n : Int) = (a : Int) := by rw [ha]; rfl
    obtain ⟨b, hb⟩ : ∃ b : Nat, b = z1 % n := ⟨_, rfl⟩
    have bn : b < rows.length := by rw [hb, ← HN.out]; exact Nat.mod_lt _ (by omega)
    have eb : (z1 : Int) % (n : Int) = (b : Int) := by rw [hb]; rfl
    clear ha hb
    obtain ⟨j, h_j⟩ : ∃ x, joinF rows a b = x := ⟨_, rfl⟩
    obtain ⟨m, h_m⟩ : ∃ x, meetF rows a b = x := ⟨_, rfl⟩
    obtain ⟨q, h_q⟩ : ∃ x, rowB rows a b = x := ⟨_, rfl⟩
    obtain ⟨bt, h_bt⟩ : ∃ x, botF rows = x := ⟨_, rfl⟩
    obtain ⟨tp, h_tp⟩ : ∃ x, topF rows = x := ⟨_, rfl⟩
    have HBS := Lib.hid (bot_spec HF.out)
    have HTS := Lib.hid (top_spec HF.out)
    rw [h_bt] at HBS
    rw [h_tp] at HTS
    have E1 := Lib.hid (show rowB rows a b = q from h_q)
    have E2 := Lib.hid (show joinF rows a b = j from h_j)
    have E3 := Lib.hid (show meetF rows a b = m from h_m)
    have E4 := Lib.hid (show decide (a < rows.length) = true from by simpa using an)
    have E5 := Lib.hid (show botF rows = bt from h_bt)
    have E6 := Lib.hid (show topF rows = tp from h_tp)
    have E7 := Lib.hid (show rowB rows bt a = true from HBS.out.2 a an)
    have E8 := Lib.hid (show rowB rows a tp = true from HTS.out.2 a an)
    have E9 := Lib.hid (show decide (n < rows.length) = false from by rw [HN.out]; simp)
    have E10 := Lib.hid (show joinF rows a bt = a from by rw [join_comm HF.out an HBS.out.1]; exact (join_below HF.out HBS.out.1 an).1 (HBS.out.2 a an))
    have E11 := Lib.hid (show meetF rows a tp = a from (meet_below HF.out an HTS.out.1).1 (HTS.out.2 a an))
    have E12 := Lib.hid (show joinF rows a tp = tp from (join_below HF.out an HTS.out.1).1 (HTS.out.2 a an))
    have E13 := Lib.hid (show meetF rows a bt = bt from by rw [meet_comm HF.out an HBS.out.1]; exact (meet_below HF.out HBS.out.1 an).1 (HBS.out.2 a an))
    have dj : ((j : Int) == (b : Int)) = q := by
      have h := join_below HF.out an bn
      rw [h_j, h_q] at h
      rw [Bool.eq_iff_iff, h]
      simp
      omega
    have dm : ((m : Int) == (a : Int)) = q := by
      have h := meet_below HF.out an bn
      rw [h_m, h_q] at h
      rw [Bool.eq_iff_iff, h]
      simp
      omega
    have dq : (q != q) = false := by simp
    have dna : ((a : Int) != (a : Int)) = false := by simp
    have dea : ((a : Int) == (a : Int)) = true := by simp
    have dnbt : ((bt : Int) != (bt : Int)) = false := by simp
    have debt : ((bt : Int) == (bt : Int)) = true := by simp
    have dntp : ((tp : Int) != (tp : Int)) = false := by simp
    have detp : ((tp : Int) == (tp : Int)) = true := by simp
    clear h_j h_m h_q h_bt h_tp
    clear an bn
    go_wp2_with fail
    rw [ea, eb]
    clear ea eb c0 c1
    go_wp2_with fail
    refine (belowR (HL.out.below HB0.out) (HT2.out.below HB0.out) E1).mono ?_
    rintro e w3 ⟨rfl, hb⟩
    have HB1 := Lib.hid (on HB0.out hb)
    clear hb HB0
    go_wp2_with fail
    refine (hasR (HL.out.below HB1.out) (HT2.out.below HB1.out) E4).mono ?_
    rintro e w4 ⟨rfl, hb⟩
    have HB2 := Lib.hid (on HB1.out hb)
    clear hb HB1
    go_wp2_with fail
    refine (joinR (HL.out.below HB2.out) (HT2.out.below HB2.out) E2).mono ?_
    rintro e w5 ⟨rfl, hb⟩
    have HB3 := Lib.hid (on HB2.out hb)
    clear hb HB2
    go_wp2_with fail
    refine (meetR (HL.out.below HB3.out) (HT2.out.below HB3.out) E3).mono ?_
    rintro e w6 ⟨rfl, hb⟩
    have HB4 := Lib.hid (on HB3.out hb)
    clear hb HB3
    go_wp2_with fail
    refine (botR (HL.out.below HB4.out) (HT2.out.below HB4.out) E5).mono ?_
    rintro e w7 ⟨rfl, hb⟩
    have HB5 := Lib.hid (on HB4.out hb)
    clear hb HB4
    go_wp2_with fail
    refine (belowR (HL.out.below HB5.out) (HT2.out.below HB5.out) E7).mono ?_
    rintro e w8 ⟨rfl, hb⟩
    have HB6 := Lib.hid (on HB5.out hb)
    clear hb HB5
    go_wp2_with fail
    refine (topR (HL.out.below HB6.out) (HT2.out.below HB6.out) E6).mono ?_
    rintro e w9 ⟨rfl, hb⟩
    have HB7 := Lib.hid (on HB6.out hb)
    clear hb HB6
    go_wp2_with fail
    refine (belowR (HL.out.below HB7.out) (HT2.out.below HB7.out) E8).mono ?_
    rintro e w10 ⟨rfl, hb⟩
    have HB8 := Lib.hid (on HB7.out hb)
    clear hb HB7
    go_wp2_with fail
    refine (hasR (HL.out.below HB8.out) (HT2.out.below HB8.out) E9).mono ?_
    rintro e w11 ⟨rfl, hb⟩
    have HB9 := Lib.hid (on HB8.out hb)
    clear hb HB8
    go_wp2_with fail
    refine (alive_any _ (HT2.out.below HB9.out)).mono ?_
    rintro e w12 ⟨rfl, hb⟩
    have HB10 := Lib.hid (on HB9.out hb)
    clear hb HB9
    go_wp2_with fail
    refine (botR (HL.out.below HB10.out) (HT2.out.below HB10.out) E5).mono ?_
    rintro e w13 ⟨rfl, hb⟩
    have HB11 := Lib.hid (on HB10.out hb)
    clear hb HB10
    go_wp2_with fail
    refine (joinR (HL.out.below HB11.out) (HT2.out.below HB11.out) E10).mono ?_
    rintro e w14 ⟨rfl, hb⟩
    have HB12 := Lib.hid (on HB11.out hb)
    clear hb HB11
    go_wp2_with fail
    refine (topR (HL.out.below HB12.out) (HT2.out.below HB12.out) E6).mono ?_
    rintro e w15 ⟨rfl, hb⟩
    have HB13 := Lib.hid (on HB12.out hb)
    clear hb HB12
    go_wp2_with fail
    refine (meetR (HL.out.below HB13.out) (HT2.out.below HB13.out) E11).mono ?_
    rintro e w16 ⟨rfl, hb⟩
    have HB14 := Lib.hid (on HB13.out hb)
    clear hb HB13
    go_wp2_with fail
    refine (topR (HL.out.below HB14.out) (HT2.out.below HB14.out) E6).mono ?_
    rintro e w17 ⟨rfl, hb⟩
    have HB15 := Lib.hid (on HB14.out hb)
    clear hb HB14
    go_wp2_with fail
    refine (joinR (HL.out.below HB15.out) (HT2.out.below HB15.out) E12).mono ?_
    rintro e w18 ⟨rfl, hb⟩
    have HB16 := Lib.hid (on HB15.out hb)
    clear hb HB15
    go_wp2_with fail
    refine (topR (HL.out.below HB16.out) (HT2.out.below HB16.out) E6).mono ?_
    rintro e w19 ⟨rfl, hb⟩
    have HB17 := Lib.hid (on HB16.out hb)
    clear hb HB16
    go_wp2_with fail
    refine (botR (HL.out.below HB17.out) (HT2.out.below HB17.out) E5).mono ?_
    rintro e w20 ⟨rfl, hb⟩
    have HB18 := Lib.hid (on HB17.out hb)
    clear hb HB17
    go_wp2_with fail
    refine (meetR (HL.out.below HB18.out) (HT2.out.below HB18.out) E13).mono ?_
    rintro e w21 ⟨rfl, hb⟩
    have HB19 := Lib.hid (on HB18.out hb)
    clear hb HB18
    go_wp2_with fail
    refine (botR (HL.out.below HB19.out) (HT2.out.below HB19.out) E5).mono ?_
    rintro e w22 ⟨rfl, hb⟩
    have HB20 := Lib.hid (on HB19.out hb)
    clear hb HB19
    go_wp2
    go_ret
    exact ⟨rfl, on HB1'.out HB20.out⟩
set_option maxRecDepth 100000 in
set_option maxHeartbeats 4000000 in
theorem latbounds_in (A : Option Addr) (n c : Nat) (rows : List Nat) (z0 z1 z2 : Nat) (hn : n = rows.length) (hmax : n ≤ 9223372036854775807) (hz0 : z0 < 256) (hz1 : z1 < 256) (hz2 : z2 < 256) (w : World) (hI : Nums w A rows) (hT : Tab w) :
    Calls Tryd.prog 7 #[.slice A n c, .agg #[.int .u8 (z0 : Int), .int .u8 (z1 : Int), .int .u8 (z2 : Int)]] w fun e w' => e = .returned (.bool true) ∧ Below w.heap.size w w' := by
  have HI := Lib.hid hI
  have HT := Lib.hid hT
  have HN := Lib.hid hn
  clear hI hT hn
  obtain ⟨O, hO⟩ : ∃ O, O = Obj.cells #[.int .u8 (z0 : Int), .int .u8 (z1 : Int), .int .u8 (z2 : Int)] 23 := ⟨_, rfl⟩
  have HB0' := Lib.hid ((Below.refl w.heap.size w).alloc (Nat.le_refl _) O)
  go_enter Tryd.func7, Tryd.ntmps7
  go_wp2_with fail
  rw [← hO]
  refine (made_any A n c rows HN.out hmax _ (HI.out.below HB0'.out) (HT.out.below HB0'.out)).mono ?_
  rintro e w2 ⟨hb1, rfl | ⟨hf, B, rfl, hnew, hl⟩⟩
  · have HB1' := Lib.hid (on HB0'.out hb1)
    clear hb1
    go_wp2_with fail
    refine (alive_any _ (HT.out.below HB1'.out)).mono ?_
    rintro e w3 ⟨rfl, hb⟩
    have HB2 := Lib.hid (on HB1'.out hb)
    clear hb
    go_wp2
    go_ret
    exact ⟨rfl, HB2.out⟩
  · have HB1' := Lib.hid (on HB0'.out hb1)
    have hO2 : w2.heap[w.heap.size]? = some O := by
      rw [hb1.block w.heap.size (by show _ < (w.heap.push O).size; rw [Array.size_push]; omega)]
      exact heap_alloc_new w O
    rw [hO] at hO2
    have c0 : w2.cell? ⟨w.heap.size, 0, none⟩ = some (.int .u8 (z0 : Int)) := by rw [cell_of_row _ _ _ _ _ _ hO2]; rfl
    have c1 : w2.cell? ⟨w.heap.size, 1, none⟩ = some (.int .u8 (z1 : Int)) := by rw [cell_of_row _ _ _ _ _ _ hO2]; rfl
    have c2 : w2.cell? ⟨w.heap.size, 2, none⟩ = some (.int .u8 (z2 : Int)) := by rw [cell_of_row _ _ _ _ _ _ hO2]; rfl
    have HL := Lib.hid hl
    have HF := Lib.hid hf
    have HT2 := Lib.hid (HT.out.below HB1'.out)
    have HB0 := Lib.hid (Below.refl w2.heap.size w2)
    have hp := hf.pos
    have h64 := hf.le
    rw [← HN.out] at hp h64 ⊢
    have nz : ¬ n = 0 := by omega
    have nz2 : ¬ (n : Int) = 0 := by omega
    have nz3 : ((n : Int) == 0) = false := by rw [beq_eq_false_iff_ne]; omega
    clear hb1 hO2 hl hf hnew
    obtain ⟨a, ha⟩ : ∃ a : Nat, a = z0 % n := ⟨_, rfl⟩
    have an : a < rows.length := by rw [ha, ← HN.out]; exact Nat.mod_lt _ (by omega)
    have ea : (z0 : Int) % (n : Int) = (a : Int) := by rw [ha]; rfl
    obtain ⟨b, hb⟩ : ∃ b : Nat, b = z1 % n := ⟨_, rfl⟩
    have bn : b < rows.length := by rw [hb, ← HN.out]; exact Nat.mod_lt _ (by omega)
    have eb : (z1 : Int) % (n : Int) = (b : Int) := by rw [hb]; rfl
    obtain ⟨d, hd⟩ : ∃ d : Nat, d = z2 % n := ⟨_, rfl⟩
    have dn : d < rows.length := by rw [hd, ← HN.out]; exact Nat.mod_lt _ (by omega)
    have ed : (z2 : Int) % (n : Int) = (d : Int) := by rw [hd]; rfl
    clear ha hb hd
    obtain ⟨j, h_j⟩ : ∃ x, joinF rows a b = x := ⟨_, rfl⟩
    obtain ⟨m, h_m⟩ : ∃ x, meetF rows a b = x := ⟨_, rfl⟩
    obtain ⟨q1, h_q1⟩ : ∃ x, rowB rows a d = x := ⟨_, rfl⟩
    obtain ⟨q2, h_q2⟩ : ∃ x, rowB rows b d = x := ⟨_, rfl⟩
    obtain ⟨q3, h_q3⟩ : ∃ x, rowB rows d a = x := ⟨_, rfl⟩
    obtain ⟨q4, h_q4⟩ : ∃ x, rowB rows d b = x := ⟨_, rfl⟩
    have E1 := Lib.hid (show joinF rows a b = j from h_j)
    have E2 := Lib.hid (show meetF rows a b = m from h_m)
    have E3 := Lib.hid (show rowB rows a j = true from by rw [← h_j]; exact (join_spec HF.out an bn).1)
    have E4 := Lib.hid (show rowB rows b j = true from by rw [← h_j]; exact (join_spec HF.out an bn).2.1)
    have E5 := Lib.hid (show rowB rows m a = true from by rw [← h_m]; exact (meet_spec HF.out an bn).1)
    have E6 := Lib.hid (show rowB rows m b = true from by rw [← h_m]; exact (meet_spec HF.out an bn).2.1)
    have E7 := Lib.hid (show rowB rows a d = q1 from h_q1)
    have E8 := Lib.hid (show rowB rows b d = q2 from h_q2)
    have E8b := Lib.hid (show rowB rows j d = (q1 && q2) from by rw [← h_j, ← join_under HF.out an bn d, h_q1, h_q2])
    have E9 := Lib.hid (show rowB rows d a = q3 from h_q3)
    have E10 := Lib.hid (show rowB rows d b = q4 from h_q4)
    have E11 := Lib.hid (show rowB rows d m = (q3 && q4) from by rw [← h_m, ← meet_over HF.out an bn d, h_q3, h_q4])
    have dq2 : (q2 == q2) = true := by simp
    have dq4 : (q4 == q4) = true := by simp
    clear h_j h_m h_q1 h_q2 h_q3 h_q4
    clear an bn dn
    go_wp2_with fail
    rw [ea, eb, ed]
    clear ea eb ed c0 c1 c2
    go_wp2_with fail
    refine (joinR (HL.out.below HB0.out) (HT2.out.below HB0.out) E1).mono ?_
    rintro e w3 ⟨rfl, hb⟩
    have HB1 := Lib.hid (on HB0.out hb)
    clear hb HB0
    go_wp2_with fail
    refine (meetR (HL.out.below HB1.out) (HT2.out.below HB1.out) E2).mono ?_
    rintro e w4 ⟨rfl, hb⟩
    have HB2 := Lib.hid (on HB1.out hb)
    clear hb HB1
    go_wp2_with fail
    refine (belowR (HL.out.below HB2.out) (HT2.out.below HB2.out) E3).mono ?_
    rintro e w5 ⟨rfl, hb⟩
    have HB3 := Lib.hid (on HB2.out hb)
    clear hb HB2
    go_wp2_with fail
    refine (belowR (HL.out.below HB3.out) (HT2.out.below HB3.out) E4).mono ?_
    rintro e w6 ⟨rfl, hb⟩
    have HB4 := Lib.hid (on HB3.out hb)
    clear hb HB3
    go_wp2_with fail
    refine (belowR (HL.out.below HB4.out) (HT2.out.below HB4.out) E5).mono ?_
    rintro e w7 ⟨rfl, hb⟩
    have HB5 := Lib.hid (on HB4.out hb)
    clear hb HB4
    go_wp2_with fail
    refine (belowR (HL.out.below HB5.out) (HT2.out.below HB5.out) E6).mono ?_
    rintro e w8 ⟨rfl, hb⟩
    have HB6 := Lib.hid (on HB5.out hb)
    clear hb HB5
    go_wp2_with fail
    refine (alive_any _ (HT2.out.below HB6.out)).mono ?_
    rintro e w9 ⟨rfl, hb⟩
    have HB7 := Lib.hid (on HB6.out hb)
    clear hb HB6
    cases q1 with
    | false =>
      rw [Bool.false_and] at E8b
      go_wp2_with fail
      refine (belowR (HL.out.below HB7.out) (HT2.out.below HB7.out) E7).mono ?_
      rintro e w10 ⟨rfl, hb⟩
      have HB8 := Lib.hid (on HB7.out hb)
      clear hb HB7
      go_wp2_with fail
      refine (belowR (HL.out.below HB8.out) (HT2.out.below HB8.out) E8b).mono ?_
      rintro e w11 ⟨rfl, hb⟩
      have HB9 := Lib.hid (on HB8.out hb)
      clear hb HB8
      cases q3 with
      | false =>
        rw [Bool.false_and] at E11
        go_wp2_with fail
        refine (belowR (HL.out.below HB9.out) (HT2.out.below HB9.out) E9).mono ?_
        rintro e w12 ⟨rfl, hb⟩
        have HB10 := Lib.hid (on HB9.out hb)
        clear hb HB9
        go_wp2_with fail
        refine (belowR (HL.out.below HB10.out) (HT2.out.below HB10.out) E11).mono ?_
        rintro e w13 ⟨rfl, hb⟩
        have HB11 := Lib.hid (on HB10.out hb)
        clear hb HB10
        go_wp2
        go_ret
        exact ⟨rfl, on HB1'.out HB11.out⟩
      | true =>
        rw [Bool.true_and] at E11
        go_wp2_with fail
        refine (belowR (HL.out.below HB9.out) (HT2.out.below HB9.out) E9).mono ?_
        rintro e w12 ⟨rfl, hb⟩
        have HB10 := Lib.hid (on HB9.out hb)
        clear hb HB9
        go_wp2_with fail
        refine (belowR (HL.out.below HB10.out) (HT2.out.below HB10.out) E10).mono ?_
        rintro e w13 ⟨rfl, hb⟩
        have HB11 := Lib.hid (on HB10.out hb)
        clear hb HB10
        go_wp2_with fail
        refine (belowR (HL.out.below HB11.out) (HT2.out.below HB11.out) E11).mono ?_
        rintro e w14 ⟨rfl, hb⟩
        have HB12 := Lib.hid (on HB11.out hb)
        clear hb HB11
        go_wp2
        go_ret
        exact ⟨rfl, on HB1'.out HB12.out⟩
    | true =>
      rw [Bool.true_and] at E8b
      go_wp2_with fail
      refine (belowR (HL.out.below HB7.out) (HT2.out.below HB7.out) E7).mono ?_
      rintro e w10 ⟨rfl, hb⟩
      have HB8 := Lib.hid (on HB7.out hb)
      clear hb HB7
      go_wp2_with fail
      refine (belowR (HL.out.below HB8.out) (HT2.out.below HB8.out) E8).mono ?_
      rintro e w11 ⟨rfl, hb⟩
      have HB9 := Lib.hid (on HB8.out hb)
      clear hb HB8
      go_wp2_with fail
      refine (belowR (HL.out.below HB9.out) (HT2.out.below HB9.out) E8b).mono ?_
      rintro e w12 ⟨rfl, hb⟩
      have HB10 := Lib.hid (on HB9.out hb)
      clear hb HB9
      cases q3 with
      | false =>
        rw [Bool.false_and] at E11
        go_wp2_with fail
        refine (belowR (HL.out.below HB10.out) (HT2.out.below HB10.out) E9).mono ?_
        rintro e w13 ⟨rfl, hb⟩
        have HB11 := Lib.hid (on HB10.out hb)
        clear hb HB10
        go_wp2_with fail
        refine (belowR (HL.out.below HB11.out) (HT2.out.below HB11.out) E11).mono ?_
        rintro e w14 ⟨rfl, hb⟩
        have HB12 := Lib.hid (on HB11.out hb)
        clear hb HB11
        go_wp2
        go_ret
        exact ⟨rfl, on HB1'.out HB12.out⟩
      | true =>
        rw [Bool.true_and] at E11
        go_wp2_with fail
        refine (belowR (HL.out.below HB10.out) (HT2.out.below HB10.out) E9).mono ?_
        rintro e w13 ⟨rfl, hb⟩
        have HB11 := Lib.hid (on HB10.out hb)
        clear hb HB10
        go_wp2_with fail
        refine (belowR (HL.out.below HB11.out) (HT2.out.below HB11.out) E10).mono ?_
        rintro e w14 ⟨rfl, hb⟩
        have HB12 := Lib.hid (on HB11.out hb)
        clear hb HB11
        go_wp2_with fail
        refine (belowR (HL.out.below HB12.out) (HT2.out.below HB12.out) E11).mono ?_
        rintro e w15 ⟨rfl, hb⟩
        have HB13 := Lib.hid (on HB12.out hb)
        clear hb HB12
        go_wp2
        go_ret
        exact ⟨rfl, on HB1'.out HB13.out⟩
end Go.Proofs.YtappaokjlnpbnaaDoor
