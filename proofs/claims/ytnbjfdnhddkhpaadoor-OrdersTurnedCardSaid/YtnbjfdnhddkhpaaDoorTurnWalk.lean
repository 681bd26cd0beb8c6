/- An order turned upside down, and one whose labels are numbered otherwise, may be just as the order itself: the law's walk. -/
import Derived.Test.YtnbjfdnhddkhpaaDoorFlip
import Derived.Test.YtnbjfdnhddkhpaaDoorOfWalk
import Derived.IntWalk
import Derived.BigRegion
namespace Go.Proofs.YtnbjfdnhddkhpaaDoor
open Go.RowKit Go.Proofs.YtnbjfdnhddkhpaaDoorW.PrintWords
theorem mv_zero (rows : List Nat) (d a : Nat) : mvF rows d 0 0 a = 0 := by
  unfold mvF
  rw [if_neg (by omega)]
  split <;> rfl
theorem mv_row (rows : List Nat) (d i a : Nat) : mvF rows d i rows.length a = mvF rows d (i + 1) 0 a := by
  unfold mvF
  by_cases h1 : back rows.length d a < i
  · rw [if_pos h1, if_pos (show back rows.length d a < i + 1 by omega)]
  · rw [if_neg h1]
    by_cases h2 : back rows.length d a = i
    · rw [if_pos h2, if_pos (show back rows.length d a < i + 1 by omega), h2]
    · rw [if_neg h2, if_neg (show ¬ back rows.length d a < i + 1 by omega)]
      split <;> rfl
theorem mv_end (rows : List Nat) (d a : Nat) (ha : a < rows.length) : mvF rows d rows.length 0 a = (moved rows d).getD a 0 := by simp [moved, List.getD, ha]
theorem mv_lt {rows : List Nat} {d : Nat} (h0 : 0 < rows.length) (h : rows.length ≤ 64) (i j a : Nat) : mvF rows d i j a < 18446744073709551616 := by
  unfold mvF
  split
  · exact spread_lt h0 h _
  · split
    · exact spread_lt h0 h _
    · decide
theorem mv_step {rows : List Nat} {d i j a g : Nat} (hd : d < rows.length) (hi : i < rows.length) (ha : a < rows.length) (hg : g = mvF rows d i j ((i + d) % rows.length) ||| (if (rows.getD i 0).testBit j then 2 ^ ((j + d) % rows.length) else 0)) : (if a = (i + d) % rows.length then g else mvF rows d i j a) = mvF rows d i (j + 1) a := by
  have e : back rows.length d ((i + d) % rows.length) = i := back_to hd hi
  by_cases h : a = (i + d) % rows.length
  · subst h
    rw [if_pos rfl, hg]
    unfold mvF
    rw [e, if_neg (Nat.lt_irrefl i), if_neg (Nat.lt_irrefl i), if_pos rfl, if_pos rfl, spread]
  · rw [if_neg h]
    have h2 : back rows.length d a ≠ i := fun k => h (by rw [← k, to_back hd ha])
    unfold mvF
    by_cases h1 : back rows.length d a < i
    · rw [if_pos h1, if_pos h1]
    · rw [if_neg h1, if_neg h1, if_neg h2, if_neg h2]
theorem dn_step {rows : List Nat} {i j a g : Nat} (hg : g = upBits rows j i ||| (if (rows.getD i 0).testBit j then 2 ^ i else 0)) : (if a = j then g else if a < j then upBits rows a (i + 1) else upBits rows a i) = if a < j + 1 then upBits rows a (i + 1) else upBits rows a i := by
  by_cases h : a = j
  · subst h
    rw [if_pos rfl, if_pos (by omega), hg, upBits]
  · rw [if_neg h]
    by_cases h2 : a < j
    · rw [if_pos h2, if_pos (by omega)]
    · rw [if_neg h2, if_neg (by omega)]
/-- the rows under way. -/
structure Tw (rows : List Nat) (n d i j : Nat) (W0 w : World) (B1 B2 : Nat) : Prop where
  down : w.rowIs B1 23 n (fun a => .int .u64 (((if a < j then upBits rows a (i + 1) else upBits rows a i) : Nat) : Int))
  move : w.rowIs B2 23 n (fun a => .int .u64 ((mvF rows d i j a : Nat) : Int))
  below : Below W0.heap.size W0 w
theorem Tw.turn {rows : List Nat} {n d i : Nat} {W0 w : World} {B1 B2 : Nat} (hn : n = rows.length) (h : Tw rows n d i n W0 w B1 B2) : Tw rows n d (i + 1) 0 W0 w B1 B2 :=
  ⟨h.down.congr (fun a ha => by rw [if_pos ha, if_neg (by omega)]), h.move.congr (fun a _ => by rw [hn, mv_row]), h.below⟩
theorem moved_nums {w : World} {B n d : Nat} {rows : List Nat} (hn : n = rows.length) (h1 : 1 ≤ n) (hmax : n ≤ 64) (hd : d < n) (h : w.rowIs B 23 n (fun a => .int .u64 ((mvF rows d n 0 a : Nat) : Int))) : Nums w (some ⟨B, 0, none⟩) (moved rows d) := by
  subst hn
  refine ⟨fun x hx => ?_, fun _ => ⟨B, 0, rfl, h.lt, fun j hj => ?_⟩⟩
  · unfold moved at hx
    obtain ⟨j, _, rfl⟩ := List.mem_map.1 hx
    exact mv_lt (by omega) hmax _ _ _
  · have hj' : j < rows.length := by rw [moved_length] at hj; exact hj
    rw [Nat.zero_add, h.cell hj']
    simp [moved]
set_option maxRecDepth 100000 in
set_option maxHeartbeats 4000000 in
theorem turn_walk (A : Option Addr) (n c : Nat) (zs : List Int) (far : Int) (w : World) (hr : IsRow .u64 w A n c zs) (_hn : n * 8 ≤ 140737488351232) (hfar : (Lit.int .u8 far).wf = true) (hT : Lib.TabIs Tryd.prog w "math/bits.deBruijn64tab" .u8 tab64) :
    Calls Tryd.prog 6 #[.slice A n c, .int .u8 far] w fun e w' => e = .returned (.bool true) ∧ Below w.heap.size w w' := by
  obtain ⟨rows, hlen, hI, hcap⟩ := hr.nums64
  have HT := Lib.hid (tab_of hT)
  have HI := Lib.hid hI
  have HN := Lib.hid hlen.symm
  have HX := Lib.hid hI.1
  obtain ⟨x, rfl, hx⟩ : ∃ x : Nat, far = (x : Int) ∧ x < 256 := by
    simp [Lit.wf, IntKind.min, IntKind.max, IntKind.signed, IntKind.bits] at hfar
    exact ⟨far.toNat, by omega, by omega⟩
  clear hI hlen hT hr hfar
  by_cases hbad : n < 1 ∨ 64 < n
  · have HR := Lib.hid (checkR_small (rows := rows) (by rw [← HN.out]; exact hbad))
    have HCK := Lib.hid (fun W (h : Below w.heap.size w W) => check_any A n c rows HN.out hcap W (HI.out.below h) (HT.out.below h))
    rw [HR.out] at HCK
    by_cases h1 : n < 1
    all_goals
      first
        | (have d1 : decide ((n : Int) < 1) = true := by simp; omega)
        | (have d1 : decide ((n : Int) < 1) = false := by simp; omega)
      first
        | (have d2 : decide (64 < (n : Int)) = true := by simp; omega)
        | (have d2 : decide (64 < (n : Int)) = false := by simp; omega)
      go_enter Tryd.func6, Tryd.ntmps6
      go_wp2_with fail
      refine (alive_any _ HT.out).mono ?_
      rintro e w1 ⟨rfl, hb1⟩
      have HB1 := Lib.hid hb1
      clear hb1
      go_wp2_with fail
      refine (HCK.out _ HB1.out).mono ?_
      rintro e w2 ⟨rfl, hb2⟩
      have HB2 := Lib.hid (on HB1.out hb2)
      clear hb2
      go_wp2
      go_ret
      exact ⟨rfl, HB2.out⟩
  have d1 : decide ((n : Int) < 1) = false := by simp; omega
  have d2 : decide (64 < (n : Int)) = false := by simp; omega
  have hn1 : 1 ≤ n := by omega
  have h64 : n ≤ 64 := by omega
  clear hbad
  have mk1 := run_make_row' (P := Tryd.prog) 22 23 (.int .u64 0) 8 under22 info23 rfl .i64 .i64 n (by omega) (by omega)
  obtain ⟨d, hd⟩ : ∃ d, d = x % n := ⟨_, rfl⟩
  have hdn : d < n := by rw [hd]; exact Nat.mod_lt _ (by omega)
  have hmod : ((x : Int) % (n : Int)) = (d : Int) := by rw [hd]; rfl
  have n0 : (n : Int) ≠ 0 := by omega
  clear hd
  go_enter Tryd.func6, Tryd.ntmps6
  go_wp2_with fail
  rw [hmod]
  have HD0 := Lib.hid (World.rowIs_made w (.int .u64 0) n 23)
  have HB0 := Lib.hid ((Below.refl w.heap.size w).alloc (Nat.le_refl _) (.cells (madeCells #[.int .u64 0] n) 23))
  obtain ⟨w1, hw1⟩ : ∃ w1, w1 = w.alloc (.cells (madeCells #[.int .u64 0] n) 23) := ⟨_, rfl⟩
  have hs1 : w1.heap.size = w.heap.size + 1 := by rw [hw1]; show (w.heap.push _).size = _; rw [Array.size_push]
  rw [← hw1] at HD0 HB0 ⊢
  have HD1 := Lib.hid (HD0.out.alloc (.cells (madeCells #[.int .u64 0] n) 23))
  have HM1 := Lib.hid (World.rowIs_made w1 (.int .u64 0) n 23)
  have HB1 := Lib.hid (HB0.out.alloc HB0.out.size (.cells (madeCells #[.int .u64 0] n) 23))
  rw [hs1] at HM1
  obtain ⟨B1, hB1⟩ : ∃ B, B = w.heap.size := ⟨_, rfl⟩
  obtain ⟨B2, hB2⟩ : ∃ B, B = B1 + 1 := ⟨_, rfl⟩
  rw [← hB1] at HD1 HM1
  rw [← hB2] at HM1
  rw [← hB1]
  rw [← hB2]
  have HE1 := Lib.hid (show w.heap.size ≤ B1 by omega)
  have HE2 := Lib.hid (show w.heap.size ≤ B2 by omega)
  have HE3 := Lib.hid (show B1 ≠ B2 by omega)
  clear hs1 hw1 HD0 HB0 hB1 hB2
  generalize w1.alloc (.cells (madeCells #[.int .u64 0] n) 23) = w2 at *
  have HCK := Lib.hid (fun W (h : Below w.heap.size w W) => check_any A n c rows HN.out hcap W (HI.out.below h) (HT.out.below h))
  have HAL := Lib.hid (fun W (h : Below w.heap.size w W) => alive_any W (HT.out.below h))
  have HT0 := Lib.hid (show Tw rows n d 0 0 w w2 B1 B2 from ⟨HD1.out.congr (fun a _ => by rw [if_neg (by omega)]; rfl), HM1.out.congr (fun a _ => by rw [mv_zero]; rfl), HB1.out⟩)
  clear HD1 HM1 HB1 hmod mk1
  go_loopw [9] (fun v wr => ∃ i : Nat, i ≤ n ∧ v = .int .i64 i ∧ Hid (Tw rows n d i 0 w wr B1 B2) ∧ Hid (∀ i', i' < i → rows.getD i' 0 < 2 ^ n)) (fun v _ => n - (intOf v).toNat)
  case atStart => exact ⟨0, by omega, rfl, HT0, fun i' h => by omega⟩
  case round =>
    clear HT0
    obtain ⟨i, hi, rfl, HTW, HWD⟩ := hrel
    by_cases hin : i < n
    · have hil : i < rows.length := by have := HN.out; omega
      obtain ⟨b, off, rfl, _, hc⟩ := HI.out.2 (by omega)
      clear hc
      obtain ⟨b', off', hbo, _, hc⟩ := (HI.out.below HTW.out.below).2 (by omega)
      obtain ⟨rfl, rfl, _⟩ := Addr.mk.inj (Option.some.inj hbo)
      have hck := hc i hil
      have hr := HI.out.1 rows[i] (List.getElem_mem hil)
      have hgd : rows.getD i 0 = rows[i] := by simp [List.getD, hil]
      generalize rows[i] = r at hck hr hgd
      have HGD := Lib.hid hgd
      have HW := Lib.hid (show wideAt rows i = (decide (n < 64) && (r / 2 ^ n != 0)) by unfold wideAt; rw [hgd, HN.out])
      have i1 : (0 : Int) ≤ (i : Int) := by omega
      have i2 : (i : Int) < (n : Int) := by omega
      clear hc hgd hbo
      have e1 : ((r : Int) / 2 ^ n != 0) = (r / 2 ^ n != 0) := by
        have e : (r : Int) / 2 ^ n = ((r / 2 ^ n : Nat) : Int) := by rw [Int.natCast_ediv, Int.natCast_pow]; rfl
        rw [e, Bool.eq_iff_iff]
        simp only [bne_iff_ne, ne_eq]
        generalize r / 2 ^ n = z
        omega
      by_cases hwide : r < 2 ^ n
      · have HWD1 := Lib.hid (show ∀ i', i' < i + 1 → rows.getD i' 0 < 2 ^ n from step_to HWD.out (by rw [HGD.out]; exact hwide))
        have hz : (r / 2 ^ n != 0) = false := by rw [Nat.div_eq_of_lt hwide]; rfl
        rw [hz] at e1
        clear hz hwide HWD HW
        have HTO := HTW
        clear HTW
        by_cases hn64 : n < 64
        all_goals
          first
            | (have d3 : decide ((n : Int) < 64) = true := by simp; omega)
            | (have d3 : decide ((n : Int) < 64) = false := by simp; omega)
          go_wp2_with fail
          go_loopw [10] (fun v wq => ∃ j : Nat, j ≤ n ∧ v = .int .i64 j ∧ Hid (Tw rows n d i j w wq B1 B2)) (fun v _ => n - (intOf v).toNat)
          case atStart => exact ⟨0, by omega, rfl, HTO⟩
          case round =>
            clear hck
            obtain ⟨j, hj, rfl, HTW⟩ := hrel
            by_cases hjn : j < n
            · obtain ⟨b', off', hbo, _, hc⟩ := (HI.out.below HTW.out.below).2 (by omega)
              obtain ⟨rfl, rfl, _⟩ := Addr.mk.inj (Option.some.inj hbo)
              have hck := hc i hil
              rw [show rows[i] = r by rw [← HGD.out]; simp [List.getD, hil]] at hck
              have j1 : (0 : Int) ≤ (j : Int) := by omega
              have j2 : (j : Int) < (n : Int) := by omega
              have cj := HTW.out.down.cell hjn
              rw [if_neg (Nat.lt_irrefl j)] at cj
              have fj := HTW.out.down.frozen j
              have ol := upBits_lt rows j i
              have o64 : 2 ^ i ≤ 2 ^ 63 := Nat.pow_le_pow_right (by omega) (by omega)
              rw [show (2 : Nat) ^ 63 = 9223372036854775808 from rfl] at o64
              have HDS := Lib.hid (fun (a g : Nat) h => dn_step (rows := rows) (i := i) (j := j) (a := a) (g := g) h)
              obtain ⟨o, ho⟩ : ∃ o, o = upBits rows j i := ⟨_, rfl⟩
              rw [← ho] at cj ol HDS
              have ol2 : o < 18446744073709551616 := by omega
              clear ho ol o64
              obtain ⟨si, hsi⟩ : ∃ s, s = (i + d) % rows.length := ⟨_, rfl⟩
              obtain ⟨sj, hsj⟩ : ∃ s, s = (j + d) % rows.length := ⟨_, rfl⟩
              have hsin : si < n := by rw [hsi, ← HN.out]; exact Nat.mod_lt _ (by omega)
              have hsjn : sj < n := by rw [hsj, ← HN.out]; exact Nat.mod_lt _ (by omega)
              have HMS := Lib.hid (fun (a g : Nat) h h2 => mv_step (rows := rows) (d := d) (i := i) (j := j) (a := a) (g := g) (by rw [← HN.out]; exact hdn) hil h h2)
              have fm := HTW.out.move.frozen si
              have cm := HTW.out.move.cell hsin
              have ml := mv_lt (rows := rows) (d := d) (by omega) (by rw [← HN.out]; exact h64) i j si
              rw [← hsi, ← hsj] at HMS
              obtain ⟨m, hm⟩ : ∃ m, m = mvF rows d i j si := ⟨_, rfl⟩
              rw [← hm] at cm ml HMS
              have HMM := Lib.hid hm
              clear cm fm
              rw [← HN.out] at hsi hsj
              have ei1 : IntKind.i64.wrap ((i : Int) + (d : Int)) = (i : Int) + (d : Int) := IntWalk.i64_in _ (by omega)
              have ej1 : IntKind.i64.wrap ((j : Int) + (d : Int)) = (j : Int) + (d : Int) := IntWalk.i64_in _ (by omega)
              have nz : ¬ n = 0 := by omega
              have ei2 : ((i : Int) + (d : Int)).tmod (n : Int) = (si : Int) := by rw [Int.tmod_eq_emod_of_nonneg (by omega), hsi]; rfl
              have ej2 : ((j : Int) + (d : Int)).tmod (n : Int) = (sj : Int) := by rw [Int.tmod_eq_emod_of_nonneg (by omega), hsj]; rfl
              clear hm hsi hsj hc hbo
              have hba : bits .and .u64 ((r : Int) / 2 ^ j) 1 = if r.testBit j then 1 else 0 := by
                have e : (r : Int) / 2 ^ j = ((r / 2 ^ j : Nat) : Int) := by rw [Int.natCast_ediv, Int.natCast_pow]; rfl
                rw [e, bit_and _ (Nat.lt_of_le_of_lt (Nat.div_le_self _ _) hr), bit_is]
                cases r.testBit j <;> rfl
              cases htb : r.testBit j with
              | true =>
                rw [htb] at hba
                have HTB := Lib.hid htb
                have hor1 : bits .or .u64 (o : Int) (IntKind.u64.wrap (2 ^ i)) = ((o ||| 2 ^ i : Nat) : Int) := by
                  rw [pow_wrap i (by omega)]
                  exact u64_or_nat o (2 ^ i) ol2 (by rw [show 18446744073709551616 = 2 ^ 64 from rfl]; exact Nat.pow_lt_pow_right (by omega) (by omega))
                have hor2 : bits .or .u64 (m : Int) (IntKind.u64.wrap (2 ^ sj)) = ((m ||| 2 ^ sj : Nat) : Int) := by
                  rw [pow_wrap sj (by omega)]
                  exact u64_or_nat m (2 ^ sj) ml (by rw [show 18446744073709551616 = 2 ^ 64 from rfl]; exact Nat.pow_lt_pow_right (by omega) (by omega))
                have HS1 := Lib.hid ((HTW.out.down.set j (.int .u64 ((o ||| 2 ^ i : Nat) : Int))).congr (g := fun a => .int .u64 (((if a < j + 1 then upBits rows a (i + 1) else upBits rows a i) : Nat) : Int)) (fun a _ => by rw [← HDS.out a (o ||| 2 ^ i) (by rw [HGD.out, HTB.out]; simp)]; split <;> rfl))
                have HS2 := Lib.hid (HTW.out.move.setOther (a := ⟨B1, j, none⟩) (fun e => HE3.out e.symm) (.int .u64 ((o ||| 2 ^ i : Nat) : Int)))
                have HS3 := Lib.hid (HTW.out.below.setCell (p := ⟨B1, j, none⟩) HE1.out (.int .u64 ((o ||| 2 ^ i : Nat) : Int)))
                clear htb
                go_upto_region 17 with fail
                generalize wr.setCell ⟨B1, j, none⟩ (.int .u64 ((o ||| 2 ^ i : Nat) : Int)) = wz at HS1 HS2 HS3 ⊢
                have cm := HS2.out.cell hsin
                rw [← HMM.out] at cm
                have fm := HS2.out.frozen si
                have si1 : (0 : Int) ≤ (si : Int) := by omega
                have si2 : (si : Int) < (n : Int) := by omega
                have HM1 := Lib.hid ((HS2.out.set si (.int .u64 ((m ||| 2 ^ sj : Nat) : Int))).congr (g := fun a => .int .u64 ((mvF rows d i (j + 1) a : Nat) : Int)) (fun a ha => by rw [← HMS.out a (m ||| 2 ^ sj) (by rw [← HN.out]; exact ha) (by rw [HGD.out, HTB.out]; simp)]; split <;> rfl))
                have HM2 := Lib.hid (HS1.out.setOther (a := ⟨B2, si, none⟩) HE3.out (.int .u64 ((m ||| 2 ^ sj : Nat) : Int)))
                have HM3 := Lib.hid (HS3.out.setCell (p := ⟨B2, si, none⟩) HE2.out (.int .u64 ((m ||| 2 ^ sj : Nat) : Int)))
                have HTW1 := Lib.hid (Tw.mk (n := n) (d := d) (i := i) (j := j + 1) HM2.out.drew HM1.out.drew HM3.out.drew)
                clear HM1 HM2 HM3 HS1 HS2 HS3 hor1 fj cj hck
                go_region
                all_goals
                  go_wp2
                  go_roundw
                  case rel => exact ⟨j + 1, by omega, by go_num, HTW1⟩
                  case measure => simp [intOf]; omega
              | false =>
                rw [htb] at hba
                have HTB := Lib.hid htb
                have hor1 : bits .or .u64 (o : Int) 0 = (o : Int) := by
                  have h := u64_or_nat o 0 ol2 (by decide)
                  rwa [Nat.or_zero] at h
                have hor2 : bits .or .u64 (m : Int) 0 = (m : Int) := by
                  have h := u64_or_nat m 0 ml (by decide)
                  rwa [Nat.or_zero] at h
                have HS1 := Lib.hid ((HTW.out.down.set j (.int .u64 (o : Int))).congr (g := fun a => .int .u64 (((if a < j + 1 then upBits rows a (i + 1) else upBits rows a i) : Nat) : Int)) (fun a _ => by rw [← HDS.out a o (by rw [HGD.out, HTB.out]; simp)]; split <;> rfl))
                have HS2 := Lib.hid (HTW.out.move.setOther (a := ⟨B1, j, none⟩) (fun e => HE3.out e.symm) (.int .u64 (o : Int)))
                have HS3 := Lib.hid (HTW.out.below.setCell (p := ⟨B1, j, none⟩) HE1.out (.int .u64 (o : Int)))
                clear htb
                go_upto_region 17 with fail
                generalize wr.setCell ⟨B1, j, none⟩ (.int .u64 (o : Int)) = wz at HS1 HS2 HS3 ⊢
                have cm := HS2.out.cell hsin
                rw [← HMM.out] at cm
                have fm := HS2.out.frozen si
                have si1 : (0 : Int) ≤ (si : Int) := by omega
                have si2 : (si : Int) < (n : Int) := by omega
                have HM1 := Lib.hid ((HS2.out.set si (.int .u64 (m : Int))).congr (g := fun a => .int .u64 ((mvF rows d i (j + 1) a : Nat) : Int)) (fun a ha => by rw [← HMS.out a m (by rw [← HN.out]; exact ha) (by rw [HGD.out, HTB.out]; simp)]; split <;> rfl))
                have HM2 := Lib.hid (HS1.out.setOther (a := ⟨B2, si, none⟩) HE3.out (.int .u64 (m : Int)))
                have HM3 := Lib.hid (HS3.out.setCell (p := ⟨B2, si, none⟩) HE2.out (.int .u64 (m : Int)))
                have HTW1 := Lib.hid (Tw.mk (n := n) (d := d) (i := i) (j := j + 1) HM2.out.drew HM1.out.drew HM3.out.drew)
                clear HM1 HM2 HM3 HS1 HS2 HS3 hor1 fj cj hck
                go_region
                all_goals
                  go_wp2
                  go_roundw
                  case rel => exact ⟨j + 1, by omega, by go_num, HTW1⟩
                  case measure => simp [intOf]; omega
            · obtain rfl : n = j := by omega
              go_wp2
              go_roundw
              case rel => exact ⟨i + 1, by omega, by go_num, HTW.out.turn HN.out, HWD1.out⟩
              case measure => simp [intOf]; omega
      · have hz : (r / 2 ^ n != 0) = true := by
          have : r / 2 ^ n ≠ 0 := fun h3 => by
            rw [Nat.div_eq_zero_iff] at h3
            have : 0 < 2 ^ n := Nat.pow_pos (by omega)
            omega
          simpa using this
        have hn64 : n < 64 := by
          by_cases e : n = 64
          · rw [e, show (2 : Nat) ^ 64 = 18446744073709551616 from rfl] at hwide
            omega
          · omega
        have d3 : decide ((n : Int) < 64) = true := by simp; omega
        have HR := Lib.hid (show checkR rows = 1 from (refR_eq rows HX.out).symm.trans (refR_wide i hil (by rw [HW.out, hz]; simp; omega)))
        rw [hz] at e1
        rw [HR.out] at HCK
        clear hz hwide HW
        go_wp2_with fail
        refine (HAL.out _ HTW.out.below).mono ?_
        rintro e w3 ⟨rfl, hb3⟩
        have HB3 := Lib.hid (on HTW.out.below hb3)
        clear hb3
        go_wp2_with fail
        refine (HCK.out _ HB3.out).mono ?_
        rintro e w4 ⟨rfl, hb4⟩
        have HB4 := Lib.hid (on HB3.out hb4)
        clear hb4
        go_wp2
        go_ret
        exact ⟨rfl, HB4.out⟩
    · obtain rfl : n = i := by omega
      have HWR := Lib.hid (show Wide rows by intro i hi; rw [← HN.out]; exact HWD.out i (by rw [HN.out]; exact hi))
      have e1 := check_down (rows := rows) (by rw [← HN.out]; omega) (by rw [← HN.out]; omega) HWR.out
      have e2 := check_moved (rows := rows) (by_ := d) (by rw [← HN.out]; omega) (by rw [← HN.out]; omega) HWR.out (by rw [← HN.out]; exact hdn)
      have HDN := Lib.hid (downs_nums HN.out h64 (HTW.out.down.congr (g := fun j => .int .u64 ((upBits rows j n : Nat) : Int)) (fun a _ => by rw [if_neg (by omega)])))
      have HMV := Lib.hid (moved_nums HN.out hn1 h64 hdn HTW.out.move)
      have HC1 := Lib.hid (fun W (h : Below wr.heap.size wr W) => check_any _ n n (downs rows) (by rw [downs_length]; exact HN.out) hcap W (HDN.out.below h) ((HT.out.below HTW.out.below).below h))
      have HC2 := Lib.hid (fun W (h : Below wr.heap.size wr W) => check_any _ n n (moved rows d) (by rw [moved_length]; exact HN.out) hcap W (HMV.out.below h) ((HT.out.below HTW.out.below).below h))
      rw [e1] at HC1
      rw [e2] at HC2
      clear e1 e2 HWD
      generalize checkR rows = q at *
      have eq1 : ((q : Int) == (q : Int)) = true := by simp
      go_wp2_with fail
      refine (HCK.out _ HTW.out.below).mono ?_
      rintro e w3 ⟨rfl, hb3⟩
      have HB3 := Lib.hid (on HTW.out.below hb3)
      have HL3 := Lib.hid hb3
      clear hb3
      go_wp2_with fail
      refine (HAL.out _ HB3.out).mono ?_
      rintro e w4 ⟨rfl, hb4⟩
      have HB4 := Lib.hid (on HB3.out hb4)
      have HL4 := Lib.hid (on HL3.out hb4)
      clear hb4
      go_wp2_with fail
      refine (HC1.out _ HL4.out).mono ?_
      rintro e w5 ⟨rfl, hb5⟩
      have HB5 := Lib.hid (on HB4.out hb5)
      have HL5 := Lib.hid (on HL4.out hb5)
      clear hb5
      go_wp2_with fail
      refine (HC2.out _ HL5.out).mono ?_
      rintro e w6 ⟨rfl, hb6⟩
      have HB6 := Lib.hid (on HB5.out hb6)
      clear hb6
      go_wp2
      go_ret
      exact ⟨rfl, HB6.out⟩
end Go.Proofs.YtnbjfdnhddkhpaaDoor
