/- EffectsBounds. -/
import Derived.Test.YthdgblfjgocnlaaBelow
import Derived.Deep.RegionHeld3
namespace Go.Proofs.Ythdgblfjgocnlaa
open Go.RowKit
theorem or_below (a b c : Nat) (ha : a < 18446744073709551616) (hb : b < 18446744073709551616) (hc : c < 18446744073709551616) : (anot (a ||| b) c == 0) = ((anot a c == 0) && (anot b c == 0)) := by
  rw [anot_zero _ _ (Nat.or_lt_two_pow (n := 64) ha hb) hc, anot_zero _ _ ha hc, anot_zero _ _ hb hc, Bool.eq_iff_iff, Bool.and_eq_true, beq_iff_eq, beq_iff_eq, beq_iff_eq]
  constructor
  · intro h
    constructor
    all_goals
      apply Nat.eq_of_testBit_eq
      intro i
      have := congrArg (fun z => z.testBit i) h
      simp only [Nat.testBit_or] at this ⊢
      revert this
      cases a.testBit i <;> cases b.testBit i <;> cases c.testBit i <;> simp
  · rintro ⟨h, h'⟩
    rw [Nat.or_assoc, h', h]
theorem below_and2 (a b c : Nat) (ha : a < 18446744073709551616) (hb : b < 18446744073709551616) (hc : c < 18446744073709551616) : (anot c (a &&& b) == 0) = ((anot c a == 0) && (anot c b == 0)) := by
  rw [below_and _ _ hc (and_lt _ _ ha), below_and _ _ hc ha, below_and _ _ hc hb, Bool.eq_iff_iff, Bool.and_eq_true, beq_iff_eq, beq_iff_eq, beq_iff_eq]
  constructor
  · intro h
    constructor
    all_goals
      apply Nat.eq_of_testBit_eq
      intro i
      have := congrArg (fun z => z.testBit i) h
      simp only [Nat.testBit_and] at this ⊢
      revert this
      cases a.testBit i <;> cases b.testBit i <;> cases c.testBit i <;> simp
  · rintro ⟨h, h'⟩
    rw [← Nat.and_assoc, h, h']
theorem has_or (t a b : Nat) (ht : t < 18446744073709551616) (ha : a < 18446744073709551616) (hb : b < 18446744073709551616) (h1 : has t a = true) (h2 : has t b = true) : has t (a ||| b) = true := by
  unfold has at *
  rw [or_below a b t ha hb ht, h1, h2]
  rfl
theorem has_and2 (t a b : Nat) (ht : t < 18446744073709551616) (ha : a < 18446744073709551616) (h1 : has t a = true) : has t (a &&& b) = true := by
  unfold has at *
  rw [anot_zero _ _ (and_lt _ _ ha) ht] 
  rw [anot_zero _ _ ha ht] at h1
  rw [beq_iff_eq] at *
  apply Nat.eq_of_testBit_eq
  intro i
  have := congrArg (fun z => z.testBit i) h1
  simp only [Nat.testBit_or, Nat.testBit_and] at this ⊢
  revert this
  cases a.testBit i <;> cases b.testBit i <;> cases t.testBit i <;> simp
theorem St.drew {w : World} {p : Option Addr} {m : Option Nat} (h : St w p m) : St w.drew p m := h.below (Below.drew (Below.refl _ w))
theorem arr_cells (W : World) (x y z : Int) : (W.alloc (.cells #[.int .u64 x, .int .u64 y, .int .u64 z] 23)).heap[W.heap.size]? = some (.cells #[.int .u64 x, .int .u64 y, .int .u64 z] 23 (0, 0)) := heap_alloc_new W _
set_option maxHeartbeats 4000000 in
theorem bounds_in (n : Int) (x y z : Nat) (w : World) (hn : (Lit.int .u8 n).wf = true) (hx : x < 18446744073709551616) (hy : y < 18446744073709551616) (hz : z < 18446744073709551616) : Calls Try.prog 3 #[.int .u8 n, .agg #[.int .u64 (x : Int), .int .u64 (y : Int), .int .u64 (z : Int)]] w fun e w' => e = .returned (.bool true) ∧ Below w.heap.size w w' := by
  obtain ⟨m, hm, hm64⟩ := mod65 n hn
  obtain ⟨t, ht⟩ : ∃ t, t = full m := ⟨_, rfl⟩
  have htl : t < 18446744073709551616 := by rw [ht]; exact full_lt m hm64
  have hba := and_bits x t hx htl
  have hbb := and_bits y t hy htl
  have hbc := and_bits z t hz htl
  obtain ⟨p, hp⟩ : ∃ p, p = x &&& t := ⟨_, rfl⟩
  obtain ⟨q, hq⟩ : ∃ q, q = y &&& t := ⟨_, rfl⟩
  obtain ⟨r, hr⟩ : ∃ r, r = z &&& t := ⟨_, rfl⟩
  have hpl : p < 18446744073709551616 := by rw [hp]; exact and_lt _ _ hx
  have hql : q < 18446744073709551616 := by rw [hq]; exact and_lt _ _ hy
  have hrl : r < 18446744073709551616 := by rw [hr]; exact and_lt _ _ hz
  have hhp : has t p = true := by rw [hp]; exact has_and t x htl hx
  have hhq : has t q = true := by rw [hq]; exact has_and t y htl hy
  have hhr : has t r = true := by rw [hr]; exact has_and t z htl hz
  have hho := has_or t p q htl hpl hql hhp hhq
  have hhm := has_and2 t p q htl hpl hhp
  have hol : p ||| q < 18446744073709551616 := Nat.or_lt_two_pow (n := 64) hpl hql
  have hml : p &&& q < 18446744073709551616 := and_lt _ _ hpl
  have hj : joinM (some t) p q = p ||| q := by simp [joinM, hasM, hhp, hhq]
  have hme : meetM (some t) p q = p &&& q := by simp [meetM, hasM, hhp, hhq]
  have hl1 : belowM (some t) (p ||| q) r = (belowM (some t) p r && belowM (some t) q r) := by simp only [belowM, hasM, hhp, hhq, hhr, hho, Bool.true_and, or_below p q r hpl hql hrl]
  have hl2 : belowM (some t) r (p &&& q) = (belowM (some t) r p && belowM (some t) r q) := by simp only [belowM, hasM, hhp, hhq, hhr, hhm, Bool.true_and, below_and2 p q r hpl hql hrl]
  rw [← hp] at hba
  rw [← hq] at hbb
  rw [← hr] at hbc
  have TN := Lib.hid (show ∀ w, Calls Try.prog 7 #[.int .i64 (m : Int)] w fun e w' => e = .returned (.tuple #[.pointer (some ⟨w.heap.size, 0, none⟩), .int .i64 0]) ∧ w' = w.alloc (.cells #[.bool true, .int .u64 (t : Int)] 39) by rw [ht]; exact fun w => new_yes m hm64 w)
  have TS := Lib.hid (show ∀ w : World, St (w.alloc (.cells #[.bool true, .int .u64 (t : Int)] 39)) (some ⟨w.heap.size, 0, none⟩) (some t) by rw [ht]; exact fun w => new_st m hm64 w)
  have KT := Lib.hid (fun w p h => top_any p (some t) w h)
  have KJ := Lib.hid (fun w P h => (by rw [← hj]; exact join_any P (some t) p q hpl hql w h : Calls Try.prog 11 #[.pointer P, .int .u64 (p : Int), .int .u64 (q : Int)] w fun e w' => e = .returned (.int .u64 ((p ||| q : Nat) : Int)) ∧ Below w.heap.size w w'))
  have KM := Lib.hid (fun w P h => (by rw [← hme]; exact meet_any P (some t) p q hpl hql w h : Calls Try.prog 12 #[.pointer P, .int .u64 (p : Int), .int .u64 (q : Int)] w fun e w' => e = .returned (.int .u64 ((p &&& q : Nat) : Int)) ∧ Below w.heap.size w w'))
  have K1 := Lib.hid (fun w P h => below_any P (some t) p r hpl hrl w h)
  have K2 := Lib.hid (fun w P h => below_any P (some t) q r hql hrl w h)
  have K3 := Lib.hid (fun w P h => below_any P (some t) r p hrl hpl w h)
  have K4 := Lib.hid (fun w P h => below_any P (some t) r q hrl hql w h)
  have KO := Lib.hid (fun w P h => below_any P (some t) (p ||| q) r hol hrl w h)
  have KA := Lib.hid (fun w P h => below_any P (some t) r (p &&& q) hrl hml w h)
  rw [hl1] at KO
  rw [hl2] at KA
  generalize belowM (some t) p r = s1 at K1 KO
  generalize belowM (some t) q r = s2 at K2 KO
  generalize belowM (some t) r p = s3 at K3 KA
  generalize belowM (some t) r q = s4 at K4 KA
  generalize p ||| q = j at KJ KO
  generalize p &&& q = me at KM KA
  clear hx hy hz hm64 ht htl hpl hql hrl hhp hhq hhr hho hhm hol hml hj hme hl1 hl2 hp hq hr hn
  go_enter Try.func3, Try.ntmps3
  go_wp2_with fail
  refine (TN.out _).mono ?_
  rintro e w1 ⟨rfl, hw1⟩
  obtain ⟨w0, hw0⟩ : ∃ w0, w0 = w.alloc (.cells #[.int .u64 (x : Int), .int .u64 (y : Int), .int .u64 (z : Int)] 23) := ⟨_, rfl⟩
  rw [← hw0] at hw1 ⊢
  have hs : w0.heap.size = w.heap.size + 1 := by rw [hw0, alloc_size]
  have hb0 : Below w.heap.size w w0 := by rw [hw0]; exact (Below.refl _ w).alloc (Nat.le_refl _) _
  have hb1 : Below w0.heap.size w0 w1 := by rw [hw1]; exact (Below.refl _ w0).alloc (Nat.le_refl _) _
  have hx1 : St w1 (some ⟨w0.heap.size, 0, none⟩) (some t) := by rw [hw1]; exact TS.out w0
  have hB : w0.heap[w.heap.size]? = some (.cells #[.int .u64 (x : Int), .int .u64 (y : Int), .int .u64 (z : Int)] 23 (0, 0)) := by rw [hw0]; exact arr_cells w _ _ _
  have c0 : w1.cell? ⟨w.heap.size, 0, none⟩ = some (.int .u64 (x : Int)) := (hb1.cell (by show w.heap.size < _; omega)).trans (by rw [cell_of_row _ _ _ _ _ _ hB]; rfl)
  have c1 : w1.cell? ⟨w.heap.size, 1, none⟩ = some (.int .u64 (y : Int)) := (hb1.cell (by show w.heap.size < _; omega)).trans (by rw [cell_of_row _ _ _ _ _ _ hB]; rfl)
  have c2 : w1.cell? ⟨w.heap.size, 2, none⟩ = some (.int .u64 (z : Int)) := (hb1.cell (by show w.heap.size < _; omega)).trans (by rw [cell_of_row _ _ _ _ _ _ hB]; rfl)
  have hbb1 := on hb0 hb1
  have KS := Lib.hid (fun w' (h : w'.cell? ⟨w.heap.size, 0, none⟩ = some (.int .u64 (x : Int)) ∧ w'.cell? ⟨w.heap.size, 1, none⟩ = some (.int .u64 (y : Int)) ∧ w'.cell? ⟨w.heap.size, 2, none⟩ = some (.int .u64 (z : Int)) ∧ St w' (some ⟨w0.heap.size, 0, none⟩) (some t) ∧ Below w.heap.size w w') => (KT.out w' _ h.2.2.2.1).mono fun e w'' hh => (⟨hh.1, hh.2 ▸ h⟩ : e = .returned (.int .u64 (t : Int)) ∧ w''.cell? ⟨w.heap.size, 0, none⟩ = some (.int .u64 (x : Int)) ∧ w''.cell? ⟨w.heap.size, 1, none⟩ = some (.int .u64 (y : Int)) ∧ w''.cell? ⟨w.heap.size, 2, none⟩ = some (.int .u64 (z : Int)) ∧ St w'' (some ⟨w0.heap.size, 0, none⟩) (some t) ∧ Below w.heap.size w w''))
  clear hw0 hw1 hs hb0 hb1 hB
  go_wp2_with fail
  go_region_held3 (fun w' => w'.cell? ⟨w.heap.size, 0, none⟩ = some (.int .u64 (x : Int)) ∧ w'.cell? ⟨w.heap.size, 1, none⟩ = some (.int .u64 (y : Int)) ∧ w'.cell? ⟨w.heap.size, 2, none⟩ = some (.int .u64 (z : Int)) ∧ St w' (some ⟨w0.heap.size, 0, none⟩) (some t) ∧ Below w.heap.size w w') (first | exact ⟨by assumption, by assumption, by assumption, by first | assumption | exact St.drew (by assumption), by first | assumption | exact Below.drew (by assumption)⟩)
    (first
      | (go_at_call 8; refine (KS.out _ ⟨by assumption, by assumption, by assumption, by first | assumption | exact St.drew (by assumption), by first | assumption | exact Below.drew (by assumption)⟩).mono ?_; rintro e w' ⟨rfl, h1, h2, h3, h4, h5⟩))
  go_wp2_with fail
  go_region_held3 (fun w' => w'.cell? ⟨w.heap.size, 0, none⟩ = some (.int .u64 (x : Int)) ∧ w'.cell? ⟨w.heap.size, 1, none⟩ = some (.int .u64 (y : Int)) ∧ w'.cell? ⟨w.heap.size, 2, none⟩ = some (.int .u64 (z : Int)) ∧ St w' (some ⟨w0.heap.size, 0, none⟩) (some t) ∧ Below w.heap.size w w') (first | exact ⟨by assumption, by assumption, by assumption, by first | assumption | exact St.drew (by assumption), by first | assumption | exact Below.drew (by assumption)⟩)
    (first
      | (go_at_call 8; refine (KS.out _ ⟨by assumption, by assumption, by assumption, by first | assumption | exact St.drew (by assumption), by first | assumption | exact Below.drew (by assumption)⟩).mono ?_; rintro e w' ⟨rfl, h1, h2, h3, h4, h5⟩))
  go_wp2_with fail
  go_region_held3 (fun w' => w'.cell? ⟨w.heap.size, 0, none⟩ = some (.int .u64 (x : Int)) ∧ w'.cell? ⟨w.heap.size, 1, none⟩ = some (.int .u64 (y : Int)) ∧ w'.cell? ⟨w.heap.size, 2, none⟩ = some (.int .u64 (z : Int)) ∧ St w' (some ⟨w0.heap.size, 0, none⟩) (some t) ∧ Below w.heap.size w w') (first | exact ⟨by assumption, by assumption, by assumption, by first | assumption | exact St.drew (by assumption), by first | assumption | exact Below.drew (by assumption)⟩)
    (first
      | (go_at_call 8; refine (KS.out _ ⟨by assumption, by assumption, by assumption, by first | assumption | exact St.drew (by assumption), by first | assumption | exact Below.drew (by assumption)⟩).mono ?_; rintro e w' ⟨rfl, h1, h2, h3, h4, h5⟩))
  go_wp2_with fail
  refine (alive_any _).mono ?_
  rintro e w5 ⟨rfl, hb5⟩
  have HX5 := Lib.hid (St.below (p := some ⟨w0.heap.size, 0, none⟩) (m := some t) (by assumption) hb5)
  have HB5 := Lib.hid (on (a := w) (by assumption) hb5)
  clear hb5

  go_wp2_with fail
  refine (K1.out _ _ HX5.out).mono ?_
  rintro e w6 ⟨rfl, hb6⟩
  have HX6 := Lib.hid (HX5.out.below hb6)
  have HB6 := Lib.hid (on HB5.out hb6)
  clear hb6 HX5 HB5
  cases s1 with
  | false =>
    go_wp2_with fail
    refine (KJ.out _ _ HX6.out).mono ?_
    rintro e w7 ⟨rfl, hb7⟩
    have HX7 := Lib.hid (HX6.out.below hb7)
    have HB7 := Lib.hid (on HB6.out hb7)
    clear hb7 HX6 HB6
    go_wp2_with fail
    refine (KO.out _ _ HX7.out).mono ?_
    rintro e w8 ⟨rfl, hb8⟩
    have HX8 := Lib.hid (HX7.out.below hb8)
    have HB8 := Lib.hid (on HB7.out hb8)
    clear hb8 HX7 HB7
    go_wp2_with fail
    refine (K3.out _ _ HX8.out).mono ?_
    rintro e w9 ⟨rfl, hb9⟩
    have HX9 := Lib.hid (HX8.out.below hb9)
    have HB9 := Lib.hid (on HB8.out hb9)
    clear hb9 HX8 HB8
    cases s3 with
    | false =>
      go_wp2_with fail
      refine (KM.out _ _ HX9.out).mono ?_
      rintro e w10 ⟨rfl, hb10⟩
      have HX10 := Lib.hid (HX9.out.below hb10)
      have HB10 := Lib.hid (on HB9.out hb10)
      clear hb10 HX9 HB9
      go_wp2_with fail
      refine (KA.out _ _ HX10.out).mono ?_
      rintro e w11 ⟨rfl, hb11⟩
      have HX11 := Lib.hid (HX10.out.below hb11)
      have HB11 := Lib.hid (on HB10.out hb11)
      clear hb11 HX10 HB10
      go_wp2
      go_ret
      exact ⟨rfl, HB11.out⟩
    | true =>
      go_wp2_with fail
      refine (K4.out _ _ HX9.out).mono ?_
      rintro e w10 ⟨rfl, hb10⟩
      have HX10 := Lib.hid (HX9.out.below hb10)
      have HB10 := Lib.hid (on HB9.out hb10)
      clear hb10 HX9 HB9
      cases s4 with
      | false =>
        go_wp2_with fail
        refine (KM.out _ _ HX10.out).mono ?_
        rintro e w11 ⟨rfl, hb11⟩
        have HX11 := Lib.hid (HX10.out.below hb11)
        have HB11 := Lib.hid (on HB10.out hb11)
        clear hb11 HX10 HB10
        go_wp2_with fail
        refine (KA.out _ _ HX11.out).mono ?_
        rintro e w12 ⟨rfl, hb12⟩
        have HX12 := Lib.hid (HX11.out.below hb12)
        have HB12 := Lib.hid (on HB11.out hb12)
        clear hb12 HX11 HB11
        go_wp2
        go_ret
        exact ⟨rfl, HB12.out⟩
      | true =>
        go_wp2_with fail
        refine (KM.out _ _ HX10.out).mono ?_
        rintro e w11 ⟨rfl, hb11⟩
        have HX11 := Lib.hid (HX10.out.below hb11)
        have HB11 := Lib.hid (on HB10.out hb11)
        clear hb11 HX10 HB10
        go_wp2_with fail
        refine (KA.out _ _ HX11.out).mono ?_
        rintro e w12 ⟨rfl, hb12⟩
        have HX12 := Lib.hid (HX11.out.below hb12)
        have HB12 := Lib.hid (on HB11.out hb12)
        clear hb12 HX11 HB11
        go_wp2
        go_ret
        exact ⟨rfl, HB12.out⟩
  | true =>
    go_wp2_with fail
    refine (K2.out _ _ HX6.out).mono ?_
    rintro e w7 ⟨rfl, hb7⟩
    have HX7 := Lib.hid (HX6.out.below hb7)
    have HB7 := Lib.hid (on HB6.out hb7)
    clear hb7 HX6 HB6
    cases s2 with
    | false =>
      go_wp2_with fail
      refine (KJ.out _ _ HX7.out).mono ?_
      rintro e w8 ⟨rfl, hb8⟩
      have HX8 := Lib.hid (HX7.out.below hb8)
      have HB8 := Lib.hid (on HB7.out hb8)
      clear hb8 HX7 HB7
      go_wp2_with fail
      refine (KO.out _ _ HX8.out).mono ?_
      rintro e w9 ⟨rfl, hb9⟩
      have HX9 := Lib.hid (HX8.out.below hb9)
      have HB9 := Lib.hid (on HB8.out hb9)
      clear hb9 HX8 HB8
      go_wp2_with fail
      refine (K3.out _ _ HX9.out).mono ?_
      rintro e w10 ⟨rfl, hb10⟩
      have HX10 := Lib.hid (HX9.out.below hb10)
      have HB10 := Lib.hid (on HB9.out hb10)
      clear hb10 HX9 HB9
      cases s3 with
      | false =>
        go_wp2_with fail
        refine (KM.out _ _ HX10.out).mono ?_
        rintro e w11 ⟨rfl, hb11⟩
        have HX11 := Lib.hid (HX10.out.below hb11)
        have HB11 := Lib.hid (on HB10.out hb11)
        clear hb11 HX10 HB10
        go_wp2_with fail
        refine (KA.out _ _ HX11.out).mono ?_
        rintro e w12 ⟨rfl, hb12⟩
        have HX12 := Lib.hid (HX11.out.below hb12)
        have HB12 := Lib.hid (on HB11.out hb12)
        clear hb12 HX11 HB11
        go_wp2
        go_ret
        exact ⟨rfl, HB12.out⟩
      | true =>
        go_wp2_with fail
        refine (K4.out _ _ HX10.out).mono ?_
        rintro e w11 ⟨rfl, hb11⟩
        have HX11 := Lib.hid (HX10.out.below hb11)
        have HB11 := Lib.hid (on HB10.out hb11)
        clear hb11 HX10 HB10
        cases s4 with
        | false =>
          go_wp2_with fail
          refine (KM.out _ _ HX11.out).mono ?_
          rintro e w12 ⟨rfl, hb12⟩
          have HX12 := Lib.hid (HX11.out.below hb12)
          have HB12 := Lib.hid (on HB11.out hb12)
          clear hb12 HX11 HB11
          go_wp2_with fail
          refine (KA.out _ _ HX12.out).mono ?_
          rintro e w13 ⟨rfl, hb13⟩
          have HX13 := Lib.hid (HX12.out.below hb13)
          have HB13 := Lib.hid (on HB12.out hb13)
          clear hb13 HX12 HB12
          go_wp2
          go_ret
          exact ⟨rfl, HB13.out⟩
        | true =>
          go_wp2_with fail
          refine (KM.out _ _ HX11.out).mono ?_
          rintro e w12 ⟨rfl, hb12⟩
          have HX12 := Lib.hid (HX11.out.below hb12)
          have HB12 := Lib.hid (on HB11.out hb12)
          clear hb12 HX11 HB11
          go_wp2_with fail
          refine (KA.out _ _ HX12.out).mono ?_
          rintro e w13 ⟨rfl, hb13⟩
          have HX13 := Lib.hid (HX12.out.below hb13)
          have HB13 := Lib.hid (on HB12.out hb13)
          clear hb13 HX12 HB12
          go_wp2
          go_ret
          exact ⟨rfl, HB13.out⟩
    | true =>
      go_wp2_with fail
      refine (KJ.out _ _ HX7.out).mono ?_
      rintro e w8 ⟨rfl, hb8⟩
      have HX8 := Lib.hid (HX7.out.below hb8)
      have HB8 := Lib.hid (on HB7.out hb8)
      clear hb8 HX7 HB7
      go_wp2_with fail
      refine (KO.out _ _ HX8.out).mono ?_
      rintro e w9 ⟨rfl, hb9⟩
      have HX9 := Lib.hid (HX8.out.below hb9)
      have HB9 := Lib.hid (on HB8.out hb9)
      clear hb9 HX8 HB8
      go_wp2_with fail
      refine (K3.out _ _ HX9.out).mono ?_
      rintro e w10 ⟨rfl, hb10⟩
      have HX10 := Lib.hid (HX9.out.below hb10)
      have HB10 := Lib.hid (on HB9.out hb10)
      clear hb10 HX9 HB9
      cases s3 with
      | false =>
        go_wp2_with fail
        refine (KM.out _ _ HX10.out).mono ?_
        rintro e w11 ⟨rfl, hb11⟩
        have HX11 := Lib.hid (HX10.out.below hb11)
        have HB11 := Lib.hid (on HB10.out hb11)
        clear hb11 HX10 HB10
        go_wp2_with fail
        refine (KA.out _ _ HX11.out).mono ?_
        rintro e w12 ⟨rfl, hb12⟩
        have HX12 := Lib.hid (HX11.out.below hb12)
        have HB12 := Lib.hid (on HB11.out hb12)
        clear hb12 HX11 HB11
        go_wp2
        go_ret
        exact ⟨rfl, HB12.out⟩
      | true =>
        go_wp2_with fail
        refine (K4.out _ _ HX10.out).mono ?_
        rintro e w11 ⟨rfl, hb11⟩
        have HX11 := Lib.hid (HX10.out.below hb11)
        have HB11 := Lib.hid (on HB10.out hb11)
        clear hb11 HX10 HB10
        cases s4 with
        | false =>
          go_wp2_with fail
          refine (KM.out _ _ HX11.out).mono ?_
          rintro e w12 ⟨rfl, hb12⟩
          have HX12 := Lib.hid (HX11.out.below hb12)
          have HB12 := Lib.hid (on HB11.out hb12)
          clear hb12 HX11 HB11
          go_wp2_with fail
          refine (KA.out _ _ HX12.out).mono ?_
          rintro e w13 ⟨rfl, hb13⟩
          have HX13 := Lib.hid (HX12.out.below hb13)
          have HB13 := Lib.hid (on HB12.out hb13)
          clear hb13 HX12 HB12
          go_wp2
          go_ret
          exact ⟨rfl, HB13.out⟩
        | true =>
          go_wp2_with fail
          refine (KM.out _ _ HX11.out).mono ?_
          rintro e w12 ⟨rfl, hb12⟩
          have HX12 := Lib.hid (HX11.out.below hb12)
          have HB12 := Lib.hid (on HB11.out hb12)
          clear hb12 HX11 HB11
          go_wp2_with fail
          refine (KA.out _ _ HX12.out).mono ?_
          rintro e w13 ⟨rfl, hb13⟩
          have HX13 := Lib.hid (HX12.out.below hb13)
          have HB13 := Lib.hid (on HB12.out hb13)
          clear hb13 HX12 HB12
          go_wp2
          go_ret
          exact ⟨rfl, HB13.out⟩
end Go.Proofs.Ythdgblfjgocnlaa
