/- Join, Meet, Bottom, Top of a lattice. -/
import Derived.Test.YtappaokjlnpbnaaDoorLat
import Derived.Deep.Cut
import Derived.Deep.CutRange
namespace Go.Proofs.YtappaokjlnpbnaaDoor
open Go.RowKit Go.Proofs.YtappaokjlnpbnaaDoorW.PrintWords
def pickF (R : List Nat) (a b : Nat) : Nat := if a < R.length ∧ b < R.length then firstAll R (R.getD a 0 &&& R.getD b 0) else 0
def endF (R : List Nat) : Nat := if R.length = 0 then 0 else firstAll R (2 ^ R.length - 1)
def joinF (rows : List Nat) (a b : Nat) : Nat := pickF rows a b
def meetF (rows : List Nat) (a b : Nat) : Nat := pickF (downs rows) a b
def botF (rows : List Nat) : Nat := endF rows
def topF (rows : List Nat) : Nat := endF (downs rows)
theorem above_fn (B : Nat) (w : World) : Calls Tryd.prog 47 #[.pointer (some ⟨B, 0, none⟩)] w fun e w' => e = .returned (.pointer (some ⟨B, 1, none⟩)) ∧ w = w' := by
  go_enter Tryd.func47, Tryd.ntmps47
  go_wp2
  go_ret
  exact ⟨rfl, rfl⟩
theorem below_fn (B : Nat) (w : World) : Calls Tryd.prog 48 #[.pointer (some ⟨B, 0, none⟩)] w fun e w' => e = .returned (.pointer (some ⟨B, 65, none⟩)) ∧ w = w' := by
  go_enter Tryd.func48, Tryd.ntmps48
  go_wp2
  go_ret
  exact ⟨rfl, rfl⟩
theorem drewN_zero (w : World) : w.drewN 0 = w := rfl
theorem LatAt.drewN {w : World} {B : Nat} {rows : List Nat} (h : LatAt w B rows) (q : Nat) : LatAt (w.drewN q) B rows := h.below (pw_below_drewN (Below.refl _ _) q)
theorem Arr.drewN {w : World} {B off : Nat} {R : List Nat} (h : Arr w B off R) (q : Nat) : Arr (w.drewN q) B off R := h
theorem Tab.drewN {w : World} (h : Tab w) (q : Nat) : Tab (w.drewN q) := h
theorem bits_up {rows : List Nat} (h : rows = [] ∨ Fine rows) (i j : Nat) (hb : (rows.getD i 0).testBit j = true) : j < rows.length := by
  rcases h with rfl | h
  · simp at hb
  · exact h.fits.bit i j hb
set_option maxRecDepth 20000 in
set_option maxHeartbeats 1000000 in
theorem one_of (g off : Nat) (R : List Nat) (v : Value) (rows : List Nat) (a b : Nat) (w : World) (h : LatV w v rows) (hl : R.length = rows.length) (hA : ∀ B, v = .pointer (some ⟨B, 0, none⟩) → Arr w B off R) (hR : ∀ i j, (R.getD i 0).testBit j = true → j < R.length)
    (hg : ∀ B W, Calls Tryd.prog g #[.pointer (some ⟨B, 0, none⟩)] W fun e w' => e = .returned (.pointer (some ⟨B, off, none⟩)) ∧ W = w') (hT : Tab w) (hgn : g = 47 ∨ g = 48) :
    Calls Tryd.prog 46 #[v, .func (.func g) #[] #[], .int .u64 (a : Int), .int .u64 (b : Int)] w fun e w' => e = .returned (.int .u64 ((pickF R a b : Nat) : Int)) ∧ Below w.heap.size w w' := by
  have H1 := Lib.hid (both_any v rows a b w h)
  have HT := Lib.hid hT
  rw [← hl] at H1
  by_cases hab : a < R.length ∧ b < R.length
  · rw [show (decide (a < R.length) && decide (b < R.length)) = true by simp [hab]] at H1
    rcases h with ⟨rfl, rfl⟩ | ⟨B, rfl, h⟩
    · rw [hl] at hab
      simp at hab
    · have HG := Lib.hid (hg B)
      have HA := Lib.hid (hA B rfl)
      have HP := Lib.hid (show pickF R a b = firstAll R (R.getD a 0 &&& R.getD b 0) by unfold pickF; rw [if_pos hab])
      obtain ⟨ca, la⟩ := HA.out.2 a hab.1
      obtain ⟨cb, lb⟩ := HA.out.2 b hab.2
      have HS := Lib.hid (show ∀ j, (R.getD a 0 &&& R.getD b 0).testBit j = true → j < R.length from fun j hj => by
        rw [Nat.testBit_and, Bool.and_eq_true] at hj
        exact hR a j hj.1)
      have h64 := HA.out.1
      have hal : a < 64 := by omega
      have hbl : b < 64 := by omega
      obtain ⟨x, hx⟩ : ∃ x, x = R.getD a 0 := ⟨_, rfl⟩
      obtain ⟨y, hy⟩ : ∃ x, x = R.getD b 0 := ⟨_, rfl⟩
      rw [← hx] at ca la HS HP
      rw [← hy] at cb lb HS HP
      have hand := and_nat x y la lb
      have hle : x &&& y < 18446744073709551616 := Nat.lt_of_le_of_lt Nat.and_le_left la
      have HC := Lib.hid (fun q => rall_any B off R (x &&& y) hle HS.out (w.drewN q) (HA.out.drewN q) (HT.out.drewN q))
      rw [← HP.out] at HC
      have i1 : (0 : Int) ≤ (a : Int) := by omega
      have i2 : (a : Int) < 64 := by omega
      have i3 : (0 : Int) ≤ (b : Int) := by omega
      have i4 : (b : Int) < 64 := by omega
      clear hx hy hab h hA hg hT hR hl h64
      rcases hgn with rfl | rfl
      all_goals
        go_enter Tryd.func46, Tryd.ntmps46
        go_wp2_with fail
        refine H1.out.mono ?_
        rintro e w1 ⟨rfl, rfl⟩
        go_wp2_with fail
        refine (HG.out w).mono ?_
        rintro e w1 ⟨rfl, rfl⟩
        go_wp2_with fail
        go_quiet ((go_at_call 70; exact Calls.quiet_of_same ((HC.out _).mono (fun e w' h => ⟨h.1, h.2.symm⟩))))
        go_wp2
        go_ret
        exact ⟨rfl, pw_below_drewN (Below.refl _ _) _⟩
  · rw [show (decide (a < R.length) && decide (b < R.length)) = false by simp; omega] at H1
    have HP := Lib.hid (show pickF R a b = 0 by unfold pickF; rw [if_neg hab])
    clear h hA hg hT hR hl hab
    go_enter Tryd.func46, Tryd.ntmps46
    go_wp2_with fail
    refine H1.out.mono ?_
    rintro e w1 ⟨rfl, rfl⟩
    go_wp2
    go_ret
    exact ⟨by rw [HP.out]; rfl, Below.refl _ _⟩
theorem LatAt.arr {w : World} {B : Nat} {rows : List Nat} (h : LatAt w B rows) : Arr w B 1 rows := ⟨h.le, fun i hi => ⟨h.up i hi, h.lt i⟩⟩
theorem LatAt.darr {w : World} {B : Nat} {rows : List Nat} (h : LatAt w B rows) : Arr w B 65 (downs rows) := ⟨by rw [downs_length]; exact h.le, fun i hi => ⟨h.dn i (by rw [downs_length] at hi; exact hi), h.dlt i⟩⟩
theorem LatV.ok {w : World} {v : Value} {rows : List Nat} (h : LatV w v rows) : rows = [] ∨ Fine rows := by
  rcases h with ⟨_, rfl⟩ | ⟨_, _, h⟩
  · exact .inl rfl
  · exact h.ok
theorem LatV.arr {w : World} {v : Value} {rows : List Nat} (h : LatV w v rows) : ∀ B, v = .pointer (some ⟨B, 0, none⟩) → Arr w B 1 rows := by
  rcases h with ⟨rfl, rfl⟩ | ⟨B, rfl, h⟩
  · intro B e
    cases e
  · intro B' e
    cases e
    exact h.arr
theorem LatV.darr {w : World} {v : Value} {rows : List Nat} (h : LatV w v rows) : ∀ B, v = .pointer (some ⟨B, 0, none⟩) → Arr w B 65 (downs rows) := by
  rcases h with ⟨rfl, rfl⟩ | ⟨B, rfl, h⟩
  · intro B e
    cases e
  · intro B' e
    cases e
    exact h.darr
theorem down_bits (rows : List Nat) (i j : Nat) (h : ((downs rows).getD i 0).testBit j = true) : j < (downs rows).length := by rw [downs_length]; exact downs_bits rows i j h
theorem join_any (v : Value) (rows : List Nat) (a b : Nat) (w : World) (h : LatV w v rows) (hT : Tab w) : Calls Tryd.prog 17 #[v, .int .u64 (a : Int), .int .u64 (b : Int)] w fun e w' => e = .returned (.int .u64 ((joinF rows a b : Nat) : Int)) ∧ Below w.heap.size w w' := by
  have HC := Lib.hid (one_of 47 1 rows v rows a b w h rfl h.arr (bits_up h.ok) above_fn hT (.inl rfl))
  clear h hT
  go_enter Tryd.func17, Tryd.ntmps17
  go_wp2_with fail
  refine HC.out.mono ?_
  rintro e w1 ⟨rfl, hb1⟩
  have HB := Lib.hid hb1
  clear hb1
  go_wp2
  go_ret
  exact ⟨rfl, HB.out⟩
theorem meet_any (v : Value) (rows : List Nat) (a b : Nat) (w : World) (h : LatV w v rows) (hT : Tab w) : Calls Tryd.prog 18 #[v, .int .u64 (a : Int), .int .u64 (b : Int)] w fun e w' => e = .returned (.int .u64 ((meetF rows a b : Nat) : Int)) ∧ Below w.heap.size w w' := by
  have HC := Lib.hid (one_of 48 65 (downs rows) v rows a b w h (downs_length rows) h.darr (down_bits rows) below_fn hT (.inr rfl))
  clear h hT
  go_enter Tryd.func18, Tryd.ntmps18
  go_wp2_with fail
  refine HC.out.mono ?_
  rintro e w1 ⟨rfl, hb1⟩
  have HB := Lib.hid hb1
  clear hb1
  go_wp2
  go_ret
  exact ⟨rfl, HB.out⟩
set_option maxRecDepth 20000 in
set_option maxHeartbeats 1000000 in
theorem end_of (g off : Nat) (R : List Nat) (v : Value) (rows : List Nat) (w : World) (h : LatV w v rows) (hl : R.length = rows.length) (hA : ∀ B, v = .pointer (some ⟨B, 0, none⟩) → Arr w B off R)
    (hg : ∀ B W, Calls Tryd.prog g #[.pointer (some ⟨B, 0, none⟩)] W fun e w' => e = .returned (.pointer (some ⟨B, off, none⟩)) ∧ W = w') (hT : Tab w) (hgn : g = 47 ∨ g = 48) :
    Calls Tryd.prog 55 #[v, .func (.func g) #[] #[]] w fun e w' => e = .returned (.int .u64 ((endF R : Nat) : Int)) ∧ Below w.heap.size w w' := by
  have HT := Lib.hid hT
  rcases h with ⟨rfl, rfl⟩ | ⟨B, rfl, h⟩
  · have HP := Lib.hid (show endF R = 0 by unfold endF; rw [if_pos (by simpa using hl)])
    clear hA hg hl
    go_enter Tryd.func55, Tryd.ntmps55
    go_wp2
    go_ret
    exact ⟨by rw [HP.out]; rfl, Below.refl _ _⟩
  · have HG := Lib.hid (hg B)
    have HA := Lib.hid (hA B rfl)
    have c0 := h.many
    have h64 := h.le
    rw [← hl] at c0 h64
    by_cases hz : R.length = 0
    · have HP := Lib.hid (show endF R = 0 by unfold endF; rw [if_pos hz])
      rw [hz] at c0
      clear hA hg hl h h64 hz
      go_enter Tryd.func55, Tryd.ntmps55
      go_wp2
      go_ret
      exact ⟨by rw [HP.out]; rfl, Below.refl _ _⟩
    · have HP := Lib.hid (show endF R = firstAll R (2 ^ R.length - 1) by unfold endF; rw [if_neg hz])
      have HS := Lib.hid (show ∀ j, (2 ^ R.length - 1).testBit j = true → j < R.length from fun j hj => by rw [Nat.testBit_two_pow_sub_one] at hj; simpa using hj)
      generalize hn : R.length = n at *
      have hle := two_pow_lt h64
      have hv : IntKind.u64.wrap (IntKind.u64.wrap (2 ^ n) - 1) = ((2 ^ n - 1 : Nat) : Int) := by
        have hp : 0 < 2 ^ n := Nat.pow_pos (by omega)
        have hle : 2 ^ n ≤ 2 ^ 64 := Nat.pow_le_pow_right (by omega) h64
        rw [show (2 : Nat) ^ 64 = 18446744073709551616 from rfl] at hle
        have e : (2 : Int) ^ n = ((2 ^ n : Nat) : Int) := by push_cast; rfl
        rw [e]
        generalize 2 ^ n = q at *
        rw [IntKind.wrap_u64, IntKind.wrap_u64]
        omega
      have HC := Lib.hid (fun q => rall_any B off R (2 ^ n - 1) hle (by rw [hn]; exact HS.out) (w.drewN q) (HA.out.drewN q) (HT.out.drewN q))
      rw [← HP.out] at HC
      have d0 : ((n : Int) == 0) = false := by rw [beq_eq_false_iff_ne]; omega
      clear hA hg hl h hn
      rcases hgn with rfl | rfl
      all_goals
        go_enter Tryd.func55, Tryd.ntmps55
        go_wp2_with fail
        go_quiet ((first | (go_at_call 70; exact Calls.quiet_of_same ((HC.out _).mono (fun e w' h => ⟨h.1, h.2.symm⟩))) | (go_at_call 47; exact Calls.quiet_of_same ((HG.out _).mono (fun e w' h => ⟨h.1, h.2.symm⟩))) | (go_at_call 48; exact Calls.quiet_of_same ((HG.out _).mono (fun e w' h => ⟨h.1, h.2.symm⟩)))))
        go_wp2
        go_ret
        exact ⟨rfl, pw_below_drewN (Below.refl _ _) _⟩
theorem bottom_any (v : Value) (rows : List Nat) (w : World) (h : LatV w v rows) (hT : Tab w) : Calls Tryd.prog 27 #[v] w fun e w' => e = .returned (.int .u64 ((botF rows : Nat) : Int)) ∧ Below w.heap.size w w' := by
  have HC := Lib.hid (end_of 47 1 rows v rows w h rfl h.arr above_fn hT (.inl rfl))
  clear h hT
  go_enter Tryd.func27, Tryd.ntmps27
  go_wp2_with fail
  refine HC.out.mono ?_
  rintro e w1 ⟨rfl, hb1⟩
  have HB := Lib.hid hb1
  clear hb1
  go_wp2
  go_ret
  exact ⟨rfl, HB.out⟩
theorem top_any (v : Value) (rows : List Nat) (w : World) (h : LatV w v rows) (hT : Tab w) : Calls Tryd.prog 29 #[v] w fun e w' => e = .returned (.int .u64 ((topF rows : Nat) : Int)) ∧ Below w.heap.size w w' := by
  have HC := Lib.hid (end_of 48 65 (downs rows) v rows w h (downs_length rows) h.darr below_fn hT (.inr rfl))
  clear h hT
  go_enter Tryd.func29, Tryd.ntmps29
  go_wp2_with fail
  refine HC.out.mono ?_
  rintro e w1 ⟨rfl, hb1⟩
  have HB := Lib.hid hb1
  clear hb1
  go_wp2
  go_ret
  exact ⟨rfl, HB.out⟩
end Go.Proofs.YtappaokjlnpbnaaDoor
