/- Joins, meets, bottom and top of sets of effects, and how sets are made: the program's contracts. -/
import Derived.Test.YtappaokjlnpbnaaDoorEffSets
namespace Go.Proofs.YtappaokjlnpbnaaDoor.Eff
open Go.RowKit
theorem or_bits (a b : Nat) (ha : a < 18446744073709551616) (hb : b < 18446744073709551616) : bits .or .u64 (a : Int) (b : Int) = ((a ||| b : Nat) : Int) := u64_or_nat a b ha hb
theorem and_bits (a b : Nat) (ha : a < 18446744073709551616) (hb : b < 18446744073709551616) : bits .and .u64 (a : Int) (b : Int) = ((a &&& b : Nat) : Int) := u64_and_nat a b ha hb
theorem alloc_size (w : World) (o : Obj) : (w.alloc o).heap.size = w.heap.size + 1 := Array.size_push ..
theorem ret_u64 {x y : Nat} (h : x = y) : Ending.returned (.int .u64 (x : Int)) = .returned (.int .u64 (y : Int)) := by rw [h]
theorem join_fn (a b : Nat) (ha : a < 18446744073709551616) (hb : b < 18446744073709551616) (w : World) : Calls Tryd.prog 108 #[.int .u64 (a : Int), .int .u64 (b : Int)] w fun e w' => e = .returned (.int .u64 ((a ||| b : Nat) : Int)) ∧ w = w' := by
  have hbits := or_bits a b ha hb
  generalize (a ||| b) = y at hbits ⊢
  go_enter Tryd.func108, Tryd.ntmps108
  go_wp2
  go_ret
  exact ⟨rfl, rfl⟩
set_option maxHeartbeats 1000000 in
theorem puts_join (p : Option Addr) (m : Option Nat) (a b : Nat) (ha : a < 18446744073709551616) (hb : b < 18446744073709551616) (w : World) (h : St w p m) :
    Calls Tryd.prog 107 #[.pointer p, .agg #[.func (.func 108) #[] #[]], .int .u64 (a : Int), .int .u64 (b : Int)] w fun e w' => e = .returned (.int .u64 ((joinM m a b : Nat) : Int)) ∧ Below w.heap.size w w' := by
  have H0 := sets_two p m a b ha hb _ (h.below ((Below.refl _ w).alloc (Nat.le_refl _) (.cells #[.func (.func 108) #[] #[]] 146)))
  rw [alloc_size] at H0
  have H := Lib.hid H0
  clear H0
  have HF := Lib.hid (fun W => join_fn a b ha hb W)
  have HB : Below w.heap.size w ((w.alloc (.cells #[.func (.func 108) #[] #[]] 146)).alloc (.cells #[.int .u64 (a : Int), .int .u64 (b : Int)] 25)) := ((Below.refl _ w).alloc (Nat.le_refl _) _).alloc (by rw [alloc_size]; omega) _
  have HBh := Lib.hid HB
  clear h ha hb HB
  unfold joinM
  generalize (a ||| b) = y at HF ⊢
  generalize (hasM m a && hasM m b) = r at H ⊢
  cases r with
  | true =>
    go_enter Tryd.func107, Tryd.ntmps107
    go_wp2_with fail
    refine H.out.mono ?_
    rintro e w' ⟨rfl, rfl⟩
    go_wp2_with fail
    refine (HF.out _).mono ?_
    rintro e w' ⟨rfl, rfl⟩
    go_wp2
    go_ret
    exact ⟨ret_u64 (by simp), HBh.out⟩
  | false =>
    go_enter Tryd.func107, Tryd.ntmps107
    go_wp2_with fail
    refine H.out.mono ?_
    rintro e w' ⟨rfl, rfl⟩
    go_wp2
    go_ret
    exact ⟨ret_u64 (by simp), HBh.out⟩
set_option maxHeartbeats 1000000 in
theorem join_any (p : Option Addr) (m : Option Nat) (a b : Nat) (ha : a < 18446744073709551616) (hb : b < 18446744073709551616) (w : World) (h : St w p m) :
    Calls Tryd.prog 103 #[.pointer p, .int .u64 (a : Int), .int .u64 (b : Int)] w fun e w' => e = .returned (.int .u64 ((joinM m a b : Nat) : Int)) ∧ Below w.heap.size w w' := by
  have H := Lib.hid (puts_join p m a b ha hb w h)
  clear h ha hb
  generalize joinM m a b = y at H ⊢
  go_enter Tryd.func103, Tryd.ntmps103
  go_wp2_with fail
  refine H.out.mono ?_
  rintro e w' ⟨rfl, hb⟩
  go_wp2
  go_ret
  exact ⟨rfl, hb⟩
theorem meet_fn (a b : Nat) (ha : a < 18446744073709551616) (hb : b < 18446744073709551616) (w : World) : Calls Tryd.prog 109 #[.int .u64 (a : Int), .int .u64 (b : Int)] w fun e w' => e = .returned (.int .u64 ((a &&& b : Nat) : Int)) ∧ w = w' := by
  have hbits := and_bits a b ha hb
  generalize (a &&& b) = y at hbits ⊢
  go_enter Tryd.func109, Tryd.ntmps109
  go_wp2
  go_ret
  exact ⟨rfl, rfl⟩
set_option maxHeartbeats 1000000 in
theorem puts_meet (p : Option Addr) (m : Option Nat) (a b : Nat) (ha : a < 18446744073709551616) (hb : b < 18446744073709551616) (w : World) (h : St w p m) :
    Calls Tryd.prog 107 #[.pointer p, .agg #[.func (.func 109) #[] #[]], .int .u64 (a : Int), .int .u64 (b : Int)] w fun e w' => e = .returned (.int .u64 ((meetM m a b : Nat) : Int)) ∧ Below w.heap.size w w' := by
  have H0 := sets_two p m a b ha hb _ (h.below ((Below.refl _ w).alloc (Nat.le_refl _) (.cells #[.func (.func 109) #[] #[]] 146)))
  rw [alloc_size] at H0
  have H := Lib.hid H0
  clear H0
  have HF := Lib.hid (fun W => meet_fn a b ha hb W)
  have HB : Below w.heap.size w ((w.alloc (.cells #[.func (.func 109) #[] #[]] 146)).alloc (.cells #[.int .u64 (a : Int), .int .u64 (b : Int)] 25)) := ((Below.refl _ w).alloc (Nat.le_refl _) _).alloc (by rw [alloc_size]; omega) _
  have HBh := Lib.hid HB
  clear h ha hb HB
  unfold meetM
  generalize (a &&& b) = y at HF ⊢
  generalize (hasM m a && hasM m b) = r at H ⊢
  cases r with
  | true =>
    go_enter Tryd.func107, Tryd.ntmps107
    go_wp2_with fail
    refine H.out.mono ?_
    rintro e w' ⟨rfl, rfl⟩
    go_wp2_with fail
    refine (HF.out _).mono ?_
    rintro e w' ⟨rfl, rfl⟩
    go_wp2
    go_ret
    exact ⟨ret_u64 (by simp), HBh.out⟩
  | false =>
    go_enter Tryd.func107, Tryd.ntmps107
    go_wp2_with fail
    refine H.out.mono ?_
    rintro e w' ⟨rfl, rfl⟩
    go_wp2
    go_ret
    exact ⟨ret_u64 (by simp), HBh.out⟩
set_option maxHeartbeats 1000000 in
theorem meet_any (p : Option Addr) (m : Option Nat) (a b : Nat) (ha : a < 18446744073709551616) (hb : b < 18446744073709551616) (w : World) (h : St w p m) :
    Calls Tryd.prog 104 #[.pointer p, .int .u64 (a : Int), .int .u64 (b : Int)] w fun e w' => e = .returned (.int .u64 ((meetM m a b : Nat) : Int)) ∧ Below w.heap.size w w' := by
  have H := Lib.hid (puts_meet p m a b ha hb w h)
  clear h ha hb
  generalize meetM m a b = y at H ⊢
  go_enter Tryd.func104, Tryd.ntmps104
  go_wp2_with fail
  refine H.out.mono ?_
  rintro e w' ⟨rfl, hb⟩
  go_wp2
  go_ret
  exact ⟨rfl, hb⟩
theorem bottom_any (p : Option Addr) (w : World) : Calls Tryd.prog 101 #[.pointer p] w fun e w' => e = .returned (.int .u64 0) ∧ w = w' := by
  go_enter Tryd.func101, Tryd.ntmps101
  go_wp2
  go_ret
  exact ⟨rfl, rfl⟩
theorem top_any (p : Option Addr) (m : Option Nat) (w : World) (h : St w p m) : Calls Tryd.prog 105 #[.pointer p] w fun e w' => e = .returned (.int .u64 ((topM m : Nat) : Int)) ∧ w = w' := by
  cases h with
  | @there b o t ht h =>
    have HH := Lib.hid h
    have h2 := h.2
    clear h
    go_enter Tryd.func105, Tryd.ntmps105
    go_wp2_with fail
    refine (there_yes _ _ _ _ HH.out).mono ?_
    rintro e w' ⟨rfl, rfl⟩
    go_wp2
    go_ret
    exact ⟨rfl, rfl⟩
  | not h =>
    have HH := Lib.hid h
    clear h
    go_enter Tryd.func105, Tryd.ntmps105
    go_wp2_with fail
    refine (there_no _ _ HH.out).mono ?_
    rintro e w' ⟨rfl, rfl⟩
    go_wp2
    go_ret
    exact ⟨rfl, rfl⟩
theorem new_no (n : Int) (h : n < 0 ∨ 64 < n) (w : World) : Calls Tryd.prog 57 #[.int .i64 n] w fun e w' => e = .returned (.tuple #[.pointer none, .int .i64 1]) ∧ Below w.heap.size w w' := by
  rcases h with h | h
  · have h1 : decide (n < 0) = true := by simpa using h
    go_enter Tryd.func57, Tryd.ntmps57
    go_wp2
    go_ret2
    exact ⟨rfl, Below.refl _ w⟩
  · have h1 : decide (n < 0) = false := by simp; omega
    have h2 : decide (64 < n) = true := by simpa using h
    go_enter Tryd.func57, Tryd.ntmps57
    go_wp2
    go_ret2
    exact ⟨rfl, Below.refl _ w⟩
def full (n : Nat) : Nat := 2 ^ n - 1
theorem full_lt (n : Nat) (hn : n ≤ 64) : full n < 18446744073709551616 := by
  have : 2 ^ n ≤ 2 ^ 64 := Nat.pow_le_pow_right (by omega) hn
  unfold full
  omega
theorem full_wrap (n : Nat) (hn : n ≤ 64) : IntKind.u64.wrap (IntKind.u64.wrap (2 ^ n) - 1) = ((full n : Nat) : Int) := by
  have h : n = 64 ∨ n < 64 := by omega
  rcases h with rfl | h
  · rfl
  · have h1 : 2 ^ n < 2 ^ 64 := Nat.pow_lt_pow_right (by omega) h
    have h2 : 0 < 2 ^ n := Nat.two_pow_pos n
    have h3 : ((2 : Int) ^ n) = ((2 ^ n : Nat) : Int) := by norm_cast
    unfold full
    rw [h3]
    generalize 2 ^ n = y at *
    rw [IntKind.wrap_u64, IntKind.wrap_u64]
    omega
theorem new_yes (n : Nat) (hn : n ≤ 64) (w : World) : Calls Tryd.prog 57 #[.int .i64 (n : Int)] w fun e w' => e = .returned (.tuple #[.pointer (some ⟨w.heap.size, 0, none⟩), .int .i64 0]) ∧ w' = w.alloc (.cells #[.bool true, .int .u64 ((full n : Nat) : Int)] 61) := by
  have hw := Lib.hid (full_wrap n hn)
  have hm := Lib.hid (Nat.min_eq_left hn)
  have h1 : decide ((n : Int) < 0) = false := by simp
  have h2 : decide ((64 : Int) < (n : Int)) = false := by simp; omega
  clear hn
  go_enter Tryd.func57, Tryd.ntmps57
  go_wp2_with fail
  go_ret2
  exact ⟨rfl, by rw [hm.out, hw.out]⟩
theorem new_st (n : Nat) (hn : n ≤ 64) (w : World) : St (w.alloc (.cells #[.bool true, .int .u64 ((full n : Nat) : Int)] 61)) (some ⟨w.heap.size, 0, none⟩) (some (full n)) :=
  .there (full_lt n hn) ⟨by rw [cell_of_row _ _ _ _ _ _ (heap_alloc_new w _)]; rfl, by rw [cell_of_row _ _ _ _ _ _ (heap_alloc_new w _)]; rfl⟩
end Go.Proofs.YtappaokjlnpbnaaDoor.Eff
