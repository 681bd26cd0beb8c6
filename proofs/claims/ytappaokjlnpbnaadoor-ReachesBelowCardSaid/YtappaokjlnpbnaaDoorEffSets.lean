/- Sets of effects as numbers' bits (plain), and the program's methods on them: their contracts. -/
import Derived.Test.YtappaokjlnpbnaaDoorByt
import Derived.WalkKit
import Derived.Outline
import Derived.Lib.Hide
import Derived.KernelRfl
import Derived.WalkSpells
import Derived.WalkLawsBesides
import Derived.Laws.Rows
import Derived.Laws.BitsAllLaws
import Derived.Laws.EntriesVeiled
namespace Go.Proofs.YtappaokjlnpbnaaDoor.Eff
open Go.RowKit
theorem ret_bool {b c : Bool} (h : b = c) : Ending.returned (.bool b) = .returned (.bool c) := by rw [h]
/-- a without b. -/
def anot (a b : Nat) : Nat := a &&& (18446744073709551615 - b)
def has (t a : Nat) : Bool := anot a t == 0
theorem anot_bits (a b : Nat) (ha : a < 18446744073709551616) (hb : b < 18446744073709551616) : bits .andNot .u64 (a : Int) (b : Int) = ((anot a b : Nat) : Int) := u64_andNot_nat a b ha hb
theorem int_eq0 (x : Nat) (b : Bool) (h : (x == 0) = b) : (((x : Nat) : Int) == 0) = b := by
  rw [← h, Bool.eq_iff_iff, beq_iff_eq, beq_iff_eq]; omega
theorem int_ne0 (x : Nat) (b : Bool) (h : (x == 0) = b) : (((x : Nat) : Int) != 0) = !b := by
  rw [← h, bne]; congr 1; rw [Bool.eq_iff_iff, beq_iff_eq, beq_iff_eq]; omega
/-- sets that are there: a call made them; t: all of them. -/
def There (w : World) (b o t : Nat) : Prop := w.cell? ⟨b, o, none⟩ = some (.bool true) ∧ w.cell? ⟨b, o + 1, none⟩ = some (.int .u64 (t : Int))
theorem There.below {w w' : World} {b o t : Nat} (h : There w b o t) (hb : Below w.heap.size w w') : There w' b o t :=
  ⟨(hb.cell (World.block_lt_of_cell? w _ h.1)).trans h.1, (hb.cell (World.block_lt_of_cell? w _ h.2)).trans h.2⟩
/-- sets that are not. -/
def Not (w : World) (p : Option Addr) : Prop := p = none ∨ ∃ b o, p = some ⟨b, o, none⟩ ∧ w.cell? ⟨b, o, none⟩ = some (.bool false)
theorem Not.below {w w' : World} {p : Option Addr} (h : Not w p) (hb : Below w.heap.size w w') : Not w' p := by
  rcases h with rfl | ⟨b, o, rfl, hc⟩
  · exact .inl rfl
  · exact .inr ⟨b, o, rfl, (hb.cell (World.block_lt_of_cell? w _ hc)).trans hc⟩
theorem there_yes (b o t : Nat) (w : World) (h : There w b o t) : Calls Tryd.prog 110 #[.pointer (some ⟨b, o, none⟩)] w fun e w' => e = .returned (.bool true) ∧ w = w' := by
  have h1 := h.1
  clear h
  go_enter Tryd.func110, Tryd.ntmps110
  go_wp2
  go_ret
  exact ⟨rfl, rfl⟩
theorem there_no (p : Option Addr) (w : World) (h : Not w p) : Calls Tryd.prog 110 #[.pointer p] w fun e w' => e = .returned (.bool false) ∧ w = w' := by
  rcases h with rfl | ⟨b, o, rfl, hc⟩
  · go_enter Tryd.func110, Tryd.ntmps110
    go_wp2
    go_ret
    exact ⟨rfl, rfl⟩
  · go_enter Tryd.func110, Tryd.ntmps110
    go_wp2
    go_ret
    exact ⟨rfl, rfl⟩
/-- sets as a list of numbers in one block. -/
def setCells (xs : List Nat) : Array Value := (xs.map fun (a : Nat) => Value.int .u64 (a : Int)).toArray
theorem set_cell {w : World} {B : Nat} {xs : List Nat} (h : w.heap[B]? = some (.cells (setCells xs) 25 (0, 0))) (k : Nat) (hk : k < xs.length) : w.cell? ⟨B, k, none⟩ = some (.int .u64 ((xs[k] : Nat) : Int)) := by
  rw [cell_of_row _ _ _ _ _ _ h]
  simp [setCells, hk]
theorem all_no {xs : List Nat} {k x t : Nat} {hk : k < xs.length} (hx : x = xs[k]) (h : has t x = false) : xs.all (has t) = false := by
  rw [Bool.eq_false_iff]
  intro ha
  rw [List.all_eq_true] at ha
  have := ha xs[k] (List.getElem_mem hk)
  rw [← hx, h] at this
  cases this
set_option maxHeartbeats 1000000 in
theorem sets_yes (b o t B : Nat) (xs : List Nat) (n : Nat) (hn : n = xs.length) (hl : n ≤ 1000) (ht : t < 18446744073709551616) (ha : ∀ a ∈ xs, a < 18446744073709551616) (w : World) (h : There w b o t) (hB : w.heap[B]? = some (.cells (setCells xs) 25 (0, 0))) :
    Calls Tryd.prog 106 #[.pointer (some ⟨b, o, none⟩), .slice (some ⟨B, 0, none⟩) n n] w fun e w' => e = .returned (.bool (xs.all (has t))) ∧ w = w' := by
  have HT := Lib.hid h
  have HBK := Lib.hid hB
  have HA := Lib.hid ha
  have HTL := Lib.hid ht
  have HN := Lib.hid hn
  have h2 := h.2
  clear h hB ha ht hn
  go_enter Tryd.func106, Tryd.ntmps106
  go_wp2
  go_loop [9] (fun i => ∃ k : Nat, k ≤ n ∧ i = .int .i64 k ∧ Hid ((xs.take k).all (has t) = true)) (fun i => n - (intOf i).toNat)
  case atStart => exact ⟨0, by omega, rfl, rfl⟩
  case round =>
    obtain ⟨k, hk, rfl, hall⟩ := hrel
    by_cases hlt : k < n
    · have hkl : k < xs.length := by have := HN.out; omega
      have hc := set_cell HBK.out k hkl
      have hax := HA.out xs[k] (List.getElem_mem hkl)
      have HS := Lib.hid (List.take_succ_eq_append_getElem hkl)
      obtain ⟨x, hx⟩ : ∃ x, x = xs[k] := ⟨_, rfl⟩
      rw [← hx] at hc hax
      have hbits := anot_bits x t hax HTL.out
      have HAX := Lib.hid hax
      have HX := Lib.hid hx
      clear hax hx
      by_cases hh : has t x = true
      · have h0 := int_ne0 (anot x t) true hh
        have HH := Lib.hid hh
        clear hh
        generalize anot x t = y at hbits h0
        go_wp2_with (go_at_call 110; refine (there_yes _ _ _ _ HT.out).mono ?_; rintro e w' ⟨rfl, rfl⟩)
        go_round
        case rel => exact ⟨k + 1, by omega, by go_num, by show _ = _; rw [HS.out, List.all_append, ← HX.out]; simp [hall.out, HH.out]⟩
        case measure => simp [intOf]; omega
      · have hh' : has t x = false := by simpa using hh
        have h0 := int_ne0 (anot x t) false hh'
        have HH := Lib.hid hh'
        clear hh hh'
        generalize anot x t = y at hbits h0
        go_wp2_with (go_at_call 110; refine (there_yes _ _ _ _ HT.out).mono ?_; rintro e w' ⟨rfl, rfl⟩)
        go_ret
        exact ⟨ret_bool (all_no HX.out HH.out).symm, rfl⟩
    · obtain rfl : k = n := by omega
      go_wp2
      go_ret
      exact ⟨ret_bool (by rw [← hall.out, List.take_of_length_le (by rw [← HN.out]; exact Nat.le_refl _)]), rfl⟩
set_option maxHeartbeats 1000000 in
theorem sets_no (p : Option Addr) (B : Nat) (xs : List Nat) (n : Nat) (hn : n = xs.length) (h1 : 1 ≤ n) (hl : n ≤ 1000) (w : World) (h : Not w p) (hB : w.heap[B]? = some (.cells (setCells xs) 25 (0, 0))) :
    Calls Tryd.prog 106 #[.pointer p, .slice (some ⟨B, 0, none⟩) n n] w fun e w' => e = .returned (.bool false) ∧ w = w' := by
  have HT := Lib.hid h
  obtain ⟨x0, hc⟩ : ∃ x0 : Nat, w.cell? ⟨B, 0, none⟩ = some (.int .u64 (x0 : Int)) := ⟨_, set_cell hB 0 (by omega)⟩
  clear h hB hn
  have hn0 : (0 : Int) < (n : Int) := by omega
  go_enter Tryd.func106, Tryd.ntmps106
  go_wp2
  refine wp_loop_rounds 1 ?_
  rw [rounds_succ]
  go_wp2_with (go_at_call 110; refine (there_no _ _ HT.out).mono ?_; rintro e w' ⟨rfl, rfl⟩)
  go_ret
  exact ⟨rfl, rfl⟩
theorem set1 (W : World) (a : Nat) : (W.alloc (.cells #[.int .u64 (a : Int)] 25)).heap[W.heap.size]? = some (.cells (setCells [a]) 25 (0, 0)) := heap_alloc_new W _
theorem set2 (W : World) (a b : Nat) : (W.alloc (.cells #[.int .u64 (a : Int), .int .u64 (b : Int)] 25)).heap[W.heap.size]? = some (.cells (setCells [a, b]) 25 (0, 0)) := heap_alloc_new W _
/-- whether sets are there, and which they are: a pointer's state. -/
inductive St (w : World) : Option Addr → Option Nat → Prop
  | there {b o t : Nat} (ht : t < 18446744073709551616) (h : There w b o t) : St w (some ⟨b, o, none⟩) (some t)
  | not {p : Option Addr} (h : Not w p) : St w p none
theorem St.below {w w' : World} {p : Option Addr} {m : Option Nat} (h : St w p m) (hb : Below w.heap.size w w') : St w' p m := by
  cases h with
  | there ht h => exact .there ht (h.below hb)
  | not h => exact .not (h.below hb)
/-- is that a set of them? one part of another one? -/
def hasM : Option Nat → Nat → Bool
  | some t, a => has t a
  | none, _ => false
def belowM (m : Option Nat) (a b : Nat) : Bool := hasM m a && hasM m b && (anot a b == 0)
def joinM (m : Option Nat) (a b : Nat) : Nat := if hasM m a && hasM m b then a ||| b else 0
def meetM (m : Option Nat) (a b : Nat) : Nat := if hasM m a && hasM m b then a &&& b else 0
def topM : Option Nat → Nat
  | some t => t
  | none => 0
theorem sets_one (p : Option Addr) (m : Option Nat) (a : Nat) (ha : a < 18446744073709551616) (W : World) (h : St W p m) :
    Calls Tryd.prog 106 #[.pointer p, .slice (some ⟨W.heap.size, 0, none⟩) 1 1] (W.alloc (.cells #[.int .u64 (a : Int)] 25)) fun e w' => e = .returned (.bool (hasM m a)) ∧ W.alloc (.cells #[.int .u64 (a : Int)] 25) = w' := by
  have h' := h.below ((Below.refl _ W).alloc (Nat.le_refl _) (.cells #[.int .u64 (a : Int)] 25))
  clear h
  cases h' with
  | there ht h =>
    refine (sets_yes _ _ _ W.heap.size [a] 1 rfl (by omega) ht (by simpa using ha) _ h (set1 W a)).mono ?_
    rintro e w' ⟨rfl, rfl⟩
    exact ⟨ret_bool (by simp [hasM]), rfl⟩
  | not h => exact sets_no p W.heap.size [a] 1 rfl (by omega) (by omega) _ h (set1 W a)
theorem sets_two (p : Option Addr) (m : Option Nat) (a b : Nat) (ha : a < 18446744073709551616) (hb : b < 18446744073709551616) (W : World) (h : St W p m) :
    Calls Tryd.prog 106 #[.pointer p, .slice (some ⟨W.heap.size, 0, none⟩) 2 2] (W.alloc (.cells #[.int .u64 (a : Int), .int .u64 (b : Int)] 25)) fun e w' => e = .returned (.bool (hasM m a && hasM m b)) ∧ W.alloc (.cells #[.int .u64 (a : Int), .int .u64 (b : Int)] 25) = w' := by
  have h' := h.below ((Below.refl _ W).alloc (Nat.le_refl _) (.cells #[.int .u64 (a : Int), .int .u64 (b : Int)] 25))
  clear h
  cases h' with
  | there ht h =>
    refine (sets_yes _ _ _ W.heap.size [a, b] 2 rfl (by omega) ht (by intro x hx; simp at hx; rcases hx with rfl | rfl <;> assumption) _ h (set2 W a b)).mono ?_
    rintro e w' ⟨rfl, rfl⟩
    exact ⟨ret_bool (by simp [hasM]), rfl⟩
  | not h => exact sets_no p W.heap.size [a, b] 2 rfl (by omega) (by omega) _ h (set2 W a b)
set_option maxHeartbeats 1000000 in
theorem has_any (p : Option Addr) (m : Option Nat) (a : Nat) (ha : a < 18446744073709551616) (w : World) (h : St w p m) :
    Calls Tryd.prog 102 #[.pointer p, .int .u64 (a : Int)] w fun e w' => e = .returned (.bool (hasM m a)) ∧ Below w.heap.size w w' := by
  have H := Lib.hid (sets_one p m a ha w h)
  clear h ha
  generalize hasM m a = r at H ⊢
  go_enter Tryd.func102, Tryd.ntmps102
  go_wp2_with (go_at_call 106; refine H.out.mono ?_; rintro e w' ⟨rfl, rfl⟩)
  go_ret
  exact ⟨rfl, (Below.refl _ w).alloc (Nat.le_refl _) _⟩
set_option maxHeartbeats 1000000 in
theorem below_any (p : Option Addr) (m : Option Nat) (a b : Nat) (ha : a < 18446744073709551616) (hb : b < 18446744073709551616) (w : World) (h : St w p m) :
    Calls Tryd.prog 100 #[.pointer p, .int .u64 (a : Int), .int .u64 (b : Int)] w fun e w' => e = .returned (.bool (belowM m a b)) ∧ Below w.heap.size w w' := by
  have H := Lib.hid (sets_two p m a b ha hb w h)
  have hbits := anot_bits a b ha hb
  have h0 := int_eq0 (anot a b) _ rfl
  clear h ha hb
  unfold belowM
  generalize (hasM m a && hasM m b) = r at H ⊢
  generalize (anot a b == 0) = q at h0 ⊢
  generalize anot a b = y at hbits h0
  cases r with
  | true =>
    go_enter Tryd.func100, Tryd.ntmps100
    go_wp2_with (go_at_call 106; refine H.out.mono ?_; rintro e w' ⟨rfl, rfl⟩)
    go_ret
    exact ⟨ret_bool (by simp), (Below.refl _ w).alloc (Nat.le_refl _) _⟩
  | false =>
    go_enter Tryd.func100, Tryd.ntmps100
    go_wp2_with (go_at_call 106; refine H.out.mono ?_; rintro e w' ⟨rfl, rfl⟩)
    go_ret
    exact ⟨ret_bool (by simp), (Below.refl _ w).alloc (Nat.le_refl _) _⟩
end Go.Proofs.YtappaokjlnpbnaaDoor.Eff
