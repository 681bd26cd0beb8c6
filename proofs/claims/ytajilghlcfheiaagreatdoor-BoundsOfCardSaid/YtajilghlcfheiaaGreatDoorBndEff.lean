/- Sets of effects as numbers' bits (plain), and the program's methods on them: their contracts. -/
import Derived.Test.YtajilghlcfheiaaGreatDoorBndBase
import Derived.WalkKit
import Derived.Outline
import Derived.Lib.Hide
import Derived.KernelRfl
import Derived.WalkSpells
import Derived.WalkLawsBesides
import Derived.Laws.Rows
import Derived.Laws.BitsAllLaws
import Derived.Laws.EntriesVeiled
namespace Go.Proofs.YtajilghlcfheiaaGreatDoor.Bnd.Eff
set_option maxRecDepth 20000
open Go.RowKit
theorem ret_bool {b c : Bool} (h : b = c) : Ending.returned (.bool b) = .returned (.bool c) := by rw [h]
/-- a without b. -/
def anot (a b : Nat) : Nat := a &&& (18446744073709551615 - b)
def has (t a : Nat) : Bool := anot a t == 0
theorem anot_bits (a b : Nat) (ha : a < 18446744073709551616) (hb : b < 18446744073709551616) : bits .andNot .u64 (a : Int) (b : Int) = ((anot a b : Nat) : Int) := u64_andNot_nat a b ha hb
theorem int_eq0 (x : Nat) (b : Bool) (h : (x == 0) = b) : (((x : Nat) : Int) == 0) = b := by
  rw [← h, Bool.eq_iff_iff, beq_iff_eq, beq_iff_eq]; omega
theorem int_ne0 (x : Nat) (b : Bool) (h : (x == 0) = b) : (((x : Nat) : Int) != 0) = !b := by
  rw [← h, bne]; congr 1; rw [Bool.eq_iff_iff, beq_iff_eq, beq_iff_eq]; omega
/-- sets that are there: a call made them; t: all of them. -/
def There (w : World) (b o t : Nat) : Prop := w.cell? ⟨b, o, none⟩ = some (.bool true) ∧ w.cell? ⟨b, o + 1, none⟩ = some (.int .u64 (t : Int))
theorem There.below {w w' : World} {b o t : Nat} (h : There w b o t) (hb : Below w.heap.size w w') : There w' b o t :=
  ⟨(hb.cell (World.block_lt_of_cell? w _ h.1)).trans h.1, (hb.cell (World.block_lt_of_cell? w _ h.2)).trans h.2⟩
/-- sets that are not. -/
def Not (w : World) (p : Option Addr) : Prop := p = none ∨ ∃ b o, p = some ⟨b, o, none⟩ ∧ w.cell? ⟨b, o, none⟩ = some (.bool false)
theorem Not.below {w w' : World} {p : Option Addr} (h : Not w p) (hb : Below w.heap.size w w') : Not w' p := by
  rcases h with rfl | ⟨b, o, rfl, hc⟩
  · exact .inl rfl
  · exact .inr ⟨b, o, rfl, (hb.cell (World.block_lt_of_cell? w _ hc)).trans hc⟩
theorem there_yes (b o t : Nat) (w : World) (h : There w b o t) : Calls Tryz.prog 217 #[.pointer (some ⟨b, o, none⟩)] w fun e w' => e = .returned (.bool true) ∧ w = w' := by
  have h1 := h.1
  clear h
  go_enter Tryz.func217, Tryz.ntmps217
  go_wp2
  go_ret
  exact ⟨rfl, rfl⟩
theorem there_no (p : Option Addr) (w : World) (h : Not w p) : Calls Tryz.prog 217 #[.pointer p] w fun e w' => e = .returned (.bool false) ∧ w = w' := by
  rcases h with rfl | ⟨b, o, rfl, hc⟩
  · go_enter Tryz.func217, Tryz.ntmps217
    go_wp2
    go_ret
    exact ⟨rfl, rfl⟩
  · go_enter Tryz.func217, Tryz.ntmps217
    go_wp2
    go_ret
    exact ⟨rfl, rfl⟩
/-- sets as a list of numbers in one block. -/
def setCells (xs : List Nat) : Array Value := (xs.map fun (a : Nat) => Value.int .u64 (a : Int)).toArray
theorem set_cell {w : World} {B : Nat} {xs : List Nat} (h : w.heap[B]? = some (.cells (setCells xs) 66 (0, 0))) (k : Nat) (hk : k < xs.length) : w.cell? ⟨B, k, none⟩ = some (.int .u64 ((xs[k] : Nat) : Int)) := by
  rw [cell_of_row _ _ _ _ _ _ h]
  simp [setCells, hk]
theorem all_no {xs : List Nat} {k x t : Nat} {hk : k < xs.length} (hx : x = xs[k]) (h : has t x = false) : xs.all (has t) = false := by
  rw [Bool.eq_false_iff]
  intro ha
  rw [List.all_eq_true] at ha
  have := ha xs[k] (List.getElem_mem hk)
  rw [← hx, h] at this
  cases this
set_option maxHeartbeats 1000000 in
theorem sets_yes (b o t B : Nat) (xs : List Nat) (n : Nat) (hn : n = xs.length) (hl : n ≤ 1000) (ht : t < 18446744073709551616) (ha : ∀ a ∈ xs, a < 18446744073709551616) (w : World) (h : There w b o t) (hB : w.heap[B]? = some (.cells (setCells xs) 66 (0, 0))) :
    Calls Tryz.prog 213 #[.pointer (some ⟨b, o, none⟩), .slice (some ⟨B, 0, none⟩) n n] w fun e w' => e = .returned (.bool (xs.all (has t))) ∧ w = w' := by
  have HT := Lib.hid h
  have HBK := Lib.hid hB
  have HA := Lib.hid ha
  have HTL := Lib.hid ht
  have HN := Lib.hid hn
  have h2 := h.2
  clear h hB ha ht hn
  go_enter Tryz.func213, Tryz.ntmps213
  go_wp2
  go_loop [9] (fun i => ∃ k : Nat, k ≤ n ∧ i = .int .i64 k ∧ Hid ((xs.take k).all (has t) = true)) (fun i => n - (intOf i).toNat)
  case atStart => exact ⟨0, by omega, rfl, rfl⟩
  case round =>
    obtain ⟨k, hk, rfl, hall⟩ := hrel
    by_cases hlt : k < n
    · have hkl : k < xs.length := by have := HN.out; omega
      have hc := set_cell HBK.out k hkl
      have hax := HA.out xs[k] (List.getElem_mem hkl)
      have HS := Lib.hid (List.take_succ_eq_append_getElem hkl)
      obtain ⟨x, hx⟩ : ∃ x, x = xs[k] := ⟨_, rfl⟩
      rw [← hx] at hc hax
      have hbits := anot_bits x t hax HTL.out
      have HAX := Lib.hid hax
      have HX := Lib.hid hx
      clear hax hx
      by_cases hh : has t x = true
      · have h0 := int_ne0 (anot x t) true hh
        have HH := Lib.hid hh
        clear hh
        generalize anot x t = y at hbits h0
        go_wp2_with (go_at_call 217; refine (there_yes _ _ _ _ HT.out).mono ?_; rintro e w' ⟨rfl, rfl⟩)
        go_round
        case rel => exact ⟨k + 1, by omega, by go_num, by show _ = _; rw [HS.out, List.all_append, ← HX.out]; simp [hall.out, HH.out]⟩
        case measure => simp [intOf]; omega
      · have hh' : has t x = false := by simpa using hh
        have h0 := int_ne0 (anot x t) false hh'
        have HH := Lib.hid hh'
        clear hh hh'
        generalize anot x t = y at hbits h0
        go_wp2_with (go_at_call 217; refine (there_yes _ _ _ _ HT.out).mono ?_; rintro e w' ⟨rfl, rfl⟩)
        go_ret
        exact ⟨ret_bool (all_no HX.out HH.out).symm, rfl⟩
    · obtain rfl : k = n := by omega
      go_wp2
      go_ret
      exact ⟨ret_bool (by rw [← hall.out, List.take_of_length_le (by rw [← HN.out]; exact Nat.le_refl _)]), rfl⟩
set_option maxHeartbeats 1000000 in
theorem sets_no (p : Option Addr) (B : Nat) (xs : List Nat) (n : Nat) (hn : n = xs.length) (h1 : 1 ≤ n) (hl : n ≤ 1000) (w : World) (h : Not w p) (hB : w.heap[B]? = some (.cells (setCells xs) 66 (0, 0))) :
    Calls Tryz.prog 213 #[.pointer p, .slice (some ⟨B, 0, none⟩) n n] w fun e w' => e = .returned (.bool false) ∧ w = w' := by
  have HT := Lib.hid h
  obtain ⟨x0, hc⟩ : ∃ x0 : Nat, w.cell? ⟨B, 0, none⟩ = some (.int .u64 (x0 : Int)) := ⟨_, set_cell hB 0 (by omega)⟩
  clear h hB hn
  have hn0 : (0 : Int) < (n : Int) := by omega
  go_enter Tryz.func213, Tryz.ntmps213
  go_wp2
  refine wp_loop_rounds 1 ?_
  rw [rounds_succ]
  go_wp2_with (go_at_call 217; refine (there_no _ _ HT.out).mono ?_; rintro e w' ⟨rfl, rfl⟩)
  go_ret
  exact ⟨rfl, rfl⟩
theorem set1 (W : World) (a : Nat) : (W.alloc (.cells #[.int .u64 (a : Int)] 66)).heap[W.heap.size]? = some (.cells (setCells [a]) 66 (0, 0)) := heap_alloc_new W _
theorem set2 (W : World) (a b : Nat) : (W.alloc (.cells #[.int .u64 (a : Int), .int .u64 (b : Int)] 66)).heap[W.heap.size]? = some (.cells (setCells [a, b]) 66 (0, 0)) := heap_alloc_new W _
/-- whether sets are there, and which they are: a pointer's state. -/
inductive St (w : World) : Option Addr → Option Nat → Prop
  | there {b o t : Nat} (ht : t < 18446744073709551616) (h : There w b o t) : St w (some ⟨b, o, none⟩) (some t)
  | not {p : Option Addr} (h : Not w p) : St w p none
theorem St.below {w w' : World} {p : Option Addr} {m : Option Nat} (h : St w p m) (hb : Below w.heap.size w w') : St w' p m := by
  cases h with
  | there ht h => exact .there ht (h.below hb)
  | not h => exact .not (h.below hb)
/-- is that a set of them? one part of another one? -/
def hasM : Option Nat → Nat → Bool
  | some t, a => has t a
  | none, _ => false
def belowM (m : Option Nat) (a b : Nat) : Bool := hasM m a && hasM m b && (anot a b == 0)
def joinM (m : Option Nat) (a b : Nat) : Nat := if hasM m a && hasM m b then a ||| b else 0
def meetM (m : Option Nat) (a b : Nat) : Nat := if hasM m a && hasM m b then a &&& b else 0
def topM : Option Nat → Nat
  | some t => t
  | none => 0
theorem sets_one (p : Option Addr) (m : Option Nat) (a : Nat) (ha : a < 18446744073709551616) (W : World) (h : St W p m) :
    Calls Tryz.prog 213 #[.pointer p, .slice (some ⟨W.heap.size, 0, none⟩) 1 1] (W.alloc (.cells #[.int .u64 (a : Int)] 66)) fun e w' => e = .returned (.bool (hasM m a)) ∧ W.alloc (.cells #[.int .u64 (a : Int)] 66) = w' := by
  have h' := h.below ((Below.refl _ W).alloc (Nat.le_refl _) (.cells #[.int .u64 (a : Int)] 66))
  clear h
  cases h' with
  | there ht h =>
    refine (sets_yes _ _ _ W.heap.size [a] 1 rfl (by omega) ht (by simpa using ha) _ h (set1 W a)).mono ?_
    rintro e w' ⟨rfl, rfl⟩
    exact ⟨ret_bool (by simp [hasM]), rfl⟩
  | not h => exact sets_no p W.heap.size [a] 1 rfl (by omega) (by omega) _ h (set1 W a)
theorem sets_two (p : Option Addr) (m : Option Nat) (a b : Nat) (ha : a < 18446744073709551616) (hb : b < 18446744073709551616) (W : World) (h : St W p m) :
    Calls Tryz.prog 213 #[.pointer p, .slice (some ⟨W.heap.size, 0, none⟩) 2 2] (W.alloc (.cells #[.int .u64 (a : Int), .int .u64 (b : Int)] 66)) fun e w' => e = .returned (.bool (hasM m a && hasM m b)) ∧ W.alloc (.cells #[.int .u64 (a : Int), .int .u64 (b : Int)] 66) = w' := by
  have h' := h.below ((Below.refl _ W).alloc (Nat.le_refl _) (.cells #[.int .u64 (a : Int), .int .u64 (b : Int)] 66))
  clear h
  cases h' with
  | there ht h =>
    refine (sets_yes _ _ _ W.heap.size [a, b] 2 rfl (by omega) ht (by intro x hx; simp at hx; rcases hx with rfl | rfl <;> assumption) _ h (set2 W a b)).mono ?_
    rintro e w' ⟨rfl, rfl⟩
    exact ⟨ret_bool (by simp [hasM]), rfl⟩
  | not h => exact sets_no p W.heap.size [a, b] 2 rfl (by omega) (by omega) _ h (set2 W a b)
set_option maxHeartbeats 1000000 in
theorem has_any (p : Option Addr) (m : Option Nat) (a : Nat) (ha : a < 18446744073709551616) (w : World) (h : St w p m) :
    Calls Tryz.prog 209 #[.pointer p, .int .u64 (a : Int)] w fun e w' => e = .returned (.bool (hasM m a)) ∧ Below w.heap.size w w' := by
  have H := Lib.hid (sets_one p m a ha w h)
  clear h ha
  generalize hasM m a = r at H ⊢
  go_enter Tryz.func209, Tryz.ntmps209
  go_wp2_with (go_at_call 213; refine H.out.mono ?_; rintro e w' ⟨rfl, rfl⟩)
  go_ret
  exact ⟨rfl, (Below.refl _ w).alloc (Nat.le_refl _) _⟩
set_option maxHeartbeats 1000000 in
theorem below_any (p : Option Addr) (m : Option Nat) (a b : Nat) (ha : a < 18446744073709551616) (hb : b < 18446744073709551616) (w : World) (h : St w p m) :
    Calls Tryz.prog 207 #[.pointer p, .int .u64 (a : Int), .int .u64 (b : Int)] w fun e w' => e = .returned (.bool (belowM m a b)) ∧ Below w.heap.size w w' := by
  have H := Lib.hid (sets_two p m a b ha hb w h)
  have hbits := anot_bits a b ha hb
  have h0 := int_eq0 (anot a b) _ rfl
  clear h ha hb
  unfold belowM
  generalize (hasM m a && hasM m b) = r at H ⊢
  generalize (anot a b == 0) = q at h0 ⊢
  generalize anot a b = y at hbits h0
  cases r with
  | true =>
    go_enter Tryz.func207, Tryz.ntmps207
    go_wp2_with (go_at_call 213; refine H.out.mono ?_; rintro e w' ⟨rfl, rfl⟩)
    go_ret
    exact ⟨ret_bool (by simp), (Below.refl _ w).alloc (Nat.le_refl _) _⟩
  | false =>
    go_enter Tryz.func207, Tryz.ntmps207
    go_wp2_with (go_at_call 213; refine H.out.mono ?_; rintro e w' ⟨rfl, rfl⟩)
    go_ret
    exact ⟨ret_bool (by simp), (Below.refl _ w).alloc (Nat.le_refl _) _⟩
end Go.Proofs.YtajilghlcfheiaaGreatDoor.Bnd.Eff
/- Joins, meets, bottom and top of sets of effects, and how sets are made: the program's contracts. -/
namespace Go.Proofs.YtajilghlcfheiaaGreatDoor.Bnd.Eff
set_option maxRecDepth 20000
open Go.RowKit
theorem or_bits (a b : Nat) (ha : a < 18446744073709551616) (hb : b < 18446744073709551616) : bits .or .u64 (a : Int) (b : Int) = ((a ||| b : Nat) : Int) := u64_or_nat a b ha hb
theorem and_bits (a b : Nat) (ha : a < 18446744073709551616) (hb : b < 18446744073709551616) : bits .and .u64 (a : Int) (b : Int) = ((a &&& b : Nat) : Int) := u64_and_nat a b ha hb
theorem alloc_size (w : World) (o : Obj) : (w.alloc o).heap.size = w.heap.size + 1 := Array.size_push ..
theorem ret_u64 {x y : Nat} (h : x = y) : Ending.returned (.int .u64 (x : Int)) = .returned (.int .u64 (y : Int)) := by rw [h]
theorem join_fn (a b : Nat) (ha : a < 18446744073709551616) (hb : b < 18446744073709551616) (w : World) : Calls Tryz.prog 215 #[.int .u64 (a : Int), .int .u64 (b : Int)] w fun e w' => e = .returned (.int .u64 ((a ||| b : Nat) : Int)) ∧ w = w' := by
  have hbits := or_bits a b ha hb
  generalize (a ||| b) = y at hbits ⊢
  go_enter Tryz.func215, Tryz.ntmps215
  go_wp2
  go_ret
  exact ⟨rfl, rfl⟩
set_option maxHeartbeats 1000000 in
theorem puts_join (p : Option Addr) (m : Option Nat) (a b : Nat) (ha : a < 18446744073709551616) (hb : b < 18446744073709551616) (w : World) (h : St w p m) :
    Calls Tryz.prog 214 #[.pointer p, .agg #[.func (.func 215) #[] #[]], .int .u64 (a : Int), .int .u64 (b : Int)] w fun e w' => e = .returned (.int .u64 ((joinM m a b : Nat) : Int)) ∧ Below w.heap.size w w' := by
  have H0 := sets_two p m a b ha hb _ (h.below ((Below.refl _ w).alloc (Nat.le_refl _) (.cells #[.func (.func 215) #[] #[]] 276)))
  rw [alloc_size] at H0
  have H := Lib.hid H0
  clear H0
  have HF := Lib.hid (fun W => join_fn a b ha hb W)
  have HB : Below w.heap.size w ((w.alloc (.cells #[.func (.func 215) #[] #[]] 276)).alloc (.cells #[.int .u64 (a : Int), .int .u64 (b : Int)] 66)) := ((Below.refl _ w).alloc (Nat.le_refl _) _).alloc (by rw [alloc_size]; omega) _
  have HBh := Lib.hid HB
  clear h ha hb HB
  unfold joinM
  generalize (a ||| b) = y at HF ⊢
  generalize (hasM m a && hasM m b) = r at H ⊢
  cases r with
  | true =>
    go_enter Tryz.func214, Tryz.ntmps214
    go_wp2_with fail
    refine H.out.mono ?_
    rintro e w' ⟨rfl, rfl⟩
    go_wp2_with fail
    refine (HF.out _).mono ?_
    rintro e w' ⟨rfl, rfl⟩
    go_wp2
    go_ret
    exact ⟨ret_u64 (by simp), HBh.out⟩
  | false =>
    go_enter Tryz.func214, Tryz.ntmps214
    go_wp2_with fail
    refine H.out.mono ?_
    rintro e w' ⟨rfl, rfl⟩
    go_wp2
    go_ret
    exact ⟨ret_u64 (by simp), HBh.out⟩
set_option maxHeartbeats 1000000 in
theorem join_any (p : Option Addr) (m : Option Nat) (a b : Nat) (ha : a < 18446744073709551616) (hb : b < 18446744073709551616) (w : World) (h : St w p m) :
    Calls Tryz.prog 210 #[.pointer p, .int .u64 (a : Int), .int .u64 (b : Int)] w fun e w' => e = .returned (.int .u64 ((joinM m a b : Nat) : Int)) ∧ Below w.heap.size w w' := by
  have H := Lib.hid (puts_join p m a b ha hb w h)
  clear h ha hb
  generalize joinM m a b = y at H ⊢
  go_enter Tryz.func210, Tryz.ntmps210
  go_wp2_with fail
  refine H.out.mono ?_
  rintro e w' ⟨rfl, hb⟩
  go_wp2
  go_ret
  exact ⟨rfl, hb⟩
theorem meet_fn (a b : Nat) (ha : a < 18446744073709551616) (hb : b < 18446744073709551616) (w : World) : Calls Tryz.prog 216 #[.int .u64 (a : Int), .int .u64 (b : Int)] w fun e w' => e = .returned (.int .u64 ((a &&& b : Nat) : Int)) ∧ w = w' := by
  have hbits := and_bits a b ha hb
  generalize (a &&& b) = y at hbits ⊢
  go_enter Tryz.func216, Tryz.ntmps216
  go_wp2
  go_ret
  exact ⟨rfl, rfl⟩
set_option maxHeartbeats 1000000 in
theorem puts_meet (p : Option Addr) (m : Option Nat) (a b : Nat) (ha : a < 18446744073709551616) (hb : b < 18446744073709551616) (w : World) (h : St w p m) :
    Calls Tryz.prog 214 #[.pointer p, .agg #[.func (.func 216) #[] #[]], .int .u64 (a : Int), .int .u64 (b : Int)] w fun e w' => e = .returned (.int .u64 ((meetM m a b : Nat) : Int)) ∧ Below w.heap.size w w' := by
  have H0 := sets_two p m a b ha hb _ (h.below ((Below.refl _ w).alloc (Nat.le_refl _) (.cells #[.func (.func 216) #[] #[]] 276)))
  rw [alloc_size] at H0
  have H := Lib.hid H0
  clear H0
  have HF := Lib.hid (fun W => meet_fn a b ha hb W)
  have HB : Below w.heap.size w ((w.alloc (.cells #[.func (.func 216) #[] #[]] 276)).alloc (.cells #[.int .u64 (a : Int), .int .u64 (b : Int)] 66)) := ((Below.refl _ w).alloc (Nat.le_refl _) _).alloc (by rw [alloc_size]; omega) _
  have HBh := Lib.hid HB
  clear h ha hb HB
  unfold meetM
  generalize (a &&& b) = y at HF ⊢
  generalize (hasM m a && hasM m b) = r at H ⊢
  cases r with
  | true =>
    go_enter Tryz.func214, Tryz.ntmps214
    go_wp2_with fail
    refine H.out.mono ?_
    rintro e w' ⟨rfl, rfl⟩
    go_wp2_with fail
    refine (HF.out _).mono ?_
    rintro e w' ⟨rfl, rfl⟩
    go_wp2
    go_ret
    exact ⟨ret_u64 (by simp), HBh.out⟩
  | false =>
    go_enter Tryz.func214, Tryz.ntmps214
    go_wp2_with fail
    refine H.out.mono ?_
    rintro e w' ⟨rfl, rfl⟩
    go_wp2
    go_ret
    exact ⟨ret_u64 (by simp), HBh.out⟩
set_option maxHeartbeats 1000000 in
theorem meet_any (p : Option Addr) (m : Option Nat) (a b : Nat) (ha : a < 18446744073709551616) (hb : b < 18446744073709551616) (w : World) (h : St w p m) :
    Calls Tryz.prog 211 #[.pointer p, .int .u64 (a : Int), .int .u64 (b : Int)] w fun e w' => e = .returned (.int .u64 ((meetM m a b : Nat) : Int)) ∧ Below w.heap.size w w' := by
  have H := Lib.hid (puts_meet p m a b ha hb w h)
  clear h ha hb
  generalize meetM m a b = y at H ⊢
  go_enter Tryz.func211, Tryz.ntmps211
  go_wp2_with fail
  refine H.out.mono ?_
  rintro e w' ⟨rfl, hb⟩
  go_wp2
  go_ret
  exact ⟨rfl, hb⟩
theorem bottom_any (p : Option Addr) (w : World) : Calls Tryz.prog 208 #[.pointer p] w fun e w' => e = .returned (.int .u64 0) ∧ w = w' := by
  go_enter Tryz.func208, Tryz.ntmps208
  go_wp2
  go_ret
  exact ⟨rfl, rfl⟩
theorem top_any (p : Option Addr) (m : Option Nat) (w : World) (h : St w p m) : Calls Tryz.prog 212 #[.pointer p] w fun e w' => e = .returned (.int .u64 ((topM m : Nat) : Int)) ∧ w = w' := by
  cases h with
  | @there b o t ht h =>
    have HH := Lib.hid h
    have h2 := h.2
    clear h
    go_enter Tryz.func212, Tryz.ntmps212
    go_wp2_with fail
    refine (there_yes _ _ _ _ HH.out).mono ?_
    rintro e w' ⟨rfl, rfl⟩
    go_wp2
    go_ret
    exact ⟨rfl, rfl⟩
  | not h =>
    have HH := Lib.hid h
    clear h
    go_enter Tryz.func212, Tryz.ntmps212
    go_wp2_with fail
    refine (there_no _ _ HH.out).mono ?_
    rintro e w' ⟨rfl, rfl⟩
    go_wp2
    go_ret
    exact ⟨rfl, rfl⟩
theorem new_no (n : Int) (h : n < 0 ∨ 64 < n) (w : World) : Calls Tryz.prog 43 #[.int .i64 n] w fun e w' => e = .returned (.tuple #[.pointer none, .int .i64 1]) ∧ Below w.heap.size w w' := by
  rcases h with h | h
  · have h1 : decide (n < 0) = true := by simpa using h
    go_enter Tryz.func43, Tryz.ntmps43
    go_wp2
    go_ret2
    exact ⟨rfl, Below.refl _ w⟩
  · have h1 : decide (n < 0) = false := by simp; omega
    have h2 : decide (64 < n) = true := by simpa using h
    go_enter Tryz.func43, Tryz.ntmps43
    go_wp2
    go_ret2
    exact ⟨rfl, Below.refl _ w⟩
def full (n : Nat) : Nat := 2 ^ n - 1
theorem full_lt (n : Nat) (hn : n ≤ 64) : full n < 18446744073709551616 := by
  have : 2 ^ n ≤ 2 ^ 64 := Nat.pow_le_pow_right (by omega) hn
  unfold full
  omega
theorem full_wrap (n : Nat) (hn : n ≤ 64) : IntKind.u64.wrap (IntKind.u64.wrap (2 ^ n) - 1) = ((full n : Nat) : Int) := by
  have h : n = 64 ∨ n < 64 := by omega
  rcases h with rfl | h
  · rfl
  · have h1 : 2 ^ n < 2 ^ 64 := Nat.pow_lt_pow_right (by omega) h
    have h2 : 0 < 2 ^ n := Nat.two_pow_pos n
    have h3 : ((2 : Int) ^ n) = ((2 ^ n : Nat) : Int) := by norm_cast
    unfold full
    rw [h3]
    generalize 2 ^ n = y at *
    rw [IntKind.wrap_u64, IntKind.wrap_u64]
    omega
theorem new_yes (n : Nat) (hn : n ≤ 64) (w : World) : Calls Tryz.prog 43 #[.int .i64 (n : Int)] w fun e w' => e = .returned (.tuple #[.pointer (some ⟨w.heap.size, 0, none⟩), .int .i64 0]) ∧ w' = w.alloc (.cells #[.bool true, .int .u64 ((full n : Nat) : Int)] 129) := by
  have hw := Lib.hid (full_wrap n hn)
  have hm := Lib.hid (Nat.min_eq_left hn)
  have h1 : decide ((n : Int) < 0) = false := by simp
  have h2 : decide ((64 : Int) < (n : Int)) = false := by simp; omega
  clear hn
  go_enter Tryz.func43, Tryz.ntmps43
  go_wp2_with fail
  go_ret2
  exact ⟨rfl, by rw [hm.out, hw.out]⟩
theorem new_st (n : Nat) (hn : n ≤ 64) (w : World) : St (w.alloc (.cells #[.bool true, .int .u64 ((full n : Nat) : Int)] 129)) (some ⟨w.heap.size, 0, none⟩) (some (full n)) :=
  .there (full_lt n hn) ⟨by rw [cell_of_row _ _ _ _ _ _ (heap_alloc_new w _)]; rfl, by rw [cell_of_row _ _ _ _ _ _ (heap_alloc_new w _)]; rfl⟩
end Go.Proofs.YtajilghlcfheiaaGreatDoor.Bnd.Eff
/- The document's answers on sets of effects: their contracts; and what is alive. -/
namespace Go.Proofs.YtajilghlcfheiaaGreatDoor.Bnd.Eff
set_option maxRecDepth 20000
open Go.RowKit
theorem anot_test (a b i : Nat) (_ha : a < 18446744073709551616) (hb : b < 18446744073709551616) (hi : i < 64) : (anot a b).testBit i = (a.testBit i && !b.testBit i) := by
  unfold anot
  have h : 18446744073709551615 - b = 2 ^ 64 - (b + 1) := by omega
  rw [Nat.testBit_and, h, Nat.testBit_two_pow_sub_succ (by omega)]
  simp [hi]
theorem test_high {a i : Nat} (ha : a < 18446744073709551616) (hi : 64 ≤ i) : a.testBit i = false :=
  Nat.testBit_lt_two_pow (Nat.lt_of_lt_of_le ha (Nat.pow_le_pow_right (by omega) hi : 2 ^ 64 ≤ 2 ^ i))
theorem anot_high {a b i : Nat} (ha : a < 18446744073709551616) (hi : 64 ≤ i) : (anot a b).testBit i = false := by
  unfold anot
  rw [Nat.testBit_and, test_high ha hi]
  rfl
theorem anot_zero (a b : Nat) (ha : a < 18446744073709551616) (hb : b < 18446744073709551616) : (anot a b == 0) = ((a ||| b) == b) := by
  rw [Bool.eq_iff_iff, beq_iff_eq, beq_iff_eq]
  constructor
  · intro h
    apply Nat.eq_of_testBit_eq
    intro i
    by_cases hi : i < 64
    · have := anot_test a b i ha hb hi
      rw [h, Nat.zero_testBit] at this
      rw [Nat.testBit_or]
      revert this
      cases a.testBit i <;> cases b.testBit i <;> simp
    · rw [Nat.testBit_or, test_high ha (by omega)]
      simp
  · intro h
    apply Nat.eq_of_testBit_eq
    intro i
    by_cases hi : i < 64
    · rw [anot_test a b i ha hb hi, Nat.zero_testBit]
      have := congrArg (fun x => x.testBit i) h
      simp only [Nat.testBit_or] at this
      revert this
      cases a.testBit i <;> cases b.testBit i <;> simp
    · rw [anot_high ha (by omega), Nat.zero_testBit]
theorem full_step (i : Nat) : full i ||| 2 ^ i = full (i + 1) := by
  apply Nat.eq_of_testBit_eq
  intro j
  unfold full
  rw [Nat.testBit_or, Nat.testBit_two_pow_sub_one, Nat.testBit_two_pow_sub_one, Nat.testBit_two_pow]
  rw [Bool.eq_iff_iff]
  simp
  omega
theorem pow_wrap (i : Nat) (hi : i < 64) : IntKind.u64.wrap (2 ^ i) = ((2 ^ i : Nat) : Int) := by
  have h1 : 2 ^ i < 2 ^ 64 := Nat.pow_lt_pow_right (by omega) hi
  have h3 : ((2 : Int) ^ i) = ((2 ^ i : Nat) : Int) := by norm_cast
  rw [h3, IntKind.wrap_u64]
  generalize 2 ^ i = y at *
  omega
theorem full_or (i : Nat) (hi : i < 64) : bits .or .u64 ((full i : Nat) : Int) (IntKind.u64.wrap (2 ^ i)) = ((full (i + 1) : Nat) : Int) := by
  have h1 : 2 ^ i < 2 ^ 64 := Nat.pow_lt_pow_right (by omega) hi
  rw [pow_wrap i hi, or_bits _ _ (full_lt i (by omega)) (by simpa using h1), full_step]
set_option maxHeartbeats 1000000 in
theorem rtop_any (n : Nat) (hn : n ≤ 64) (w : World) : Calls Tryz.prog 126 #[.int .i64 (n : Int)] w fun e w' => e = .returned (.int .u64 ((full n : Nat) : Int)) ∧ w = w' := by
  go_enter Tryz.func126, Tryz.ntmps126
  go_wp2
  go_loop [3, 4] (fun s i => ∃ k : Nat, k ≤ n ∧ s = .int .u64 ((full k : Nat) : Int) ∧ i = .int .i64 k) (fun _ i => n - (intOf i).toNat)
  case atStart => exact ⟨0, by omega, rfl, rfl⟩
  case round =>
    obtain ⟨k, hk, rfl, rfl⟩ := hrel
    by_cases hlt : k < n
    · have hor := full_or k (by omega)
      have hm := Nat.min_eq_left (show k ≤ 64 by omega)
      have hlt' : decide ((k : Int) < (n : Int)) = true := by simpa using hlt
      have hf := Lib.hid (rfl : full (k + 1) = full (k + 1))
      have hy : ∃ y, y = full (k + 1) := ⟨_, rfl⟩
      obtain ⟨y, hy⟩ := hy
      rw [← hy] at hor
      have HY := Lib.hid hy
      clear hy hf
      generalize full k = x at hor
      go_wp2
      go_round
      case rel => exact ⟨k + 1, by omega, by rw [← HY.out], by go_num⟩
      case measure => simp [intOf]; omega
    · obtain rfl : k = n := by omega
      go_wp2
      go_ret
      exact ⟨rfl, rfl⟩
theorem is_bits (t a : Nat) (ht : t < 18446744073709551616) (ha : a < 18446744073709551616) : (bits .or .u64 (a : Int) (t : Int) == (t : Int)) = has t a := by
  rw [or_bits a t ha ht]
  unfold has
  rw [anot_zero a t ha ht, Bool.eq_iff_iff, beq_iff_eq, beq_iff_eq]
  omega
set_option maxHeartbeats 1000000 in
theorem rhas_any (n a : Nat) (hn : n ≤ 64) (ha : a < 18446744073709551616) (w : World) : Calls Tryz.prog 123 #[.int .i64 (n : Int), .int .u64 (a : Int)] w fun e w' => e = .returned (.bool (hasM (some (full n)) a)) ∧ w = w' := by
  have HT := Lib.hid (rtop_any n hn w)
  have hb := is_bits (full n) a (full_lt n hn) ha
  unfold hasM
  show Calls _ _ _ _ fun e w' => e = .returned (.bool (has (full n) a)) ∧ w = w'
  rw [← hb]
  generalize full n = t at HT ⊢
  clear hn ha
  go_enter Tryz.func123, Tryz.ntmps123
  go_wp2_with fail
  refine HT.out.mono ?_
  rintro e w' ⟨rfl, rfl⟩
  go_wp2_with fail
  refine HT.out.mono ?_
  rintro e w' ⟨rfl, rfl⟩
  go_wp2
  go_ret
  exact ⟨rfl, rfl⟩
set_option maxHeartbeats 1000000 in
theorem rbelow_any (n a b : Nat) (hn : n ≤ 64) (ha : a < 18446744073709551616) (hb : b < 18446744073709551616) (w : World) : Calls Tryz.prog 130 #[.int .i64 (n : Int), .int .u64 (a : Int), .int .u64 (b : Int)] w fun e w' => e = .returned (.bool (belowM (some (full n)) a b)) ∧ w = w' := by
  have HA := Lib.hid (rhas_any n a hn ha w)
  have HB := Lib.hid (rhas_any n b hn hb w)
  have hq := is_bits b a hb ha
  unfold belowM
  unfold has at hq
  generalize (anot a b == 0) = q at hq ⊢
  generalize hasM (some (full n)) a = r at HA ⊢
  generalize hasM (some (full n)) b = s at HB ⊢
  clear hn ha hb
  cases r with
  | false =>
    go_enter Tryz.func130, Tryz.ntmps130
    go_wp2_with fail
    refine HA.out.mono ?_
    rintro e w' ⟨rfl, rfl⟩
    go_wp2
    go_ret
    exact ⟨ret_bool (by simp), rfl⟩
  | true =>
    cases s with
    | false =>
      go_enter Tryz.func130, Tryz.ntmps130
      go_wp2_with fail
      refine HA.out.mono ?_
      rintro e w' ⟨rfl, rfl⟩
      go_wp2_with fail
      refine HB.out.mono ?_
      rintro e w' ⟨rfl, rfl⟩
      go_wp2
      go_ret
      exact ⟨ret_bool (by simp), rfl⟩
    | true =>
      go_enter Tryz.func130, Tryz.ntmps130
      go_wp2_with fail
      refine HA.out.mono ?_
      rintro e w' ⟨rfl, rfl⟩
      go_wp2_with fail
      refine HB.out.mono ?_
      rintro e w' ⟨rfl, rfl⟩
      go_wp2
      go_ret
      exact ⟨ret_bool (by cases q <;> rfl), rfl⟩
set_option maxHeartbeats 1000000 in
theorem rjoin_any (n a b : Nat) (hn : n ≤ 64) (ha : a < 18446744073709551616) (hb : b < 18446744073709551616) (w : World) : Calls Tryz.prog 129 #[.int .i64 (n : Int), .int .u64 (a : Int), .int .u64 (b : Int)] w fun e w' => e = .returned (.int .u64 ((joinM (some (full n)) a b : Nat) : Int)) ∧ w = w' := by
  have HA := Lib.hid (rhas_any n a hn ha w)
  have HB := Lib.hid (rhas_any n b hn hb w)
  have hq := or_bits a b ha hb
  unfold joinM
  generalize (a ||| b) = q at hq ⊢
  generalize hasM (some (full n)) a = r at HA ⊢
  generalize hasM (some (full n)) b = s at HB ⊢
  clear hn ha hb
  cases r with
  | false =>
    go_enter Tryz.func129, Tryz.ntmps129
    go_wp2_with fail
    refine HA.out.mono ?_
    rintro e w' ⟨rfl, rfl⟩
    go_wp2
    go_ret
    exact ⟨ret_u64 (by simp), rfl⟩
  | true =>
    cases s with
    | false =>
      go_enter Tryz.func129, Tryz.ntmps129
      go_wp2_with fail
      refine HA.out.mono ?_
      rintro e w' ⟨rfl, rfl⟩
      go_wp2_with fail
      refine HB.out.mono ?_
      rintro e w' ⟨rfl, rfl⟩
      go_wp2
      go_ret
      exact ⟨ret_u64 (by simp), rfl⟩
    | true =>
      go_enter Tryz.func129, Tryz.ntmps129
      go_wp2_with fail
      refine HA.out.mono ?_
      rintro e w' ⟨rfl, rfl⟩
      go_wp2_with fail
      refine HB.out.mono ?_
      rintro e w' ⟨rfl, rfl⟩
      go_wp2
      go_ret
      exact ⟨ret_u64 (by simp), rfl⟩
set_option maxHeartbeats 1000000 in
theorem rmeet_any (n a b : Nat) (hn : n ≤ 64) (ha : a < 18446744073709551616) (hb : b < 18446744073709551616) (w : World) : Calls Tryz.prog 132 #[.int .i64 (n : Int), .int .u64 (a : Int), .int .u64 (b : Int)] w fun e w' => e = .returned (.int .u64 ((meetM (some (full n)) a b : Nat) : Int)) ∧ w = w' := by
  have HA := Lib.hid (rhas_any n a hn ha w)
  have HB := Lib.hid (rhas_any n b hn hb w)
  have hq := and_bits a b ha hb
  unfold meetM
  generalize (a &&& b) = q at hq ⊢
  generalize hasM (some (full n)) a = r at HA ⊢
  generalize hasM (some (full n)) b = s at HB ⊢
  clear hn ha hb
  cases r with
  | false =>
    go_enter Tryz.func132, Tryz.ntmps132
    go_wp2_with fail
    refine HA.out.mono ?_
    rintro e w' ⟨rfl, rfl⟩
    go_wp2
    go_ret
    exact ⟨ret_u64 (by simp), rfl⟩
  | true =>
    cases s with
    | false =>
      go_enter Tryz.func132, Tryz.ntmps132
      go_wp2_with fail
      refine HA.out.mono ?_
      rintro e w' ⟨rfl, rfl⟩
      go_wp2_with fail
      refine HB.out.mono ?_
      rintro e w' ⟨rfl, rfl⟩
      go_wp2
      go_ret
      exact ⟨ret_u64 (by simp), rfl⟩
    | true =>
      go_enter Tryz.func132, Tryz.ntmps132
      go_wp2_with fail
      refine HA.out.mono ?_
      rintro e w' ⟨rfl, rfl⟩
      go_wp2_with fail
      refine HB.out.mono ?_
      rintro e w' ⟨rfl, rfl⟩
      go_wp2
      go_ret
      exact ⟨ret_u64 (by simp), rfl⟩
end Go.Proofs.YtajilghlcfheiaaGreatDoor.Bnd.Eff
