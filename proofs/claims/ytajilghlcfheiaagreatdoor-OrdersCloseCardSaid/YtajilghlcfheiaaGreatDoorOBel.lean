/- orders.Close in the Book's seat: the document's Below; numbers appended. -/
import Derived.Test.YtajilghlcfheiaaGreatDoorOSame
namespace Go.Proofs.YtajilghlcfheiaaGreatDoor.Ord
open Go.RowKit Go.Proofs.YtajilghlcfheiaaGreatDoorW.PrintWords
def rowB (rows : List Nat) (a b : Nat) : Bool := decide (a < rows.length) && decide (a < 64) && decide (b < rows.length) && decide (b < 64) && (rows.getD a 0).testBit b
theorem rowB_yes {rows : List Nat} {a b : Nat} (h1 : a < rows.length) (h2 : a < 64) (h3 : b < rows.length) (h4 : b < 64) : rowB rows a b = rows[a].testBit b := by
  unfold rowB
  simp [h1, h2, h3, h4]
theorem rowB_no {rows : List Nat} {a b : Nat} (h : ¬ (a < rows.length ∧ a < 64 ∧ b < rows.length ∧ b < 64)) : rowB rows a b = false := by
  unfold rowB
  by_cases h1 : a < rows.length <;> by_cases h2 : a < 64 <;> by_cases h3 : b < rows.length <;> by_cases h4 : b < 64 <;> simp [h1, h2, h3, h4] at h ⊢
theorem ret_eq {a b : Bool} (h : a = b) : Ending.returned (.bool a) = .returned (.bool b) := by rw [h]
set_option maxRecDepth 20000 in
set_option maxHeartbeats 1000000 in
theorem refbelow_any (A : Option Addr) (n c : Nat) (rows : List Nat) (hn : n = rows.length) (hmax : n ≤ 9223372036854775807) (a b : Nat) (ha : a < 18446744073709551616) (hb : b < 18446744073709551616) (w : World) (hI : Nums w A rows) : Calls Tryz.prog 112 #[.slice A n c, .int .u64 (a : Int), .int .u64 (b : Int)] w fun e w' => e = .returned (.bool (rowB rows a b)) ∧ w = w' := by
  by_cases h : a < n ∧ a < 64 ∧ b < n ∧ b < 64
  · obtain ⟨h1, h2, h3, h4⟩ := h
    obtain ⟨bb, off, rfl, _, hc⟩ := hI.2 (by omega)
    have hck := hc a (by omega)
    have hr := hI.1 rows[a] (List.getElem_mem (by omega))
    have HR := Lib.hid (rowB_yes (rows := rows) (a := a) (b := b) (by omega) h2 (by omega) h4)
    generalize rows[a] = r at hck hr HR
    have HB := Lib.hid (bit_one r b hr)
    have i1 : (0 : Int) ≤ (a : Int) := by omega
    have i2 : (a : Int) < (n : Int) := by omega
    have d1 : decide ((a : Int) < (n : Int)) = true := by simp; omega
    have d2 : decide ((b : Int) < (n : Int)) = true := by simp; omega
    have d3 : decide ((a : Int) < 64) = true := by simp; omega
    have d4 : decide ((b : Int) < 64) = true := by simp; omega
    have d5 : decide (a < n) = true := by simp; omega
    have d6 : decide (b < n) = true := by simp; omega
    clear hc hn hI
    go_enter Tryz.func112, Tryz.ntmps112
    go_wp2
    go_ret
    exact ⟨ret_eq (by rw [HR.out, ← HB.out]), rfl⟩
  · have HR := Lib.hid (rowB_no (rows := rows) (a := a) (b := b) (by rw [← hn]; exact h))
    clear hI hn
    obtain ⟨p1, hp1⟩ : ∃ p, decide (a < n) = p := ⟨_, rfl⟩
    obtain ⟨p2, hp2⟩ : ∃ p, decide (a < 64) = p := ⟨_, rfl⟩
    obtain ⟨p3, hp3⟩ : ∃ p, decide (b < n) = p := ⟨_, rfl⟩
    obtain ⟨p4, hp4⟩ : ∃ p, decide (b < 64) = p := ⟨_, rfl⟩
    have e1 : decide ((a : Int) < (n : Int)) = p1 := by rw [← hp1]; simp
    have e2 : decide ((a : Int) < 64) = p2 := by rw [← hp2, decide_eq_decide]; omega
    have e3 : decide ((b : Int) < (n : Int)) = p3 := by rw [← hp3]; simp
    have e4 : decide ((b : Int) < 64) = p4 := by rw [← hp4, decide_eq_decide]; omega
    have hno : (p1 && p2 && p3 && p4) = false := by
      rw [← hp1, ← hp2, ← hp3, ← hp4]
      simp only [← Bool.decide_and, decide_eq_false_iff_not]
      rintro ⟨⟨⟨q1, q2⟩, q3⟩, q4⟩
      exact h ⟨q1, q2, q3, q4⟩
    have HNO := Lib.hid hno
    clear h hno
    cases p2 <;> cases p4 <;> cases p1 <;> cases p3
    all_goals first
      | (exfalso
         have := HNO.out
         simp at this
         done)
      | (go_enter Tryz.func112, Tryz.ntmps112
         go_wp2
         go_ret
         exact ⟨ret_eq HR.out.symm, rfl⟩)
theorem intsN_append (a b : List Nat) : intsN (a ++ b) = intsN a ++ intsN b := by simp [intsN]
theorem under22' : Tryz.prog.underlying 22 = some (.slice 66) := by kernel_rfl
/-- a row of numbers that the call made. -/
def Row (w : World) (base : Nat) (v : Value) (bs : List Nat) : Prop := w.ownsRow base 66 1 v (intsN bs).length (nums .u64 (intsN bs))
theorem Row.below {w w' : World} {base : Nat} {v : Value} {bs : List Nat} (h : Row w base v bs) (hb : Below w.heap.size w w') : Row w' base v bs :=
  World.ownsRow.kept (row := none) h ⟨hb.os, hb.tape, hb.output, hb.size, fun k hk _ => hb.block k hk⟩ (by cases v.ownBlock <;> simp)
theorem Row.nil (base : Nat) (w : World) : Row w base (.slice none 0 0) [] := World.ownsRow_nil w base 66 1
theorem reads_one (W : World) (x : Int) : ReadsInt (W.alloc (.cells #[.int .u64 x] 66)) .u64 (some ⟨W.heap.size, 0, none⟩) 1 [x] := by
  refine ⟨rfl, by omega, fun _ => ⟨_, rfl, fun j hj => ?_⟩⟩
  obtain rfl : j = 0 := by omega
  rw [add_of, Nat.zero_add, cell_of_row _ _ _ _ _ _ (heap_alloc_new W _)]
  rfl
end Go.Proofs.YtajilghlcfheiaaGreatDoor.Ord
