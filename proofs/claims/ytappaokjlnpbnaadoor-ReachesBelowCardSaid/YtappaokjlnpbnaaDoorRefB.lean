/- The document's Below; bits.TrailingZeros64. -/
import Derived.Test.YtappaokjlnpbnaaDoorTz
namespace Go.Proofs.YtappaokjlnpbnaaDoor
open Go.RowKit Go.Proofs.YtappaokjlnpbnaaDoorW.PrintWords
set_option maxRecDepth 20000 in
set_option maxHeartbeats 1000000 in
theorem refbelow_any (A : Option Addr) (n c : Nat) (rows : List Nat) (hn : n = rows.length) (hmax : n ≤ 9223372036854775807) (a b : Nat) (ha : a < 18446744073709551616) (hb : b < 18446744073709551616) (w : World) (hI : Nums w A rows) : Calls Tryd.prog 26 #[.slice A n c, .int .u64 (a : Int), .int .u64 (b : Int)] w fun e w' => e = .returned (.bool (rowB rows a b)) ∧ w = w' := by
  by_cases h : a < n ∧ a < 64 ∧ b < n ∧ b < 64
  · obtain ⟨h1, h2, h3, h4⟩ := h
    obtain ⟨bb, off, rfl, _, hc⟩ := hI.2 (by omega)
    have hck := hc a (by omega)
    have hr := hI.1 rows[a] (List.getElem_mem (by omega))
    have HR := Lib.hid (rowB_yes (rows := rows) (a := a) (b := b) (by omega) h2 (by omega) h4)
    generalize rows[a] = r at hck hr HR
    have HB := Lib.hid (bit_one r b hr)
    have i1 : (0 : Int) ≤ (a : Int) := by omega
    have i2 : (a : Int) < (n : Int) := by omega
    have d1 : decide ((a : Int) < (n : Int)) = true := by simp; omega
    have d2 : decide ((b : Int) < (n : Int)) = true := by simp; omega
    have d3 : decide ((a : Int) < 64) = true := by simp; omega
    have d4 : decide ((b : Int) < 64) = true := by simp; omega
    have d5 : decide (a < n) = true := by simp; omega
    have d6 : decide (b < n) = true := by simp; omega
    clear hc hn hI
    go_enter Tryd.func26, Tryd.ntmps26
    go_wp2
    go_ret
    exact ⟨ret_eq (by rw [HR.out, ← HB.out]), rfl⟩
  · have HR := Lib.hid (rowB_no (rows := rows) (a := a) (b := b) (by rw [← hn]; exact h))
    clear hI hn
    obtain ⟨p1, hp1⟩ : ∃ p, decide (a < n) = p := ⟨_, rfl⟩
    obtain ⟨p2, hp2⟩ : ∃ p, decide (a < 64) = p := ⟨_, rfl⟩
    obtain ⟨p3, hp3⟩ : ∃ p, decide (b < n) = p := ⟨_, rfl⟩
    obtain ⟨p4, hp4⟩ : ∃ p, decide (b < 64) = p := ⟨_, rfl⟩
    have e1 : decide ((a : Int) < (n : Int)) = p1 := by rw [← hp1]; simp
    have e2 : decide ((a : Int) < 64) = p2 := by rw [← hp2, decide_eq_decide]; omega
    have e3 : decide ((b : Int) < (n : Int)) = p3 := by rw [← hp3]; simp
    have e4 : decide ((b : Int) < 64) = p4 := by rw [← hp4, decide_eq_decide]; omega
    have hno : (p1 && p2 && p3 && p4) = false := by
      rw [← hp1, ← hp2, ← hp3, ← hp4]
      simp only [← Bool.decide_and, decide_eq_false_iff_not]
      rintro ⟨⟨⟨q1, q2⟩, q3⟩, q4⟩
      exact h ⟨q1, q2, q3, q4⟩
    have HNO := Lib.hid hno
    clear h hno
    cases p2 <;> cases p4 <;> cases p1 <;> cases p3
    all_goals first
      | (exfalso
         have := HNO.out
         simp at this
         done)
      | (go_enter Tryd.func26, Tryd.ntmps26
         go_wp2
         go_ret
         exact ⟨ret_eq HR.out.symm, rfl⟩)
theorem tz_val (x : Nat) (h0 : x ≠ 0) (hx : x < 18446744073709551616) : ∃ i, i < 64 ∧ Lib.deBruijn64tab.getD i 0 = Lib.ctz 64 x ∧ IntKind.u64.wrap (bits .and .u64 (x : Int) (IntKind.u64.wrap (-(x : Int))) * 285870213051353865) / 288230376151711744 = (i : Int) := by
  obtain ⟨h1, h2⟩ := Lib.lowest_bit 64 x h0 (by rw [show (2 : Nat) ^ 64 = 18446744073709551616 from rfl]; exact hx)
  rw [show (2 : Nat) ^ 64 = 18446744073709551616 from rfl] at h1
  obtain ⟨h3, h4⟩ := Lib.deBruijn64_at (Lib.ctz 64 x) h2
  refine ⟨_, h3, h4, ?_⟩
  have e1 : IntKind.u64.wrap (-(x : Int)) = ((18446744073709551616 - x : Nat) : Int) := by rw [IntKind.wrap_u64]; omega
  rw [e1, u64_and_nat x (18446744073709551616 - x) hx (by omega), h1]
  generalize 2 ^ Lib.ctz 64 x = q
  rw [IntKind.wrap_u64]
  have e2 : ((q : Int) * 285870213051353865) = ((q * 285870213051353865 : Nat) : Int) := (Int.natCast_mul q 285870213051353865).symm
  rw [e2]
  omega
set_option maxRecDepth 20000 in
set_option maxHeartbeats 1000000 in
theorem tz_any (x : Nat) (h0 : x ≠ 0) (hx : x < 18446744073709551616) (w : World) (hT : Tab w) : Calls Tryd.prog 78 #[.int .u64 (x : Int)] w fun e w' => e = .returned (.int .i64 ((Lib.ctz 64 x : Nat) : Int)) ∧ w = w' := by
  have d1 : ((x : Int) == 0) = false := by rw [beq_eq_false_iff_ne]; omega
  have d2 : ¬ x = 0 := h0
  obtain ⟨i, hi, hg, hv⟩ := tz_val x h0 hx
  have hck := hT i hi
  rw [hg] at hck
  have hk : Lib.ctz 64 x < 64 := (Lib.lowest_bit 64 x h0 (by rw [show (2 : Nat) ^ 64 = 18446744073709551616 from rfl]; exact hx)).2
  generalize Lib.ctz 64 x = k at *
  clear hT hg h0
  go_enter Tryd.func78, Tryd.ntmps78
  go_wp2
  go_ret
  exact ⟨rfl, rfl⟩
end Go.Proofs.YtappaokjlnpbnaaDoor
