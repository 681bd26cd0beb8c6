/- Numbers that can be read; a bit of a number; the table of math/bits. -/
import Derived.Test.YtajilghlcfheiaaGreatDoorProg
import Derived.Test.YtajilghlcfheiaaGreatDoorWWords
import Derived.WalkKit
import Derived.ProofKit
import Derived.Outline
import Derived.KernelRfl
import Derived.Laws.Rows
import Derived.Laws.NewBlocks
import Derived.Laws.BitsAllLaws
import Derived.Lib.Hide
import Derived.Lib.LaidTab
import Derived.Lib.TrailingZeros
import Derived.Deep.OwnRows
import Derived.Deep.RegionHeld3
import Derived.OwnWalk
import Derived.Deep.QuietTactic
import Derived.BigQuiet
import Derived.BigRegion
namespace Go.Proofs.YtajilghlcfheiaaGreatDoor.Bnd
set_option maxRecDepth 20000
open Go.RowKit Go.Proofs.YtajilghlcfheiaaGreatDoorW.PrintWords
theorem on {a b c : World} (h : Below a.heap.size a b) (k : Below b.heap.size b c) : Below a.heap.size a c := h.trans (k.mono h.size)
def tab64 : List Int := List.map (fun n : Nat => (n : Int)) Lib.deBruijn64tab
/-- the table as a call needs it. -/
def Tab (w : World) : Prop := ∀ i, i < 64 → w.cell? ⟨0, i, none⟩ = some (.int .u8 ((Lib.deBruijn64tab.getD i 0 : Nat) : Int))
theorem Tab.below {w w' : World} (h : Tab w) (hb : Below w.heap.size w w') : Tab w' := fun i hi => (hb.cell (p := ⟨0, i, none⟩) (World.block_lt_of_cell? w _ (h i hi))).trans (h i hi)
theorem tab_of {w : World} (h : Lib.TabIs Tryz.prog w "math/bits.deBruijn64tab" .u8 tab64) : Tab w := fun i hi => by
  have hl : Lib.deBruijn64tab.length = 64 := by decide
  rw [h.cell (g := 0) (by kernel_rfl) i (by unfold tab64; rw [List.length_map, hl]; exact hi)]
  unfold tab64
  simp [List.getD, hl, hi]
def IsRow (k : IntKind) (w : World) (a : Option Addr) (len cap : Nat) (zs : List Int) : Prop :=
  (a = none ∧ len = 0 ∧ cap = 0 ∧ zs = []) ∨
  ∃ x, a = some x ∧ len ≤ cap ∧ cap ≤ maxLen ∧ zs.length = cap ∧ (∀ i, i < zs.length → w.cell? (x.add i) = some (.int k (zs.getD i 0))) ∧ ∀ n ∈ zs, (Lit.int k n).wf = true
theorem add_of (b off j : Nat) : (⟨b, off, none⟩ : Addr).add j = ⟨b, off + j, none⟩ := by
  unfold Addr.add
  by_cases hj0 : j = 0
  · rw [if_pos hj0, hj0]; rfl
  · rw [if_neg hj0]
theorem spot_none {w : World} {x : Addr} {v : Value} (h : w.cell? x = some v) : x = ⟨x.block, x.off, none⟩ := by
  unfold World.cell? at h
  obtain ⟨b, o, s⟩ := x
  cases s with
  | none => rfl
  | some s =>
    exfalso
    split at h <;> simp at h
theorem nat_of_u64r {a : Int} (h : (Lit.int .u64 a).wf = true) : ∃ x : Nat, a = (x : Int) ∧ x < 18446744073709551616 := by
  simp [Lit.wf, IntKind.min, IntKind.max, IntKind.signed, IntKind.bits] at h
  exact ⟨a.toNat, by omega, by omega⟩
/-- a slice of numbers that can be read. -/
def Nums (w : World) (A : Option Addr) (xs : List Nat) : Prop :=
  (∀ x ∈ xs, x < 18446744073709551616) ∧ (0 < xs.length → ∃ b off, A = some ⟨b, off, none⟩ ∧ b < w.heap.size ∧ ∀ j, (hj : j < xs.length) → w.cell? ⟨b, off + j, none⟩ = some (.int .u64 (xs[j] : Int)))
theorem Nums.below {w w' : World} {A : Option Addr} {xs : List Nat} (h : Nums w A xs) (hb : Below w.heap.size w w') : Nums w' A xs :=
  ⟨h.1, fun hn => by
    obtain ⟨b, off, e, hlt, hc⟩ := h.2 hn
    exact ⟨b, off, e, Nat.lt_of_lt_of_le hlt hb.size, fun j hj => (hb.cell (p := ⟨b, off + j, none⟩) hlt).trans (hc j hj)⟩⟩
theorem IsRow.nums64 {w : World} {a : Option Addr} {len cap : Nat} {zs : List Int} (h : IsRow .u64 w a len cap zs) : ∃ xs : List Nat, xs.length = len ∧ Nums w a xs ∧ len ≤ 9223372036854775807 := by
  rcases h with ⟨rfl, rfl, rfl, rfl⟩ | ⟨x, rfl, hl, hm, hz, hc, hw⟩
  · exact ⟨[], rfl, ⟨by simp, by simp⟩, by omega⟩
  · have hlen : ((zs.take len).map Int.toNat).length = len := by rw [List.length_map, List.length_take, hz]; exact Nat.min_eq_left hl
    have hb : ∀ z ∈ zs, 0 ≤ z ∧ z < 18446744073709551616 := fun z hzm => by
      obtain ⟨x, rfl, hx⟩ := nat_of_u64r (hw z hzm)
      omega
    refine ⟨(zs.take len).map Int.toNat, hlen, ⟨?_, fun hp => ?_⟩, by unfold maxLen at hm; omega⟩
    · intro y hy
      obtain ⟨z, hz1, rfl⟩ := List.mem_map.1 hy
      have := hb z (List.mem_of_mem_take hz1)
      omega
    · rw [hlen] at hp
      have h0 := hc 0 (by omega)
      have hadd0 : x.add 0 = x := by simp [Addr.add]
      rw [hadd0] at h0
      obtain ⟨b, off, sp⟩ := x
      obtain rfl : sp = none := congrArg Addr.spot (spot_none h0)
      refine ⟨b, off, rfl, World.block_lt_of_cell? w _ h0, fun j hj => ?_⟩
      rw [hlen] at hj
      have h1 := hc j (by omega)
      rw [add_of] at h1
      rw [h1]
      have hjz : j < zs.length := by omega
      have hbj := hb zs[j] (List.getElem_mem hjz)
      have e : zs.getD j 0 = zs[j] := by simp [hjz]
      rw [e]
      simp only [List.getElem_map, List.getElem_take]
      congr 2
      omega
theorem bit_and (x : Nat) (hx : x < 18446744073709551616) : bits .and .u64 (x : Int) 1 = ((x % 2 : Nat) : Int) := by
  have h := u64_and_nat x 1 hx (by decide)
  rw [nat_mask1] at h
  exact h
theorem bit_is (r j : Nat) : (r / 2 ^ j) % 2 = if r.testBit j then 1 else 0 := by
  rw [Nat.testBit_eq_decide_div_mod_eq]
  have : r / 2 ^ j % 2 < 2 := Nat.mod_lt _ (by omega)
  by_cases h : r / 2 ^ j % 2 = 1
  · simp [h]
  · simp [h]
    omega
end Go.Proofs.YtajilghlcfheiaaGreatDoor.Bnd
/- orders.Below, the document's Below; bits.TrailingZeros64. -/
namespace Go.Proofs.YtajilghlcfheiaaGreatDoor.Bnd
set_option maxRecDepth 20000
open Go.RowKit Go.Proofs.YtajilghlcfheiaaGreatDoorW.PrintWords
def rowB (rows : List Nat) (a b : Nat) : Bool := decide (a < rows.length) && decide (a < 64) && decide (b < rows.length) && decide (b < 64) && (rows.getD a 0).testBit b
theorem rowB_no {rows : List Nat} {a b : Nat} (h : ¬ (a < rows.length ∧ a < 64 ∧ b < rows.length ∧ b < 64)) : rowB rows a b = false := by
  unfold rowB
  by_cases h1 : a < rows.length <;> by_cases h2 : a < 64 <;> by_cases h3 : b < rows.length <;> by_cases h4 : b < 64 <;> simp [h1, h2, h3, h4] at h ⊢
theorem rowB_yes {rows : List Nat} {a b : Nat} (h1 : a < rows.length) (h2 : a < 64) (h3 : b < rows.length) (h4 : b < 64) : rowB rows a b = rows[a].testBit b := by
  unfold rowB
  simp [h1, h2, h3, h4]
theorem ret_eq {a b : Bool} (h : a = b) : Ending.returned (.bool a) = .returned (.bool b) := by rw [h]
/-- a bit, as the program asks for it. -/
theorem bit_one (r j : Nat) (hr : r < 18446744073709551616) : (bits .and .u64 ((r : Int) / 2 ^ j) 1 == 1) = r.testBit j := by
  have e : (r : Int) / 2 ^ j = ((r / 2 ^ j : Nat) : Int) := by rw [Int.natCast_ediv, Int.natCast_pow]; rfl
  have hlt : r / 2 ^ j < 18446744073709551616 := Nat.lt_of_le_of_lt (Nat.div_le_self _ _) hr
  rw [e, bit_and _ hlt, bit_is]
  cases r.testBit j <;> rfl
theorem bit_zero (r j : Nat) (hr : r < 18446744073709551616) : (bits .and .u64 ((r : Int) / 2 ^ j) 1 == 0) = !r.testBit j := by
  have e : (r : Int) / 2 ^ j = ((r / 2 ^ j : Nat) : Int) := by rw [Int.natCast_ediv, Int.natCast_pow]; rfl
  have hlt : r / 2 ^ j < 18446744073709551616 := Nat.lt_of_le_of_lt (Nat.div_le_self _ _) hr
  rw [e, bit_and _ hlt, bit_is]
  cases r.testBit j <;> rfl
end Go.Proofs.YtajilghlcfheiaaGreatDoor.Bnd
/- The document's Below; bits.TrailingZeros64. -/
namespace Go.Proofs.YtajilghlcfheiaaGreatDoor.Bnd
set_option maxRecDepth 20000
open Go.RowKit Go.Proofs.YtajilghlcfheiaaGreatDoorW.PrintWords
set_option maxRecDepth 20000 in
set_option maxHeartbeats 1000000 in
theorem refbelow_any (A : Option Addr) (n c : Nat) (rows : List Nat) (hn : n = rows.length) (hmax : n ≤ 9223372036854775807) (a b : Nat) (ha : a < 18446744073709551616) (hb : b < 18446744073709551616) (w : World) (hI : Nums w A rows) : Calls Tryz.prog 112 #[.slice A n c, .int .u64 (a : Int), .int .u64 (b : Int)] w fun e w' => e = .returned (.bool (rowB rows a b)) ∧ w = w' := by
  by_cases h : a < n ∧ a < 64 ∧ b < n ∧ b < 64
  · obtain ⟨h1, h2, h3, h4⟩ := h
    obtain ⟨bb, off, rfl, _, hc⟩ := hI.2 (by omega)
    have hck := hc a (by omega)
    have hr := hI.1 rows[a] (List.getElem_mem (by omega))
    have HR := Lib.hid (rowB_yes (rows := rows) (a := a) (b := b) (by omega) h2 (by omega) h4)
    generalize rows[a] = r at hck hr HR
    have HB := Lib.hid (bit_one r b hr)
    have i1 : (0 : Int) ≤ (a : Int) := by omega
    have i2 : (a : Int) < (n : Int) := by omega
    have d1 : decide ((a : Int) < (n : Int)) = true := by simp; omega
    have d2 : decide ((b : Int) < (n : Int)) = true := by simp; omega
    have d3 : decide ((a : Int) < 64) = true := by simp; omega
    have d4 : decide ((b : Int) < 64) = true := by simp; omega
    have d5 : decide (a < n) = true := by simp; omega
    have d6 : decide (b < n) = true := by simp; omega
    clear hc hn hI
    go_enter Tryz.func112, Tryz.ntmps112
    go_wp2
    go_ret
    exact ⟨ret_eq (by rw [HR.out, ← HB.out]), rfl⟩
  · have HR := Lib.hid (rowB_no (rows := rows) (a := a) (b := b) (by rw [← hn]; exact h))
    clear hI hn
    obtain ⟨p1, hp1⟩ : ∃ p, decide (a < n) = p := ⟨_, rfl⟩
    obtain ⟨p2, hp2⟩ : ∃ p, decide (a < 64) = p := ⟨_, rfl⟩
    obtain ⟨p3, hp3⟩ : ∃ p, decide (b < n) = p := ⟨_, rfl⟩
    obtain ⟨p4, hp4⟩ : ∃ p, decide (b < 64) = p := ⟨_, rfl⟩
    have e1 : decide ((a : Int) < (n : Int)) = p1 := by rw [← hp1]; simp
    have e2 : decide ((a : Int) < 64) = p2 := by rw [← hp2, decide_eq_decide]; omega
    have e3 : decide ((b : Int) < (n : Int)) = p3 := by rw [← hp3]; simp
    have e4 : decide ((b : Int) < 64) = p4 := by rw [← hp4, decide_eq_decide]; omega
    have hno : (p1 && p2 && p3 && p4) = false := by
      rw [← hp1, ← hp2, ← hp3, ← hp4]
      simp only [← Bool.decide_and, decide_eq_false_iff_not]
      rintro ⟨⟨⟨q1, q2⟩, q3⟩, q4⟩
      exact h ⟨q1, q2, q3, q4⟩
    have HNO := Lib.hid hno
    clear h hno
    cases p2 <;> cases p4 <;> cases p1 <;> cases p3
    all_goals first
      | (exfalso
         have := HNO.out
         simp at this
         done)
      | (go_enter Tryz.func112, Tryz.ntmps112
         go_wp2
         go_ret
         exact ⟨ret_eq HR.out.symm, rfl⟩)
theorem tz_val (x : Nat) (h0 : x ≠ 0) (hx : x < 18446744073709551616) : ∃ i, i < 64 ∧ Lib.deBruijn64tab.getD i 0 = Lib.ctz 64 x ∧ IntKind.u64.wrap (bits .and .u64 (x : Int) (IntKind.u64.wrap (-(x : Int))) * 285870213051353865) / 288230376151711744 = (i : Int) := by
  obtain ⟨h1, h2⟩ := Lib.lowest_bit 64 x h0 (by rw [show (2 : Nat) ^ 64 = 18446744073709551616 from rfl]; exact hx)
  rw [show (2 : Nat) ^ 64 = 18446744073709551616 from rfl] at h1
  obtain ⟨h3, h4⟩ := Lib.deBruijn64_at (Lib.ctz 64 x) h2
  refine ⟨_, h3, h4, ?_⟩
  have e1 : IntKind.u64.wrap (-(x : Int)) = ((18446744073709551616 - x : Nat) : Int) := by rw [IntKind.wrap_u64]; omega
  rw [e1, u64_and_nat x (18446744073709551616 - x) hx (by omega), h1]
  generalize 2 ^ Lib.ctz 64 x = q
  rw [IntKind.wrap_u64]
  have e2 : ((q : Int) * 285870213051353865) = ((q * 285870213051353865 : Nat) : Int) := (Int.natCast_mul q 285870213051353865).symm
  rw [e2]
  omega
set_option maxRecDepth 20000 in
set_option maxHeartbeats 1000000 in
theorem tz_any (x : Nat) (h0 : x ≠ 0) (hx : x < 18446744073709551616) (w : World) (hT : Tab w) : Calls Tryz.prog 175 #[.int .u64 (x : Int)] w fun e w' => e = .returned (.int .i64 ((Lib.ctz 64 x : Nat) : Int)) ∧ w = w' := by
  have d1 : ((x : Int) == 0) = false := by rw [beq_eq_false_iff_ne]; omega
  have d2 : ¬ x = 0 := h0
  obtain ⟨i, hi, hg, hv⟩ := tz_val x h0 hx
  have hck := hT i hi
  rw [hg] at hck
  have hk : Lib.ctz 64 x < 64 := (Lib.lowest_bit 64 x h0 (by rw [show (2 : Nat) ^ 64 = 18446744073709551616 from rfl]; exact hx)).2
  generalize Lib.ctz 64 x = k at *
  clear hT hg h0
  go_enter Tryz.func175, Tryz.ntmps175
  go_wp2
  go_ret
  exact ⟨rfl, rfl⟩
end Go.Proofs.YtajilghlcfheiaaGreatDoor.Bnd
/- orders.one, orders.all. -/
namespace Go.Proofs.YtajilghlcfheiaaGreatDoor.Bnd
set_option maxRecDepth 20000
open Go.RowKit Go.Proofs.YtajilghlcfheiaaGreatDoorW.PrintWords
theorem clear_low (x : Nat) (h0 : x ≠ 0) (hx : x < 18446744073709551616) : Lib.ctz 64 x < 64 ∧ x.testBit (Lib.ctz 64 x) = true ∧ (∀ j, (x &&& (x - 1)).testBit j = (x.testBit j && decide (j ≠ Lib.ctz 64 x))) ∧ x &&& (x - 1) < x := by
  obtain ⟨m, hm, hk⟩ := Lib.ctzFrom_spec 64 x (by omega) (by rw [show (2 : Nat) ^ 64 = 18446744073709551616 from rfl]; exact hx)
  have e : Lib.ctz 64 x = Lib.ctzFrom 64 x := by simp [Lib.ctz, h0]
  rw [e]
  generalize Lib.ctzFrom 64 x = k at hm hk
  have hbit : ∀ j, x.testBit j = (decide (k ≤ j) && (2 * m + 1).testBit (j - k)) := fun j => by rw [hm, Nat.testBit_two_pow_mul]
  have hp : 0 < 2 ^ k := Nat.pow_pos (by omega)
  have hx1 : x - 1 = 2 ^ k * (2 * m) + (2 ^ k - 1) := by rw [hm, Nat.mul_add, Nat.mul_one]; omega
  have hbit1 : ∀ j, (x - 1).testBit j = if j < k then true else (2 * m).testBit (j - k) := fun j => by
    rw [hx1, Nat.testBit_two_pow_mul_add _ (by omega)]
    split
    · rw [Nat.testBit_two_pow_sub_one]; simpa
    · rfl
  refine ⟨hk, ?_, fun j => ?_, ?_⟩
  · rw [hbit]
    simp
  · rw [Nat.testBit_and, hbit, hbit1]
    by_cases hj : j < k
    · simp [hj, show ¬ k ≤ j by omega]
    · by_cases hjk : j = k
      · subst hjk
        simp
      · obtain ⟨i, rfl⟩ : ∃ i, j = k + (i + 1) := ⟨j - k - 1, by omega⟩
        have e1 : k + (i + 1) - k = i + 1 := by omega
        rw [e1, if_neg (by omega), Nat.testBit_succ, Nat.testBit_succ]
        have e2 : (2 * m + 1) / 2 = m := by omega
        have e3 : 2 * m / 2 = m := by omega
        rw [e2, e3]
        simp
  · have := Nat.and_le_right (n := x) (m := x - 1)
    omega
def oneB (rows : List Nat) (s : Nat) : Bool := (List.range 64).any fun j => s.testBit j && (rows.getD j 0 &&& s == s)
theorem high_bit {x j : Nat} (hx : x < 18446744073709551616) (h : x.testBit j = true) : j < 64 := by
  by_cases hj : j < 64
  · exact hj
  · exfalso
    have h2 : x < 2 ^ j := Nat.lt_of_lt_of_le hx (by rw [show 18446744073709551616 = 2 ^ 64 from rfl]; exact Nat.pow_le_pow_right (by omega) (by omega))
    rw [Nat.testBit_lt_two_pow h2] at h
    cases h
theorem and_nat (x y : Nat) (hx : x < 18446744073709551616) (hy : y < 18446744073709551616) : bits .and .u64 (x : Int) (y : Int) = ((x &&& y : Nat) : Int) := u64_and_nat x y hx hy
set_option maxRecDepth 20000 in
set_option maxHeartbeats 1000000 in
theorem one_any (A : Option Addr) (n c : Nat) (rows : List Nat) (hn : n = rows.length) (hmax : n ≤ 9223372036854775807) (s : Nat) (hs : s < 18446744073709551616) (hsn : ∀ j, s.testBit j = true → j < n) (w : World) (hI : Nums w A rows) (hT : Tab w) : Calls Tryz.prog 167 #[.int .u64 (s : Int), .slice A n c] w fun e w' => e = .returned (.bool (oneB rows s)) ∧ w = w' := by
  have HI := Lib.hid hI
  have HT := Lib.hid hT
  have HN := Lib.hid hn
  have HSN := Lib.hid hsn
  clear hI hT hn hsn
  go_enter Tryz.func167, Tryz.ntmps167
  go_wp2
  go_loop [5] (fun v => ∃ x : Nat, v = .int .u64 x ∧ x < 18446744073709551616 ∧ Hid (∀ j, x.testBit j = true → s.testBit j = true) ∧ Hid (∀ j, s.testBit j = true → x.testBit j = true ∨ (rows.getD j 0 &&& s) ≠ s)) (fun v => (intOf v).toNat)
  case atStart => exact ⟨s, rfl, hs, fun _ h => h, fun _ h => .inl h⟩
  case round =>
    obtain ⟨x, rfl, hx, H1, H2⟩ := hrel
    by_cases h0 : x = 0
    · subst h0
      have HR := Lib.hid (show oneB rows s = false by
        unfold oneB
        rw [List.any_eq_false]
        intro j _
        simp only [Bool.and_eq_true, beq_iff_eq, not_and]
        intro hj
        rcases H2.out j hj with h | h
        · simp at h
        · exact h)
      go_wp2
      go_ret
      exact ⟨ret_eq HR.out.symm, rfl⟩
    · have d1 : ((x : Int) != 0) = true := by simp; omega
      obtain ⟨k1, k2, k3, k4⟩ := clear_low x h0 hx
      have HZ := Lib.hid (tz_any x h0 hx w HT.out)
      generalize Lib.ctz 64 x = k at k1 k2 k3 HZ
      have hsk := H1.out k k2
      have hkn := HSN.out k hsk
      obtain ⟨b, off, rfl, _, hc⟩ := HI.out.2 (by have := HN.out; omega)
      have hkl : k < rows.length := by have := HN.out; omega
      have hck := hc k hkl
      have hr := HI.out.1 rows[k] (List.getElem_mem hkl)
      have hgd : rows.getD k 0 = rows[k] := by simp [List.getD, hkl]
      generalize rows[k] = r at hck hr hgd
      have ha := and_nat r s hr hs
      have ha2 := and_nat x (x - 1) hx (by omega)
      have hsub : (x : Int) - 1 = ((x - 1 : Nat) : Int) := by omega
      rw [← hsub] at ha2
      have i1 : (0 : Int) ≤ (k : Int) := by omega
      have i2 : (k : Int) < (n : Int) := by omega
      have hle : x &&& (x - 1) < 18446744073709551616 := by omega
      have hx1 : 1 ≤ x := by omega
      by_cases hrs : r &&& s = s
      · have d2 : (((r &&& s : Nat) : Int) == (s : Int)) = true := by rw [hrs]; simp
        have HR := Lib.hid (show oneB rows s = true by
          unfold oneB
          rw [List.any_eq_true]
          exact ⟨k, List.mem_range.2 k1, by rw [hsk, hgd, hrs]; simp⟩)
        rw [hrs] at ha
        clear hc d2 hrs k3 k4 hle hsub ha2
        go_wp2_with fail
        refine HZ.out.mono ?_
        rintro e w1 ⟨rfl, rfl⟩
        go_wp2
        go_ret
        exact ⟨ret_eq HR.out.symm, rfl⟩
      · have HX1 := Lib.hid (show ∀ j, (x &&& (x - 1)).testBit j = true → s.testBit j = true from fun j hj => by
          rw [k3, Bool.and_eq_true] at hj
          exact H1.out j hj.1)
        have HX2 := Lib.hid (show ∀ j, s.testBit j = true → (x &&& (x - 1)).testBit j = true ∨ (rows.getD j 0 &&& s) ≠ s from fun j hj => by
          by_cases hjk : j = k
          · subst hjk
            right
            rw [hgd]
            exact hrs
          · rcases H2.out j hj with h | h
            · left
              rw [k3, h]
              simpa using hjk
            · exact .inr h)
        have d2 : (((r &&& s : Nat) : Int) == (s : Int)) = false := by rw [beq_eq_false_iff_ne]; omega
        generalize r &&& s = rs at *
        have HK4 := Lib.hid k4
        clear hc hrs k3 hsub k4
        generalize x &&& (x - 1) = y at *
        go_wp2_with fail
        refine HZ.out.mono ?_
        rintro e w1 ⟨rfl, rfl⟩
        go_wp2
        go_round
        case rel => exact ⟨y, by rfl, hle, HX1, HX2⟩
        case measure => have := HK4.out; simp [intOf]; omega
end Go.Proofs.YtajilghlcfheiaaGreatDoor.Bnd
/- orders.all, orders.ordered. -/
namespace Go.Proofs.YtajilghlcfheiaaGreatDoor.Bnd
set_option maxRecDepth 20000
open Go.RowKit Go.Proofs.YtajilghlcfheiaaGreatDoorW.PrintWords
theorem all_any (n : Nat) (hn : n ≤ 64) (w : World) : Calls Tryz.prog 164 #[.int .i64 (n : Int)] w fun e w' => e = .returned (.int .u64 ((2 ^ n - 1 : Nat) : Int)) ∧ w = w' := by
  have hv : IntKind.u64.wrap (IntKind.u64.wrap (2 ^ n) - 1) = ((2 ^ n - 1 : Nat) : Int) := by
    have hp : 0 < 2 ^ n := Nat.pow_pos (by omega)
    have hle : 2 ^ n ≤ 2 ^ 64 := Nat.pow_le_pow_right (by omega) hn
    rw [show (2 : Nat) ^ 64 = 18446744073709551616 from rfl] at hle
    have e : (2 : Int) ^ n = ((2 ^ n : Nat) : Int) := by push_cast; rfl
    rw [e]
    generalize 2 ^ n = q at *
    rw [IntKind.wrap_u64, IntKind.wrap_u64]
    omega
  go_enter Tryz.func164, Tryz.ntmps164
  go_wp2
  go_ret
  exact ⟨rfl, rfl⟩
def diff (o r : Nat) : Nat := o &&& (18446744073709551615 - r)
def bad (rows : List Nat) (i j : Nat) : Bool := (j != i) && (rows.getD i 0).testBit j && ((rows.getD j 0).testBit i || (diff (rows.getD j 0) (rows.getD i 0) != 0))
def ordB (rows : List Nat) : Bool := (List.range rows.length).all fun i => (rows.getD i 0).testBit i && (List.range rows.length).all fun j => !bad rows i j
set_option maxRecDepth 20000 in
set_option maxHeartbeats 2000000 in
theorem ordered_any (A : Option Addr) (n c : Nat) (rows : List Nat) (hn : n = rows.length) (hmax : n ≤ 64) (w : World) (hI : Nums w A rows) : Calls Tryz.prog 165 #[.slice A n c] w fun e w' => e = .returned (.bool (ordB rows)) ∧ w = w' := by
  have HI := Lib.hid hI
  have HN := Lib.hid hn
  clear hI hn
  go_enter Tryz.func165, Tryz.ntmps165
  go_wp2
  go_loop [9] (fun v => ∃ i : Nat, i ≤ n ∧ v = .int .i64 i ∧ Hid (∀ i', i' < i → (rows.getD i' 0).testBit i' = true ∧ ∀ j, j < n → bad rows i' j = false)) (fun v => n - (intOf v).toNat)
  case atStart => exact ⟨0, by omega, rfl, fun i' h => by omega⟩
  case round =>
    obtain ⟨i, hi, rfl, H1⟩ := hrel
    by_cases hin : i < n
    · have hil : i < rows.length := by have := HN.out; omega
      obtain ⟨b, off, rfl, _, hc⟩ := HI.out.2 (by omega)
      have hck := hc i hil
      have hr := HI.out.1 rows[i] (List.getElem_mem hil)
      have hgd : rows.getD i 0 = rows[i] := by simp [List.getD, hil]
      generalize rows[i] = r at hck hr hgd
      have hbz := bit_zero r i hr
      have i1 : (0 : Int) ≤ (i : Int) := by omega
      have i2 : (i : Int) < (n : Int) := by omega
      have HC := Lib.hid hc
      have HGD := Lib.hid hgd
      clear hc hgd
      cases hb : r.testBit i with
      | false =>
        rw [hb] at hbz
        have HR := Lib.hid (show ordB rows = false by
          unfold ordB
          rw [List.all_eq_false]
          exact ⟨i, List.mem_range.2 hil, by rw [HGD.out, hb]; simp⟩)
        clear hb
        go_wp2
        go_ret
        exact ⟨ret_eq HR.out.symm, rfl⟩
      | true =>
        rw [hb] at hbz
        have HB := Lib.hid hb
        clear hb
        go_wp2
        go_loop [21] (fun v => ∃ j : Nat, j ≤ n ∧ v = .int .i64 j ∧ Hid (∀ j', j' < j → bad rows i j' = false)) (fun v => n - (intOf v).toNat)
        case atStart => exact ⟨0, by omega, rfl, fun j' h => by omega⟩
        case round =>
          obtain ⟨j, hj, rfl, H2⟩ := hrel
          by_cases hjn : j < n
          · have hjl : j < rows.length := by have := HN.out; omega
            have hcj := HC.out j hjl
            have ho := HI.out.1 rows[j] (List.getElem_mem hjl)
            have hgj : rows.getD j 0 = rows[j] := by simp [List.getD, hjl]
            generalize rows[j] = o at hcj ho hgj
            have hb1 := bit_one r j hr
            have hb2 := bit_one o i ho
            have hdf : bits .andNot .u64 (o : Int) (r : Int) = ((diff o r : Nat) : Int) := u64_andNot_nat o r ho hr
            have HBAD := Lib.hid (show bad rows i j = ((j != i) && r.testBit j && (o.testBit i || (diff o r != 0))) by unfold bad; rw [hgj, HGD.out])
            obtain ⟨q, hq⟩ : ∃ q, q = diff o r := ⟨_, rfl⟩
            rw [← hq] at hdf HBAD
            have j1 : (0 : Int) ≤ (j : Int) := by omega
            have j2 : (j : Int) < (n : Int) := by omega
            have e1 : ((j : Int) != (i : Int)) = (j != i) := by
              rw [Bool.eq_iff_iff]
              simp
              omega
            have e2 : ((q : Int) != 0) = (q != 0) := by
              rw [Bool.eq_iff_iff]
              simp
            obtain ⟨p1, hp1⟩ : ∃ p, p = (j != i) := ⟨_, rfl⟩
            obtain ⟨p2, hp2⟩ : ∃ p, p = r.testBit j := ⟨_, rfl⟩
            obtain ⟨p3, hp3⟩ : ∃ p, p = o.testBit i := ⟨_, rfl⟩
            obtain ⟨p4, hp4⟩ : ∃ p, p = (q != 0) := ⟨_, rfl⟩
            rw [← hp1] at e1 HBAD
            rw [← hp2] at hb1 HBAD
            rw [← hp3] at hb2 HBAD
            rw [← hp4] at e2 HBAD
            clear hp1 hp2 hp3 hp4 hgj hq
            cases p1 <;> cases p2 <;> cases p3 <;> cases p4
            all_goals
              go_wp2
              first
                | (go_round
                   case rel => exact ⟨j + 1, by omega, by go_num, fun j' h => by
                     by_cases e : j' = j
                     · subst e
                       rw [HBAD.out]
                       rfl
                     · exact H2.out j' (by omega)⟩
                   case measure => simp [intOf]; omega)
                | (go_ret
                   refine ⟨ret_eq ?_, rfl⟩
                   unfold ordB
                   symm
                   rw [List.all_eq_false]
                   refine ⟨i, List.mem_range.2 hil, ?_⟩
                   rw [Bool.and_eq_true, not_and]
                   intro _ h
                   have h2 := List.all_eq_true.1 h j (List.mem_range.2 hjl)
                   rw [HBAD.out] at h2
                   simp at h2)
          · obtain rfl : j = n := by omega
            go_wp2
            go_round
            case rel => exact ⟨i + 1, by omega, by go_num, fun i' h => by
              by_cases e : i' = i
              · subst e
                exact ⟨by rw [HGD.out]; exact HB.out, fun j' hj' => H2.out j' hj'⟩
              · exact H1.out i' (by omega)⟩
            case measure => simp [intOf]; omega
    · obtain rfl : i = n := by omega
      have HR := Lib.hid (show ordB rows = true by
        unfold ordB
        rw [List.all_eq_true]
        intro i' hi'
        obtain ⟨h1, h2⟩ := H1.out i' (by rw [HN.out]; exact List.mem_range.1 hi')
        rw [h1, Bool.true_and, List.all_eq_true]
        intro j' hj'
        rw [h2 j' (by rw [HN.out]; exact List.mem_range.1 hj')]
        rfl)
      go_wp2
      go_ret
      exact ⟨ret_eq HR.out.symm, rfl⟩
end Go.Proofs.YtajilghlcfheiaaGreatDoor.Bnd
/- orders.turned. -/
namespace Go.Proofs.YtajilghlcfheiaaGreatDoor.Bnd
set_option maxRecDepth 20000
open Go.RowKit Go.Proofs.YtajilghlcfheiaaGreatDoorW.PrintWords
/-- those of the first i rows that have j, as bits. -/
def upBits (rows : List Nat) (j : Nat) : Nat → Nat
  | 0 => 0
  | i + 1 => upBits rows j i ||| (if (rows.getD i 0).testBit j then 2 ^ i else 0)
theorem upBits_lt (rows : List Nat) (j : Nat) : ∀ i, upBits rows j i < 2 ^ i
  | 0 => by simp [upBits]
  | i + 1 => by
    have h := upBits_lt rows j i
    have h1 : (if (rows.getD i 0).testBit j then 2 ^ i else 0) < 2 ^ (i + 1) := by
      have : 2 ^ i < 2 ^ (i + 1) := Nat.pow_lt_pow_right (by omega) (by omega)
      split <;> omega
    rw [upBits]
    exact Nat.or_lt_two_pow (Nat.lt_of_lt_of_le h (Nat.pow_le_pow_right (by omega) (by omega))) h1
theorem info23 : (Tryz.prog.info? 66).map (fun i => (i.zero, i.size, i.bytes)) = some (some (.int .u64 0), 1, 8) := by kernel_rfl
theorem under22 : Tryz.prog.underlying 22 = some (.slice 66) := by kernel_rfl
set_option maxRecDepth 20000 in
set_option maxHeartbeats 2000000 in
theorem turned_any (A : Option Addr) (n c : Nat) (rows : List Nat) (hn : n = rows.length) (hmax : n ≤ 64) (w : World) (hI : Nums w A rows) : Calls Tryz.prog 166 #[.slice A n c] w fun e w' => e = .returned (.slice (some ⟨w.heap.size, 0, none⟩) n n) ∧ w'.rowIs w.heap.size 66 n (fun j => .int .u64 ((upBits rows j n : Nat) : Int)) ∧ Below w.heap.size w w' := by
  have mk1 := run_make_row' (P := Tryz.prog) 22 66 (.int .u64 0) 8 under22 info23 rfl .i64 .i64 n (by omega) (by omega)
  have HI := Lib.hid hI
  have HN := Lib.hid hn
  clear hI hn
  have HR0 := Lib.hid (World.rowIs_made w (.int .u64 0) n 66)
  have HB0 := Lib.hid ((Below.refl w.heap.size w).alloc (Nat.le_refl _) (.cells (madeCells #[.int .u64 0] n) 66))
  go_enter Tryz.func166, Tryz.ntmps166
  go_wp2
  obtain ⟨B, hB⟩ : ∃ B, B = w.heap.size := ⟨_, rfl⟩
  rw [← hB] at HR0
  rw [← hB]
  have HBB := Lib.hid hB
  clear hB
  generalize w.alloc (.cells (madeCells #[.int .u64 0] n) 66) = w0 at *
  go_loopw [12] (fun v wr => ∃ i : Nat, i ≤ n ∧ v = .int .i64 i ∧ Hid (wr.rowIs B 66 n (fun j => .int .u64 ((upBits rows j i : Nat) : Int))) ∧ Hid (Below w.heap.size w wr)) (fun v _ => n - (intOf v).toNat)
  case atStart => exact ⟨0, by omega, rfl, HR0, HB0⟩
  case round =>
    obtain ⟨i, hi, rfl, HR, HB⟩ := hrel
    by_cases hin : i < n
    · have hil : i < rows.length := by have := HN.out; omega
      obtain ⟨b, off, rfl, _, hc⟩ := (HI.out.below HB.out).2 (by omega)
      have hck := hc i hil
      have hr := HI.out.1 rows[i] (List.getElem_mem hil)
      have hgd : rows.getD i 0 = rows[i] := by simp [List.getD, hil]
      generalize rows[i] = r at hck hr hgd
      have i1 : (0 : Int) ≤ (i : Int) := by omega
      have i2 : (i : Int) < (n : Int) := by omega
      have HGD := Lib.hid hgd
      have HBO := HB
      have HRO := HR
      clear hc hgd HB HR
      go_wp2
      go_loopw [19] (fun v wq => ∃ j : Nat, j ≤ n ∧ v = .int .i64 j ∧ Hid (wq.rowIs B 66 n (fun j' => .int .u64 ((if j' < j then upBits rows j' (i + 1) else upBits rows j' i : Nat) : Int))) ∧ Hid (Below w.heap.size w wq)) (fun v _ => n - (intOf v).toNat)
      case atStart => exact ⟨0, by omega, rfl, HRO.out.congr (fun j' _ => by rw [if_neg (by omega)]), HBO⟩
      case round =>
        clear HRO HBO hck
        obtain ⟨j, hj, rfl, HR, HB⟩ := hrel
        by_cases hjn : j < n
        · have hcj := HR.out.cell hjn
          rw [if_neg (by omega)] at hcj
          have hfj := HR.out.frozen j
          have hol := upBits_lt rows j i
          have hup : upBits rows j (i + 1) = upBits rows j i ||| (if r.testBit j then 2 ^ i else 0) := by rw [upBits, HGD.out]
          obtain ⟨o, ho⟩ : ∃ o, o = upBits rows j i := ⟨_, rfl⟩
          rw [← ho] at hcj hol hup
          clear ho
          have hp : 2 ^ i ≤ 2 ^ 63 := Nat.pow_le_pow_right (by omega) (by omega)
          rw [show (2 : Nat) ^ 63 = 9223372036854775808 from rfl] at hp
          have hba : bits .and .u64 ((r : Int) / 2 ^ j) 1 = if r.testBit j then 1 else 0 := by
            have e : (r : Int) / 2 ^ j = ((r / 2 ^ j : Nat) : Int) := by rw [Int.natCast_ediv, Int.natCast_pow]; rfl
            rw [e, bit_and _ (Nat.lt_of_le_of_lt (Nat.div_le_self _ _) hr), bit_is]
            cases r.testBit j <;> rfl
          have hor1 : bits .or .u64 (o : Int) (IntKind.u64.wrap (2 ^ i)) = ((o ||| 2 ^ i : Nat) : Int) := by
            have e : (2 : Int) ^ i = ((2 ^ i : Nat) : Int) := by push_cast; rfl
            rw [e]
            generalize 2 ^ i = q at *
            rw [show IntKind.u64.wrap (q : Int) = (q : Int) by rw [IntKind.wrap_u64]; omega]
            exact u64_or_nat o q (by omega) (by omega)
          have hor0 : bits .or .u64 (o : Int) 0 = (o : Int) := by
            generalize 2 ^ i = q at *
            have h := u64_or_nat o 0 (by omega) (by decide)
            rwa [Nat.or_zero] at h
          have j1 : (0 : Int) ≤ (j : Int) := by omega
          have j2 : (j : Int) < (n : Int) := by omega
          have HUP := Lib.hid hup
          have HBS := Lib.hid (show w.heap.size ≤ B by rw [HBB.out]; exact Nat.le_refl _)
          clear hup hol hp
          cases htb : r.testBit j with
          | false =>
            rw [htb] at hba HUP
            have HS := Lib.hid (HR.out.set j (.int .u64 (o : Int)))
            clear htb hor1
            go_wp2
            go_region
            all_goals
              go_wp2
              go_roundw
              case rel => exact ⟨j + 1, by omega, by go_num, Lib.hid ((HS.out.drew).congr (fun j' hj' => by
                by_cases e : j' = j
                · subst e
                  rw [if_pos rfl, if_pos (by omega), HUP.out]
                  simp
                · rw [if_neg e]
                  by_cases e2 : j' < j
                  · rw [if_pos e2, if_pos (by omega)]
                  · rw [if_neg e2, if_neg (by omega)])), Lib.hid ((HB.out.setCell (p := ⟨B, j, none⟩) HBS.out _).drew)⟩
              case measure => simp [intOf]; omega
          | true =>
            rw [htb] at hba HUP
            have HS := Lib.hid (HR.out.set j (.int .u64 ((o ||| 2 ^ i : Nat) : Int)))
            clear htb hor0
            go_wp2
            go_region
            all_goals
              go_wp2
              go_roundw
              case rel => exact ⟨j + 1, by omega, by go_num, Lib.hid ((HS.out.drew).congr (fun j' hj' => by
                by_cases e : j' = j
                · subst e
                  rw [if_pos rfl, if_pos (by omega), HUP.out]
                  simp
                · rw [if_neg e]
                  by_cases e2 : j' < j
                  · rw [if_pos e2, if_pos (by omega)]
                  · rw [if_neg e2, if_neg (by omega)])), Lib.hid ((HB.out.setCell (p := ⟨B, j, none⟩) HBS.out _).drew)⟩
              case measure => simp [intOf]; omega
        · obtain rfl : j = n := by omega
          go_wp2
          go_roundw
          case rel => exact ⟨i + 1, by omega, by go_num, HR.out.congr (fun j' hj' => by rw [if_pos hj']), HB⟩
          case measure => simp [intOf]; omega
    · obtain rfl : i = n := by omega
      go_wp2
      go_ret
      exact ⟨by rw [← HBB.out]; rfl, by rw [← HBB.out]; exact HR.out, HB.out⟩
end Go.Proofs.YtajilghlcfheiaaGreatDoor.Bnd
/- A copy of numbers with a mark in the room behind it (TwinNums), and that it is still such a copy (LeftNums). -/
namespace Go.Proofs.YtajilghlcfheiaaGreatDoor.Bnd
set_option maxRecDepth 20000
open Go.RowKit Go.Proofs.YtajilghlcfheiaaGreatDoorW.PrintWords
def intsN (xs : List Nat) : List Int := xs.map fun b : Nat => (b : Int)
theorem intsN_length (bs : List Nat) : (intsN bs).length = bs.length := by simp [intsN]
theorem intsN_append (a b : List Nat) : intsN (a ++ b) = intsN a ++ intsN b := by simp [intsN]
theorem Nums.reads {w : World} {A : Option Addr} {bs : List Nat} (h : Nums w A bs) (hb : bs.length ≤ 9223372036854775807) : ReadsInt w .u64 A bs.length (intsN bs) := by
  refine ⟨intsN_length bs, hb, fun hp => ?_⟩
  obtain ⟨b, off, rfl, _, hc⟩ := h.2 hp
  refine ⟨_, rfl, fun j hj => ?_⟩
  rw [add_of, hc j hj]
  simp [intsN, hj]
theorem nums_of_reads {w : World} {A : Option Addr} {n : Nat} {bs : List Nat} (h : ReadsInt w .u64 A n (intsN bs)) (hn : n = bs.length) (hx : ∀ x ∈ bs, x < 18446744073709551616) : Nums w A bs := by
  subst hn
  refine ⟨hx, fun hp => ?_⟩
  obtain ⟨ad, rfl, hc⟩ := h.2.2 hp
  have h0 := hc 0 hp
  have hadd0 : ad.add 0 = ad := by simp [Addr.add]
  rw [hadd0] at h0
  obtain ⟨b, off, sp⟩ := ad
  obtain rfl : sp = none := congrArg Addr.spot (spot_none h0)
  refine ⟨b, off, rfl, World.block_lt_of_cell? w _ h0, fun j hj => ?_⟩
  have h1 := hc j hj
  rw [add_of] at h1
  rw [h1]
  simp [intsN, hj]
theorem cell_one (W : World) (v : Value) (e : TypeId) (j : Nat) (u : Value) (h : [v][j]? = some u) : (W.alloc (.cells #[v] e)).cell? ((⟨W.heap.size, 0, none⟩ : Addr).add j) = some u := by
  match j, h with
  | 0, h =>
    simp at h; subst h
    rw [add_of, cell_of_row _ _ _ _ _ _ (heap_alloc_new W _)]; rfl
/-- an owned row without room: its block, whole. -/
theorem own_whole {w : World} {base g n : Nat} {e : TypeId} {k : IntKind} {xs : List Int} (h : w.ownsRow base e 1 (.slice (some ⟨g, 0, none⟩) n n) n (nums k xs)) (hn : n ≠ 0) : w.heap[g]? = some (.cells (nums k xs).toArray e (0, 0)) := by
  rcases h.2 with ⟨_, h0⟩ | ⟨g', cap', cur, hv, _, hh, _, _, hs, ht⟩
  · exact absurd h0 hn
  · injection hv with hv1 hv2 hv3
    injection hv1 with hv1
    injection hv1 with hv1
    subst hv1 hv3
    rw [hh]
    have : cur = (nums k xs).toArray := by
      rw [Nat.mul_one] at hs ht
      apply Array.ext'
      rw [← ht, List.toList_toArray, List.take_of_length_le (by rw [Array.length_toList]; omega)]
    rw [this]
theorem rd_lt (xs : List Int) (j : Nat) : rd xs (j : Int) = xs.getD j 0 := rfl
theorem take_next {xs : List Int} {k : Nat} {X : Int} (hX : X = rd xs (k : Int)) (h : k < xs.length) : xs.take (k + 1) = xs.take k ++ [X] := by
  rw [List.take_succ_eq_append_getElem h, hX]
  simp [rd, h]
set_option maxHeartbeats 2000000 in
theorem twin_any (A : Option Addr) (n c : Nat) (bs : List Nat) (hn : n = bs.length) (hb : n ≤ 100000) (w : World) (hI : Nums w A bs) :
    Calls Tryz.prog 11 #[.slice A n c] w fun e w' => (∃ B, e = .returned (.slice (some ⟨B, 0, none⟩) n (n + 1)) ∧ w.heap.size ≤ B ∧ w'.heap[B]? = some (.cells (nums .u64 (intsN bs ++ [77])).toArray 66 (0, 0))) ∧ Below w.heap.size w w' := by
  obtain ⟨i0, hi, hz0, hz1, hz2⟩ := info_parts info23
  have HI := Lib.hid (hI.reads (by omega))
  have HN := Lib.hid hn
  have LEN := Lib.hid (intsN_length bs)
  obtain ⟨xs, hxs⟩ : ∃ xs, xs = intsN bs := ⟨_, rfl⟩
  rw [← hxs] at HI LEN ⊢
  have hlx : xs.length = n := by rw [LEN.out, ← HN.out]
  have HLX := Lib.hid hlx
  clear hI hn hxs hlx
  have HSZ := Lib.hid hz2
  have HS1 := Lib.hid hz1
  have HS0 := Lib.hid hz0
  have HIN := Lib.hid hi
  clear hz0 hz1 hz2 hi
  go_enter Tryz.func11, Tryz.ntmps11
  go_wp2_with (first
    | (refine wpList_make_own _ rfl (.const (.int .i64 0)) (.tmp 7) 22 rfl w.heap.size 66 i0 (.int .u64 0) 1 Tryz.underlying22 HIN.out HS0.out HS1.out .i64 .i64 ((n : Int) + 1) (n + 1) rfl rfl (by omega) (by rw [HSZ.out]; omega) (by unfold maxLen; omega) (Nat.le_refl _) ?_; intro w1 ho1 hg1; have HO1 := Lib.hid ho1; have HG1 := Lib.hid hg1; clear ho1 hg1))
  go_loopw [3, 4] (fun t i wr => ∃ k : Nat, k ≤ n ∧ i = .int .i64 k ∧ t = .slice (some ⟨w.heap.size, 0, none⟩) k (n + 1) ∧ Hid (wr.ownsRow w.heap.size 66 1 (.slice (some ⟨w.heap.size, 0, none⟩) k (n + 1)) k (nums .u64 (xs.take k))) ∧ Hid (Below w.heap.size w wr)) (fun _ i _ => n - (intOf i).toNat)
  case atStart => exact ⟨0, by omega, rfl, rfl, HO1.out, (Below.refl _ w).grown HG1.out (Nat.le_refl _) (fun k hk => by cases hk)⟩
  case round =>
    obtain ⟨k, hk, rfl, rfl, HO, HB⟩ := hrel
    by_cases hlt : k < n
    · obtain ⟨ad, eA, hcell⟩ := (HI.out.below HB.out).at_ (k : Int) (by omega) (by rw [← HN.out]; omega)
      subst eA
      rw [Int.toNat_natCast] at hcell
      obtain ⟨X, hX⟩ : ∃ X, X = rd xs (k : Int) := ⟨_, rfl⟩
      rw [← hX] at hcell
      have HX := Lib.hid (take_next hX (by rw [HLX.out]; exact hlt))
      clear hX
      go_wp2_with (first
        | (at_builtin; refine wpList_append_fits _ rfl (.tmp 15) (.tmp 20) 22 rfl w.heap.size 66 i0 1 Tryz.underlying22 HIN.out HS1.out w.heap.size k (n + 1) (nums .u64 (xs.take k)) rfl (HO.out.alloc _) ⟨wr.heap.size, 0, none⟩ 1 1 [.int .u64 X] rfl rfl (cell_one wr _ 66) (fun u hu => by rw [List.mem_singleton.1 hu]; rfl) (by omega) ?_; intro w2 ho2 hg2; have HO2 := Lib.hid ho2; have HB2 := Lib.hid ((HB.out.alloc HB.out.size _).grown hg2 (by have := HB.out.size; simp; omega) (fun j hj => by cases hj; exact Nat.le_refl _)); clear ho2 hg2))
      go_roundw
      case rel => exact ⟨k + 1, by omega, by go_num, rfl, by rw [HX.out, nums_append]; exact HO2.out, HB2.out⟩
      case measure => simp [intOf]; omega
    · obtain rfl : k = n := by omega
      have HT := Lib.hid (show xs.take k = xs from List.take_of_length_le (by rw [HLX.out]; omega))
      go_wp2_with (first
        | (at_builtin; refine wpList_append_fits _ rfl (.tmp 22) (.tmp 23) 22 rfl w.heap.size 66 i0 1 Tryz.underlying22 HIN.out HS1.out w.heap.size k (k + 1) (nums .u64 (xs.take k)) rfl (HO.out.alloc _) ⟨wr.heap.size, 0, none⟩ 1 1 [.int .u64 77] rfl rfl (cell_one wr _ 66) (fun u hu => by rw [List.mem_singleton.1 hu]; rfl) (by omega) ?_; intro w2 ho2 hg2; have HO2 := Lib.hid ho2; have HB2 := Lib.hid ((HB.out.alloc HB.out.size _).grown hg2 (by have := HB.out.size; simp; omega) (fun j hj => by cases hj; exact Nat.le_refl _)); clear ho2 hg2))
      go_ret
      refine ⟨⟨w.heap.size, rfl, Nat.le_refl _, ?_⟩, HB2.out⟩
      have h := HO2.out
      rw [HT.out] at h
      exact own_whole (xs := xs ++ [77]) (by rw [nums_append]; exact h) (by omega)
theorem rd_append (xs ys : List Int) (k : Nat) (h : k < xs.length) : rd (xs ++ ys) (k : Int) = rd xs (k : Int) := by
  simp [rd, List.getElem?_append_left h]
theorem rd_last (xs : List Int) (y : Int) (k : Nat) (h : xs.length = k) : rd (xs ++ [y]) (k : Int) = y := by
  subst h; simp [rd]
theorem blk_nums {w : World} {g : Nat} {e : TypeId} {k : IntKind} {xs : List Int} (h : w.heap[g]? = some (.cells (nums k xs).toArray e (0, 0))) (j : Nat) (hj : j < xs.length) : w.cell? ⟨g, j, none⟩ = some (.int k (rd xs (j : Int))) := by
  rw [blk_cell h]
  simp [nums, rd, hj]
set_option maxHeartbeats 2000000 in
theorem left_any (A : Option Addr) (n c B : Nat) (bs : List Nat) (hn : n = bs.length) (hb : n ≤ 100000) (w : World) (hI : Nums w A bs) (hT : w.heap[B]? = some (.cells (nums .u64 (intsN bs ++ [77])).toArray 66 (0, 0))) :
    Calls Tryz.prog 20 #[.slice (some ⟨B, 0, none⟩) n (n + 1), .slice A n c] w fun e w' => e = .returned (.bool true) ∧ Below w.heap.size w w' := by
  have HI := Lib.hid (hI.reads (by omega))
  have HN := Lib.hid hn
  have LEN := Lib.hid (intsN_length bs)
  obtain ⟨xs, hxs⟩ : ∃ xs, xs = intsN bs := ⟨_, rfl⟩
  rw [← hxs] at HI LEN hT
  have hlx : xs.length = n := by rw [LEN.out, ← HN.out]
  have HLX := Lib.hid hlx
  have HT := Lib.hid hT
  clear hI hn hxs hlx hT
  have d1 : ((n : Int) != (n : Int)) = false := by simp
  have d2 : decide ((n : Int) + 1 ≤ (n : Int)) = false := by simp; omega
  go_enter Tryz.func20, Tryz.ntmps20
  go_wp2
  go_loopw [5] (fun i wr => ∃ k : Nat, k ≤ n ∧ i = .int .i64 k ∧ ∃ q, wr = w.drewN q) (fun i _ => n - (intOf i).toNat)
  case atStart => exact ⟨0, by omega, rfl, 0, rfl⟩
  case round =>
    obtain ⟨k, hk, rfl, q, rfl⟩ := hrel
    by_cases hlt : k < n
    · obtain ⟨ad, eA, hcell⟩ := HI.out.at_ (k : Int) (by omega) (by rw [← HN.out]; omega)
      subst eA
      rw [Int.toNat_natCast] at hcell
      have hB := blk_nums HT.out k (by rw [List.length_append, HLX.out]; omega)
      obtain ⟨X, hX⟩ : ∃ X, X = rd xs (k : Int) := ⟨_, rfl⟩
      rw [rd_append xs [77] k (by rw [HLX.out]; exact hlt), ← hX] at hB
      rw [← hX] at hcell
      clear hX
      have dX : (X != X) = false := by simp
      have i1 : (0 : Int) ≤ (k : Int) := by omega
      have i2 : (k : Int) < (n : Int) := by omega
      go_wp2
      go_quiet (fail)
      go_wp2
      go_roundw
      case rel => exact ⟨k + 1, by omega, by go_num, _, rfl⟩
      case measure => simp [intOf]; omega
    · obtain rfl : k = n := by omega
      have hB := blk_nums HT.out k (by rw [List.length_append, HLX.out]; simp)
      rw [rd_last xs 77 k HLX.out] at hB
      go_wp2
      go_ret
      exact ⟨rfl, pw_below_drewN (Below.refl _ _) _⟩
end Go.Proofs.YtajilghlcfheiaaGreatDoor.Bnd
/- The document's Above and Under. -/
namespace Go.Proofs.YtajilghlcfheiaaGreatDoor.Bnd
set_option maxRecDepth 20000
open Go.RowKit Go.Proofs.YtajilghlcfheiaaGreatDoorW.PrintWords
theorem under22' : Tryz.prog.underlying 22 = some (.slice 66) := by kernel_rfl
/-- a row of numbers that the call made. -/
def Row (w : World) (base : Nat) (v : Value) (bs : List Nat) : Prop := w.ownsRow base 66 1 v (intsN bs).length (nums .u64 (intsN bs))
theorem Row.nums {w : World} {base : Nat} {v : Value} {bs : List Nat} (h : Row w base v bs) (hx : ∀ x ∈ bs, x < 18446744073709551616) : ∃ A c, v = .slice A bs.length c ∧ bs.length ≤ c ∧ Nums w A bs := by
  obtain ⟨A, c, rfl, hr⟩ := own_reads h
  rw [intsN_length] at hr
  refine ⟨A, c, by rw [intsN_length], ?_, nums_of_reads hr rfl hx⟩
  rcases h.2 with ⟨e, h0⟩ | ⟨g, cap, cur, e, _, _, hle, _⟩
  · rw [intsN_length] at h0
    omega
  · cases e
    rw [intsN_length] at hle
    exact hle
theorem Row.below {w w' : World} {base : Nat} {v : Value} {bs : List Nat} (h : Row w base v bs) (hb : Below w.heap.size w w') : Row w' base v bs :=
  World.ownsRow.kept (row := none) h ⟨hb.os, hb.tape, hb.output, hb.size, fun k hk _ => hb.block k hk⟩ (by cases v.ownBlock <;> simp)
theorem Row.base {w : World} {base b2 : Nat} {v : Value} {bs : List Nat} (h : Row w base v bs) (hb : b2 ≤ base) : Row w b2 v bs := by
  refine ⟨h.1, ?_⟩
  rcases h.2 with h0 | ⟨g, cap, cur, e, h1, h2⟩
  · exact .inl h0
  · exact .inr ⟨g, cap, cur, e, Nat.le_trans hb h1, h2⟩
theorem Row.nil (base : Nat) (w : World) : Row w base (.slice none 0 0) [] := World.ownsRow_nil w base 66 1
theorem reads_one (W : World) (x : Int) : ReadsInt (W.alloc (.cells #[.int .u64 x] 66)) .u64 (some ⟨W.heap.size, 0, none⟩) 1 [x] := by
  refine ⟨rfl, by omega, fun _ => ⟨_, rfl, fun j hj => ?_⟩⟩
  obtain rfl : j = 0 := by omega
  rw [add_of, Nat.zero_add, cell_of_row _ _ _ _ _ _ (heap_alloc_new W _)]
  rfl
def thoseTo (p : Nat → Bool) (i : Nat) : List Nat := (List.range i).filter p
theorem thoseTo_no {p : Nat → Bool} {i : Nat} (h : p i = false) : thoseTo p (i + 1) = thoseTo p i := by simp [thoseTo, List.range_succ, h]
theorem thoseTo_yes {p : Nat → Bool} {i : Nat} (h : p i = true) : thoseTo p (i + 1) = thoseTo p i ++ [i] := by simp [thoseTo, List.range_succ, h]
theorem thoseTo_length (p : Nat → Bool) (i : Nat) : (thoseTo p i).length ≤ i := by
  have := List.length_filter_le p (List.range i)
  rw [List.length_range] at this
  exact this
set_option maxRecDepth 20000 in
set_option maxHeartbeats 1000000 in
theorem above_any (A : Option Addr) (n c : Nat) (rows : List Nat) (hn : n = rows.length) (hmax : n ≤ 64) (a b : Nat) (ha : a < 18446744073709551616) (hb : b < 18446744073709551616) (w : World) (hI : Nums w A rows) : Calls Tryz.prog 169 #[.slice A n c, .int .u64 (a : Int), .int .u64 (b : Int)] w fun e w' => (∃ v, e = .returned v ∧ Row w' w.heap.size v (thoseTo (fun x => rowB rows a x && rowB rows b x) n)) ∧ Below w.heap.size w w' := by
  have HI := Lib.hid hI
  have HN := Lib.hid hn
  obtain ⟨p, hp⟩ : ∃ p : Nat → Bool, p = fun x => rowB rows a x && rowB rows b x := ⟨_, rfl⟩
  rw [← hp]
  have HP := Lib.hid (fun x => (congrFun hp x : p x = _))
  clear hI hn hp
  go_enter Tryz.func169, Tryz.ntmps169
  go_wp2
  go_loopw [7, 8] (fun v i wr => ∃ k : Nat, k ≤ n ∧ i = .int .u64 k ∧ Hid (Row wr w.heap.size v (thoseTo p k)) ∧ Hid (Below w.heap.size w wr)) (fun _ i _ => n - (intOf i).toNat)
  case atStart => exact ⟨0, by omega, rfl, Row.nil _ _, Below.refl _ w⟩
  case round =>
    obtain ⟨k, hk, rfl, HR, HB⟩ := hrel
    by_cases hlt : k < n
    · have d1 : decide ((k : Int) < (n : Int)) = true := by simp; omega
      have HC1 := Lib.hid (fun W (h : Below w.heap.size w W) => refbelow_any A n c rows HN.out (by omega) a k (by omega) (by omega) W (HI.out.below h))
      have HC2 := Lib.hid (fun W (h : Below w.heap.size w W) => refbelow_any A n c rows HN.out (by omega) b k (by omega) (by omega) W (HI.out.below h))
      have HPK := Lib.hid (HP.out k)
      have HPN := Lib.hid (thoseTo_no (p := p) (i := k))
      have HPY := Lib.hid (thoseTo_yes (p := p) (i := k))
      have HLN := Lib.hid (thoseTo_length p k)
      obtain ⟨q1, hq1⟩ : ∃ q, q = rowB rows a k := ⟨_, rfl⟩
      obtain ⟨q2, hq2⟩ : ∃ q, q = rowB rows b k := ⟨_, rfl⟩
      rw [← hq1] at HC1 HPK
      rw [← hq2] at HC2 HPK
      clear hq1 hq2
      cases q1 with
      | false =>
        go_wp2_with fail
        refine (HC1.out _ HB.out).mono ?_
        rintro e w1 ⟨rfl, rfl⟩
        go_wp2
        go_roundw
        case rel => exact ⟨k + 1, by omega, by go_num, by rw [HPN.out (by rw [HPK.out]; rfl)]; exact HR.out, HB.out⟩
        case measure => simp [intOf]; omega
      | true =>
        cases q2 with
        | false =>
          go_wp2_with fail
          refine (HC1.out _ HB.out).mono ?_
          rintro e w1 ⟨rfl, rfl⟩
          go_wp2_with fail
          refine (HC2.out _ HB.out).mono ?_
          rintro e w1 ⟨rfl, rfl⟩
          go_wp2
          go_roundw
          case rel => exact ⟨k + 1, by omega, by go_num, by rw [HPN.out (by rw [HPK.out]; rfl)]; exact HR.out, HB.out⟩
          case measure => simp [intOf]; omega
        | true =>
          have HBA := Lib.hid (HB.out.alloc HB.out.size (.cells #[.int .u64 (k : Int)] 66))
          have HRA := Lib.hid (HR.out.below ((Below.refl wr.heap.size wr).alloc (Nat.le_refl _) (.cells #[.int .u64 (k : Int)] 66)))
          go_wp2_with fail
          refine (HC1.out _ HB.out).mono ?_
          rintro e w1 ⟨rfl, rfl⟩
          go_wp2_with fail
          refine (HC2.out _ HB.out).mono ?_
          rintro e w1 ⟨rfl, rfl⟩
          go_wp2_with (first
            | (at_builtin; refine print_append_row (w0 := w) w.heap.size rfl (.tmp 26) (.tmp 28) 22 66 .u64 8 rfl under22' info23 (by decide) _ (intsN (thoseTo p k)) [(k : Int)] (some ⟨wr.heap.size, 0, none⟩) 1 1 rfl rfl HRA.out (reads_one wr _) HBA.out HBA.out.size (by rw [intsN_length]; have := HLN.out; omega) ?_; intro v7 w7 ho7 hb7 hg7 hat7; have HR7 := Lib.hid (show Row w7 w.heap.size v7 (thoseTo p (k + 1)) from (by unfold Row; rw [HPY.out (by rw [HPK.out]; rfl), intsN_append]; exact ho7)); have HB7 := Lib.hid hb7; clear ho7 hb7 hg7 hat7)
            | fail)
          go_roundw
          case rel => exact ⟨k + 1, by omega, by go_num, HR7.out, HB7.out⟩
          case measure => simp [intOf]; omega
    · obtain rfl : k = n := by omega
      have d1 : decide ((k : Int) < (k : Int)) = false := by simp
      go_wp2
      go_ret
      exact ⟨⟨_, rfl, HR.out⟩, HB.out⟩
set_option maxRecDepth 20000 in
set_option maxHeartbeats 1000000 in
theorem under_any (A : Option Addr) (n c : Nat) (rows : List Nat) (hn : n = rows.length) (hmax : n ≤ 64) (a b : Nat) (ha : a < 18446744073709551616) (hb : b < 18446744073709551616) (w : World) (hI : Nums w A rows) : Calls Tryz.prog 171 #[.slice A n c, .int .u64 (a : Int), .int .u64 (b : Int)] w fun e w' => (∃ v, e = .returned v ∧ Row w' w.heap.size v (thoseTo (fun x => rowB rows x a && rowB rows x b) n)) ∧ Below w.heap.size w w' := by
  have HI := Lib.hid hI
  have HN := Lib.hid hn
  obtain ⟨p, hp⟩ : ∃ p : Nat → Bool, p = fun x => rowB rows x a && rowB rows x b := ⟨_, rfl⟩
  rw [← hp]
  have HP := Lib.hid (fun x => (congrFun hp x : p x = _))
  clear hI hn hp
  go_enter Tryz.func171, Tryz.ntmps171
  go_wp2
  go_loopw [7, 8] (fun v i wr => ∃ k : Nat, k ≤ n ∧ i = .int .u64 k ∧ Hid (Row wr w.heap.size v (thoseTo p k)) ∧ Hid (Below w.heap.size w wr)) (fun _ i _ => n - (intOf i).toNat)
  case atStart => exact ⟨0, by omega, rfl, Row.nil _ _, Below.refl _ w⟩
  case round =>
    obtain ⟨k, hk, rfl, HR, HB⟩ := hrel
    by_cases hlt : k < n
    · have d1 : decide ((k : Int) < (n : Int)) = true := by simp; omega
      have HC1 := Lib.hid (fun W (h : Below w.heap.size w W) => refbelow_any A n c rows HN.out (by omega) k a (by omega) (by omega) W (HI.out.below h))
      have HC2 := Lib.hid (fun W (h : Below w.heap.size w W) => refbelow_any A n c rows HN.out (by omega) k b (by omega) (by omega) W (HI.out.below h))
      have HPK := Lib.hid (HP.out k)
      have HPN := Lib.hid (thoseTo_no (p := p) (i := k))
      have HPY := Lib.hid (thoseTo_yes (p := p) (i := k))
      have HLN := Lib.hid (thoseTo_length p k)
      obtain ⟨q1, hq1⟩ : ∃ q, q = rowB rows k a := ⟨_, rfl⟩
      obtain ⟨q2, hq2⟩ : ∃ q, q = rowB rows k b := ⟨_, rfl⟩
      rw [← hq1] at HC1 HPK
      rw [← hq2] at HC2 HPK
      clear hq1 hq2
      cases q1 with
      | false =>
        go_wp2_with fail
        refine (HC1.out _ HB.out).mono ?_
        rintro e w1 ⟨rfl, rfl⟩
        go_wp2
        go_roundw
        case rel => exact ⟨k + 1, by omega, by go_num, by rw [HPN.out (by rw [HPK.out]; rfl)]; exact HR.out, HB.out⟩
        case measure => simp [intOf]; omega
      | true =>
        cases q2 with
        | false =>
          go_wp2_with fail
          refine (HC1.out _ HB.out).mono ?_
          rintro e w1 ⟨rfl, rfl⟩
          go_wp2_with fail
          refine (HC2.out _ HB.out).mono ?_
          rintro e w1 ⟨rfl, rfl⟩
          go_wp2
          go_roundw
          case rel => exact ⟨k + 1, by omega, by go_num, by rw [HPN.out (by rw [HPK.out]; rfl)]; exact HR.out, HB.out⟩
          case measure => simp [intOf]; omega
        | true =>
          have HBA := Lib.hid (HB.out.alloc HB.out.size (.cells #[.int .u64 (k : Int)] 66))
          have HRA := Lib.hid (HR.out.below ((Below.refl wr.heap.size wr).alloc (Nat.le_refl _) (.cells #[.int .u64 (k : Int)] 66)))
          go_wp2_with fail
          refine (HC1.out _ HB.out).mono ?_
          rintro e w1 ⟨rfl, rfl⟩
          go_wp2_with fail
          refine (HC2.out _ HB.out).mono ?_
          rintro e w1 ⟨rfl, rfl⟩
          go_wp2_with (first
            | (at_builtin; refine print_append_row (w0 := w) w.heap.size rfl (.tmp 26) (.tmp 28) 22 66 .u64 8 rfl under22' info23 (by decide) _ (intsN (thoseTo p k)) [(k : Int)] (some ⟨wr.heap.size, 0, none⟩) 1 1 rfl rfl HRA.out (reads_one wr _) HBA.out HBA.out.size (by rw [intsN_length]; have := HLN.out; omega) ?_; intro v7 w7 ho7 hb7 hg7 hat7; have HR7 := Lib.hid (show Row w7 w.heap.size v7 (thoseTo p (k + 1)) from (by unfold Row; rw [HPY.out (by rw [HPK.out]; rfl), intsN_append]; exact ho7)); have HB7 := Lib.hid hb7; clear ho7 hb7 hg7 hat7)
            | fail)
          go_roundw
          case rel => exact ⟨k + 1, by omega, by go_num, HR7.out, HB7.out⟩
          case measure => simp [intOf]; omega
    · obtain rfl : k = n := by omega
      have d1 : decide ((k : Int) < (k : Int)) = false := by simp
      go_wp2
      go_ret
      exact ⟨⟨_, rfl, HR.out⟩, HB.out⟩
end Go.Proofs.YtajilghlcfheiaaGreatDoor.Bnd
/- A region walked over a frame that is a variable: what its slots hold stands in a list. -/
namespace Go.Proofs.YtajilghlcfheiaaGreatDoor.Bnd
set_option maxRecDepth 20000
open Go.RowKit
/-- The frame has n slots, and holds what the list tells. -/
structure Fr (n : Nat) (a : Act) (l : List (Nat × Value)) : Prop where
  size : a.tmps.size = n
  held : ∀ p ∈ l, a.tmps[p.1]?.getD undef = p.2
theorem Fr.nil {n : Nat} {a : Act} (h : a.tmps.size = n) : Hid (Fr n a []) := Lib.hid ⟨h, by simp⟩
theorem Fr.cons {n : Nat} {a : Act} {l : List (Nat × Value)} (h : Hid (Fr n a l)) (j : Nat) (v : Value) (e : a.tmps[j]?.getD undef = v) : Hid (Fr n a ((j, v) :: l)) :=
  Lib.hid ⟨h.out.size, by
    intro p hp
    rcases List.mem_cons.1 hp with rfl | hp
    · exact e
    · exact h.out.held p hp⟩
theorem fr_at {n : Nat} {a : Act} {l : List (Nat × Value)} (h : Hid (Fr n a l)) (k : Nat) {j : Nat} {v : Value} (hk : l[k]? = some (j, v)) : a.tmps[j]?.getD undef = v :=
  h.out.held (j, v) (List.mem_of_getElem? hk)
theorem fr_put {n : Nat} {a : Act} {l : List (Nat × Value)} (h : Hid (Fr n a l)) (d : Nat) (v : Value) (hl : l.all (fun p => p.1 != d) = true) (hd : d < n) : Hid (Fr n (a.put (some d) v) ((d, v) :: l)) :=
  Lib.hid ⟨by have := h.out.size; simp [Act.put, this], by
    intro p hp
    rcases List.mem_cons.1 hp with rfl | hp
    · simp [Act.put, h.out.size, hd]
    · have h1 : p.1 ≠ d := by have := List.all_eq_true.1 hl p hp; simpa using this
      have h2 := h.out.held p hp
      rw [← h2]
      simp only [Act.put]
      rw [Array.getElem?_setIfInBounds_ne (Ne.symm h1)]⟩
theorem guard_at {ops : Array Oper} {o : Oper} {a : Act} {j d : Nat} {want b : Bool} (hg : o.guard = some (j, want)) (hd : (ops[j]?).bind (·.dst) = some d) (he : a.tmps[d]?.getD undef = .bool b) : Region.wanted o (yielded ops a.tmps) = (b == want) := by
  have h1 : a.tmps[d]? = some (.bool b) := by
    cases h : a.tmps[d]? with
    | none => rw [h] at he; simp [undef] at he
    | some v => rw [h] at he; exact congrArg some he
  unfold Region.wanted
  rw [hg]
  simp only
  unfold yielded
  rw [hd]
  simp only [Option.bind_some, h1]
  cases b <;> cases want <;> rfl
section
variable {P : Program} {ops : Array Oper} {Q : Exit → Act → World → Prop} {S : World → Prop} {md : Region.Mode}
theorem tk {n i d : Nat} {oi : Oper} {v : Value} {fuel : Nat} {listed : Array Bool} {a : Act} {w : World} {l : List (Nat × Value)} (hF : Hid (Fr n a l)) (hi : ops[i]? = some oi)
    (hdst : oi.dst = some d) (hs : Region.noSelect ops = true) (hf : Region.free md ops listed i = true) (hr : (Region.ready md ops listed).contains i = true)
    (hQ : ∀ c a w, Q (.panic c) (a.put (some d) v) w → Q (.panic c) a w) (hy : YieldsIf P ops S oi v a) (hS : S w)
    (hl : l.all (fun p => p.1 != d) = true) (hd : d < n)
    (h : ∀ b, a.put (some d) v = b → Hid (Fr n b ((d, v) :: l)) → wpAnyH P md ops Q S fuel (listed.setIfInBounds i true) b w) : wpAnyH P md ops Q S (fuel + 1) listed a w :=
  wpAnyH_take hi hs hf hr (by rw [hdst]; exact hQ) hy hS (by rw [hdst]; exact h _ rfl (fr_put hF d v hl hd))
theorem yi_want {oi : Oper} {v : Value} {a : Act} {j d : Nat} {want : Bool} (hg : oi.guard = some (j, want)) (hd : (ops[j]?).bind (·.dst) = some d) (he : a.tmps[d]?.getD undef = .bool want)
    (h : ∀ w, S w → (execOp a.eval oi).run P w = .ok (.value v) w) : YieldsIf P ops S oi v a :=
  Or.inl ⟨by rw [guard_at hg hd he]; simp, h⟩
theorem yi_skip {oi : Oper} {a : Act} {j d : Nat} {want : Bool} (hg : oi.guard = some (j, want)) (hd : (ops[j]?).bind (·.dst) = some d) (he : a.tmps[d]?.getD undef = .bool (!want)) : YieldsIf P ops S oi undef a :=
  Or.inr ⟨by rw [guard_at hg hd he]; cases want <;> rfl, rfl⟩
theorem guard_none {o : Oper} {a : Act} {j d : Nat} {want : Bool} (hg : o.guard = some (j, want)) (hd : (ops[j]?).bind (·.dst) = some d) (he : a.tmps[d]?.getD undef = undef) : Region.wanted o (yielded ops a.tmps) = false := by
  unfold Region.wanted
  rw [hg]
  simp only
  unfold yielded
  rw [hd]
  simp only [Option.bind_some]
  cases h : a.tmps[d]? with
  | none => simp
  | some v =>
    rw [h] at he
    simp only [Option.getD_some] at he
    rw [he]
    simp [undef]
theorem yi_skipu {oi : Oper} {a : Act} {j d : Nat} {want : Bool} (hg : oi.guard = some (j, want)) (hd : (ops[j]?).bind (·.dst) = some d) (he : a.tmps[d]?.getD undef = undef) : YieldsIf P ops S oi undef a :=
  Or.inr ⟨guard_none hg hd he, rfl⟩
theorem yi_go {oi : Oper} {v : Value} {a : Act} (hg : oi.guard = none)
    (h : ∀ w, S w → (execOp a.eval oi).run P w = .ok (.value v) w) : YieldsIf P ops S oi v a :=
  Or.inl ⟨by unfold Region.wanted; rw [hg], h⟩
theorem ex_move {oi : Oper} {a : Act} {s : Nat} {v : Value} (w : World) (hop : oi.op = .move (.tmp s)) (e : a.tmps[s]?.getD undef = v) : (execOp a.eval oi).run P w = .ok (.value v) w := by
  rw [BigFrame.run_move (.tmp s) hop]
  rw [show a.eval (.tmp s) = v from by rw [← e]; simp [Act.eval]]
theorem ex_assign {oi : Oper} {a : Act} {s : Nat} {v : Value} (w : World) (hop : oi.op = .assign (.tmp s)) (e : a.tmps[s]?.getD undef = v) : (execOp a.eval oi).run P w = .ok (.value v) w := by
  rw [BigFrame.run_assign (.tmp s) hop]
  rw [show a.eval (.tmp s) = v from by rw [← e]; simp [Act.eval]]
theorem ev_tmp {a : Act} {s : Nat} {v : Value} (e : a.tmps[s]?.getD undef = v) : a.eval (.tmp s) = v := by
  rw [← e]
  simp [Act.eval]
end
end Go.Proofs.YtajilghlcfheiaaGreatDoor.Bnd
