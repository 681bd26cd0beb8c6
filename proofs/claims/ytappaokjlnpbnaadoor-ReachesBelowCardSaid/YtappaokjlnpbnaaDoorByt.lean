/- Numbers that can be read; a bit of a number; the table of math/bits. -/
import Derived.Test.YtappaokjlnpbnaaDoorProg
import Derived.WalkKit
import Derived.ProofKit
import Derived.Outline
import Derived.KernelRfl
import Derived.Laws.Rows
import Derived.Laws.NewBlocks
import Derived.Laws.BitsAllLaws
import Derived.Lib.Hide
import Derived.Lib.LaidTab
import Derived.Lib.TrailingZeros
import Derived.Test.YtappaokjlnpbnaaDoorWWords
namespace Go.Proofs.YtappaokjlnpbnaaDoor
open Go.RowKit Go.Proofs.YtappaokjlnpbnaaDoorW.PrintWords
theorem on {a b c : World} (h : Below a.heap.size a b) (k : Below b.heap.size b c) : Below a.heap.size a c := h.trans (k.mono h.size)
def tab64 : List Int := List.map (fun n : Nat => (n : Int)) Lib.deBruijn64tab
/-- the table as a call needs it. -/
def Tab (w : World) : Prop := ∀ i, i < 64 → w.cell? ⟨0, i, none⟩ = some (.int .u8 ((Lib.deBruijn64tab.getD i 0 : Nat) : Int))
theorem Tab.below {w w' : World} (h : Tab w) (hb : Below w.heap.size w w') : Tab w' := fun i hi => (hb.cell (p := ⟨0, i, none⟩) (World.block_lt_of_cell? w _ (h i hi))).trans (h i hi)
theorem tab_of {w : World} (h : Lib.TabIs Tryd.prog w "math/bits.deBruijn64tab" .u8 tab64) : Tab w := fun i hi => by
  have hl : Lib.deBruijn64tab.length = 64 := by decide
  rw [h.cell (g := 0) (by kernel_rfl) i (by unfold tab64; rw [List.length_map, hl]; exact hi)]
  unfold tab64
  simp [List.getD, hl, hi]
def IsRow (k : IntKind) (w : World) (a : Option Addr) (len cap : Nat) (zs : List Int) : Prop :=
  (a = none ∧ len = 0 ∧ cap = 0 ∧ zs = []) ∨
  ∃ x, a = some x ∧ len ≤ cap ∧ cap ≤ maxLen ∧ zs.length = cap ∧ (∀ i, i < zs.length → w.cell? (x.add i) = some (.int k (zs.getD i 0))) ∧ ∀ n ∈ zs, (Lit.int k n).wf = true
theorem add_of (b off j : Nat) : (⟨b, off, none⟩ : Addr).add j = ⟨b, off + j, none⟩ := by
  unfold Addr.add
  by_cases hj0 : j = 0
  · rw [if_pos hj0, hj0]; rfl
  · rw [if_neg hj0]
theorem spot_none {w : World} {x : Addr} {v : Value} (h : w.cell? x = some v) : x = ⟨x.block, x.off, none⟩ := by
  unfold World.cell? at h
  obtain ⟨b, o, s⟩ := x
  cases s with
  | none => rfl
  | some s =>
    exfalso
    split at h <;> simp at h
theorem nat_of_u64r {a : Int} (h : (Lit.int .u64 a).wf = true) : ∃ x : Nat, a = (x : Int) ∧ x < 18446744073709551616 := by
  simp [Lit.wf, IntKind.min, IntKind.max, IntKind.signed, IntKind.bits] at h
  exact ⟨a.toNat, by omega, by omega⟩
/-- a slice of numbers that can be read. -/
def Nums (w : World) (A : Option Addr) (xs : List Nat) : Prop :=
  (∀ x ∈ xs, x < 18446744073709551616) ∧ (0 < xs.length → ∃ b off, A = some ⟨b, off, none⟩ ∧ b < w.heap.size ∧ ∀ j, (hj : j < xs.length) → w.cell? ⟨b, off + j, none⟩ = some (.int .u64 (xs[j] : Int)))
theorem Nums.below {w w' : World} {A : Option Addr} {xs : List Nat} (h : Nums w A xs) (hb : Below w.heap.size w w') : Nums w' A xs :=
  ⟨h.1, fun hn => by
    obtain ⟨b, off, e, hlt, hc⟩ := h.2 hn
    exact ⟨b, off, e, Nat.lt_of_lt_of_le hlt hb.size, fun j hj => (hb.cell (p := ⟨b, off + j, none⟩) hlt).trans (hc j hj)⟩⟩
theorem IsRow.nums64 {w : World} {a : Option Addr} {len cap : Nat} {zs : List Int} (h : IsRow .u64 w a len cap zs) : ∃ xs : List Nat, xs.length = len ∧ Nums w a xs ∧ len ≤ 9223372036854775807 := by
  rcases h with ⟨rfl, rfl, rfl, rfl⟩ | ⟨x, rfl, hl, hm, hz, hc, hw⟩
  · exact ⟨[], rfl, ⟨by simp, by simp⟩, by omega⟩
  · have hlen : ((zs.take len).map Int.toNat).length = len := by rw [List.length_map, List.length_take, hz]; exact Nat.min_eq_left hl
    have hb : ∀ z ∈ zs, 0 ≤ z ∧ z < 18446744073709551616 := fun z hzm => by
      obtain ⟨x, rfl, hx⟩ := nat_of_u64r (hw z hzm)
      omega
    refine ⟨(zs.take len).map Int.toNat, hlen, ⟨?_, fun hp => ?_⟩, by unfold maxLen at hm; omega⟩
    · intro y hy
      obtain ⟨z, hz1, rfl⟩ := List.mem_map.1 hy
      have := hb z (List.mem_of_mem_take hz1)
      omega
    · rw [hlen] at hp
      have h0 := hc 0 (by omega)
      have hadd0 : x.add 0 = x := by simp [Addr.add]
      rw [hadd0] at h0
      obtain ⟨b, off, sp⟩ := x
      obtain rfl : sp = none := congrArg Addr.spot (spot_none h0)
      refine ⟨b, off, rfl, World.block_lt_of_cell? w _ h0, fun j hj => ?_⟩
      rw [hlen] at hj
      have h1 := hc j (by omega)
      rw [add_of] at h1
      rw [h1]
      have hjz : j < zs.length := by omega
      have hbj := hb zs[j] (List.getElem_mem hjz)
      have e : zs.getD j 0 = zs[j] := by simp [hjz]
      rw [e]
      simp only [List.getElem_map, List.getElem_take]
      congr 2
      omega
theorem bit_and (x : Nat) (hx : x < 18446744073709551616) : bits .and .u64 (x : Int) 1 = ((x % 2 : Nat) : Int) := by
  have h := u64_and_nat x 1 hx (by decide)
  rw [nat_mask1] at h
  exact h
theorem bit_is (r j : Nat) : (r / 2 ^ j) % 2 = if r.testBit j then 1 else 0 := by
  rw [Nat.testBit_eq_decide_div_mod_eq]
  have : r / 2 ^ j % 2 < 2 := Nat.mod_lt _ (by omega)
  by_cases h : r / 2 ^ j % 2 = 1
  · simp [h]
  · simp [h]
    omega
end Go.Proofs.YtappaokjlnpbnaaDoor
