/- Bytes that can be read; what they begin with (plain). -/
import Derived.Test.YtajilghlcfheiaaGreatDoorProg
import Derived.WalkKit
import Derived.ProofKit
import Derived.Outline
import Derived.KernelRfl
import Derived.Laws.Rows
import Derived.Laws.NewBlocks
import Derived.Laws.BitsAllLaws
import Derived.Lib.Hide
import Derived.Test.YtajilghlcfheiaaGreatDoorWWords
namespace Go.Proofs.YtajilghlcfheiaaGreatDoor.Num
open Go.RowKit Go.Proofs.YtajilghlcfheiaaGreatDoorW.PrintWords
def ints (bs : List UInt8) : List Int := bs.map fun b => (b.toNat : Int)
theorem ints_length (bs : List UInt8) : (ints bs).length = bs.length := by simp [ints]
theorem ints_append (a b : List UInt8) : ints (a ++ b) = ints a ++ ints b := by simp [ints]
/-- a slice of bytes that can be read. -/
def Bytes (w : World) (n₀ : Nat) (A : Option Addr) (bs : List UInt8) : Prop :=
  bs.length ≤ 9223372036854775807 ∧ (0 < bs.length → ∃ b off, A = some ⟨b, off, none⟩ ∧ b < n₀ ∧ ∀ j, (hj : j < bs.length) → w.cell? ⟨b, off + j, none⟩ = some (.int .u8 ((bs[j].toNat : Nat) : Int)))
theorem Bytes.below {w w' : World} {n₀ : Nat} {A : Option Addr} {bs : List UInt8} (h : Bytes w n₀ A bs) (hb : Below n₀ w w') : Bytes w' n₀ A bs :=
  ⟨h.1, fun hn => by
    obtain ⟨b, off, e, hlt, hc⟩ := h.2 hn
    exact ⟨b, off, e, hlt, fun j hj => (hb.cell (p := ⟨b, off + j, none⟩) hlt).trans (hc j hj)⟩⟩
theorem Bytes.later {w w' : World} {A : Option Addr} {bs : List UInt8} (h : Bytes w w.heap.size A bs) (hb : Below w.heap.size w w') : Bytes w' w'.heap.size A bs :=
  ⟨h.1, fun hn => by
    obtain ⟨b, off, e, hlt, hc⟩ := h.2 hn
    exact ⟨b, off, e, Nat.lt_of_lt_of_le hlt hb.size, fun j hj => (hb.cell (p := ⟨b, off + j, none⟩) hlt).trans (hc j hj)⟩⟩
theorem add_of (b off j : Nat) : (⟨b, off, none⟩ : Addr).add j = ⟨b, off + j, none⟩ := by
  unfold Addr.add
  by_cases hj0 : j = 0
  · rw [if_pos hj0, hj0]; rfl
  · rw [if_neg hj0]
theorem Bytes.reads {w : World} {n₀ : Nat} {A : Option Addr} {bs : List UInt8} (h : Bytes w n₀ A bs) : ReadsInt w .u8 A bs.length (ints bs) := by
  refine ⟨ints_length bs, h.1, fun hp => ?_⟩
  obtain ⟨b, off, rfl, _, hc⟩ := h.2 hp
  refine ⟨_, rfl, fun j hj => ?_⟩
  rw [add_of, hc j hj]
  simp [ints, hj]
theorem spot_none {w : World} {x : Addr} {v : Value} (h : w.cell? x = some v) : x = ⟨x.block, x.off, none⟩ := by
  unfold World.cell? at h
  obtain ⟨b, o, s⟩ := x
  cases s with
  | none => rfl
  | some s =>
    exfalso
    split at h <;> simp at h
theorem bytes_of_reads {w : World} {A : Option Addr} {n : Nat} {bs : List UInt8} (h : ReadsInt w .u8 A n (ints bs)) (hn : n = bs.length) : Bytes w w.heap.size A bs := by
  subst hn
  refine ⟨h.2.1, fun hp => ?_⟩
  obtain ⟨ad, rfl, hc⟩ := h.2.2 hp
  have h0 := hc 0 hp
  have hadd0 : ad.add 0 = ad := by simp [Addr.add]
  rw [hadd0] at h0
  obtain ⟨b, off, sp⟩ := ad
  obtain rfl : sp = none := congrArg Addr.spot (spot_none h0)
  refine ⟨b, off, rfl, World.block_lt_of_cell? w _ h0, fun j hj => ?_⟩
  have h1 := hc j hj
  rw [add_of] at h1
  rw [h1]
  simp [ints, hj]
/-- What bytes begin with, a number: it, how many bytes it took, and the error; from byte i on, a being what stood in those ahead. -/
def getA : Nat → Nat → List UInt8 → Nat × Nat × Nat
  | _, _, [] => (0, 0, 5)
  | i, a, c :: l => if (i = 9 ∧ 1 < c.toNat) ∨ (0 < i ∧ c.toNat = 0) then (0, 0, 4) else if c.toNat < 128 then (a + c.toNat * 128 ^ i, i + 1, 0) else getA (i + 1) (a + (c.toNat - 128) * 128 ^ i) l
def get (bs : List UInt8) : Nat × Nat × Nat := getA 0 0 bs
def tup (r : Nat × Nat × Nat) : Value := .tuple #[.int .u64 (r.1 : Int), .int .i64 (r.2.1 : Int), .int .i64 (r.2.2 : Int)]
theorem getA_cons (i a : Nat) (c : UInt8) (l : List UInt8) : getA i a (c :: l) = if (i = 9 ∧ 1 < c.toNat) ∨ (0 < i ∧ c.toNat = 0) then (0, 0, 4) else if c.toNat < 128 then (a + c.toNat * 128 ^ i, i + 1, 0) else getA (i + 1) (a + (c.toNat - 128) * 128 ^ i) l := rfl
theorem drop_cons {bs : List UInt8} {k : Nat} (hk : k < bs.length) : bs.drop k = bs[k] :: bs.drop (k + 1) := List.drop_eq_getElem_cons hk
end Go.Proofs.YtajilghlcfheiaaGreatDoor.Num
