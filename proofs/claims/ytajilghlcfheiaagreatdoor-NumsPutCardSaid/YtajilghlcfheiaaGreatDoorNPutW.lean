/- NumsPut's walk at whatever comes in. -/
import Derived.Test.YtajilghlcfheiaaGreatDoorNPut
namespace Go.Proofs.YtajilghlcfheiaaGreatDoor
open Go.RowKit Go.Proofs.YtajilghlcfheiaaGreatDoorW.PrintWords Go.Proofs.YtajilghlcfheiaaGreatDoor.Num
theorem bounds_u8 {a : Int} (h : (Lit.int .u8 a).wf = true) : 0 ≤ a ∧ a ≤ 255 := by
  simp [Lit.wf, IntKind.min, IntKind.max, IntKind.signed, IntKind.bits] at h
  omega
def IsRow (k : IntKind) (w : World) (a : Option Addr) (len cap : Nat) (zs : List Int) : Prop :=
  (a = none ∧ len = 0 ∧ cap = 0 ∧ zs = []) ∨
  ∃ x, a = some x ∧ len ≤ cap ∧ cap ≤ maxLen ∧ zs.length = cap ∧ (∀ i, i < zs.length → w.cell? (x.add i) = some (.int k (zs.getD i 0))) ∧ ∀ n ∈ zs, (Lit.int k n).wf = true
theorem bytes_none (w : World) (n₀ : Nat) : Bytes w n₀ none [] := ⟨by simp, fun h => absurd h (by simp)⟩
theorem IsRow.bytes {w : World} {a : Option Addr} {len cap : Nat} {zs : List Int} (h : IsRow .u8 w a len cap zs) : ∃ bs : List UInt8, bs.length = len ∧ Bytes w w.heap.size a bs ∧ len ≤ cap := by
  rcases h with ⟨rfl, rfl, rfl, rfl⟩ | ⟨x, rfl, hl, hm, hz, hc, hw⟩
  · exact ⟨[], rfl, bytes_none _ _, Nat.le_refl _⟩
  · have hlen : ((zs.take len).map fun z => UInt8.ofNat z.toNat).length = len := by rw [List.length_map, List.length_take, hz]; exact Nat.min_eq_left hl
    refine ⟨(zs.take len).map fun z => UInt8.ofNat z.toNat, hlen, ⟨?_, fun hp => ?_⟩, hl⟩
    · show _ ≤ _
      rw [hlen]; unfold maxLen at hm; exact Nat.le_trans hl hm
    · rw [hlen] at hp
      have h0 := hc 0 (by omega)
      have hadd0 : x.add 0 = x := by simp [Addr.add]
      rw [hadd0] at h0
      obtain ⟨b, off, sp⟩ := x
      obtain rfl : sp = none := congrArg Addr.spot (spot_none h0)
      refine ⟨b, off, rfl, World.block_lt_of_cell? w _ h0, fun j hj => ?_⟩
      rw [hlen] at hj
      have h1 := hc j (by omega)
      have hadd : (⟨b, off, none⟩ : Addr).add j = ⟨b, off + j, none⟩ := by
        unfold Addr.add
        by_cases hj0 : j = 0
        · rw [if_pos hj0, hj0]; rfl
        · rw [if_neg hj0]
      rw [hadd] at h1
      rw [h1]
      have hjz : j < zs.length := by omega
      have hb := bounds_u8 (hw zs[j] (List.getElem_mem hjz))
      have e : zs.getD j 0 = zs[j] := by simp [hjz]
      rw [e]
      simp only [List.getElem_map, List.getElem_take]
      congr 2
      rw [UInt8.toNat_ofNat']
      omega
end Go.Proofs.YtajilghlcfheiaaGreatDoor
namespace Go.Proofs.YtajilghlcfheiaaGreatDoor.Num
open Go.RowKit Go.Proofs.YtajilghlcfheiaaGreatDoorW.PrintWords
theorem nput_walk (A : Option Addr) (n c : Nat) (zs : List Int) (x : Int) (s : ByteArray) (w : World) (hr : IsRow .u8 w A n c zs) (_hn : n * 1 ≤ 140737488351232) (hx : (Lit.int .u64 x).wf = true) (hs : s.size ≤ 140737488351232) :
    Calls Tryz.prog 4 #[.slice A n c, .int .u64 x, .string s] w fun e w' => e = .returned (.bool true) ∧ Below w.heap.size w w' := by
  obtain ⟨bs, hlen, hI, hcap⟩ := hr.bytes
  obtain ⟨m, rfl, hm⟩ : ∃ m : Nat, x = m ∧ m < 18446744073709551616 := by
    simp [Lit.wf, IntKind.min, IntKind.max, IntKind.signed, IntKind.bits] at hx
    exact ⟨x.toNat, by omega, by omega⟩
  obtain ⟨l, rfl⟩ : ∃ l : List UInt8, s = ⟨l.toArray⟩ := ⟨s.data.toList, by cases s; simp⟩
  have e : (⟨l.toArray⟩ : ByteArray).size = l.length := by simp [ByteArray.size]
  rw [e] at hs
  exact nput_in A n c bs hlen.symm (by omega) m hm l (by omega) w hI
end Go.Proofs.YtajilghlcfheiaaGreatDoor.Num
