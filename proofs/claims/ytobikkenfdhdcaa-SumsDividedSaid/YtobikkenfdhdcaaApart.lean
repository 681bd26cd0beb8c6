/- Behind unlike sums the same bytes make unlike sums, behind the same ones the same: the law's walk. -/
import Derived.Test.YtobikkenfdhdcaaAlive
import Derived.OpenShut
namespace Go.Proofs.Ytobikkenfdhdcaa
open Go.RowKit Go.Shelf Go.Proofs.YtobikkenfdhdcaaW.PrintWords
/-- a slice of whole numbers, as the row's frame gives it. -/
def IsRow (k : IntKind) (w : World) (a : Option Addr) (len cap : Nat) (zs : List Int) : Prop :=
  (a = none ∧ len = 0 ∧ cap = 0 ∧ zs = []) ∨
  ∃ x, a = some x ∧ len ≤ cap ∧ cap ≤ maxLen ∧ zs.length = cap ∧ (∀ i, i < zs.length → w.cell? (x.add i) = some (.int k (zs.getD i 0))) ∧ ∀ n ∈ zs, (Lit.int k n).wf = true
theorem spot_none {w : World} {x : Addr} {v : Value} (h : w.cell? x = some v) : x = ⟨x.block, x.off, none⟩ := by
  unfold World.cell? at h
  split at h
  · split at h
    · cases h
    · rename_i hs
      cases x with
      | mk b o s => cases s with
        | none => rfl
        | some s => simp at hs
  · cases h
theorem IsRow.bytes {w : World} {a : Option Addr} {len cap : Nat} {zs : List Int} (h : IsRow .u8 w a len cap zs) : ∃ bs : List UInt8, bs.length = len ∧ Bytes w w.heap.size a bs ∧ len ≤ cap := by
  rcases h with ⟨rfl, rfl, rfl, rfl⟩ | ⟨x, rfl, hl, hm, hz, hc, hw⟩
  · exact ⟨[], rfl, bytes_none _ _, Nat.le_refl _⟩
  · have hlen : ((zs.take len).map fun z => UInt8.ofNat z.toNat).length = len := by rw [List.length_map, List.length_take, hz]; exact Nat.min_eq_left hl
    refine ⟨(zs.take len).map fun z => UInt8.ofNat z.toNat, hlen, ⟨?_, fun hp => ?_⟩, hl⟩
    · show _ ≤ _
      rw [hlen]; unfold maxLen at hm; exact Nat.le_trans hl hm
    · rw [hlen] at hp
      have h0 := hc 0 (by omega)
      have hadd0 : x.add 0 = x := by simp [Addr.add]
      rw [hadd0] at h0
      obtain ⟨b, off, sp⟩ := x
      obtain rfl : sp = none := congrArg Addr.spot (spot_none h0)
      refine ⟨b, off, rfl, World.block_lt_of_cell? w _ h0, fun j hj => ?_⟩
      rw [hlen] at hj
      have h1 := hc j (by omega)
      have hadd : (⟨b, off, none⟩ : Addr).add j = ⟨b, off + j, none⟩ := by
        unfold Addr.add
        by_cases hj0 : j = 0
        · rw [if_pos hj0, hj0]; rfl
        · rw [if_neg hj0]
      rw [hadd] at h1
      rw [h1]
      have hjz : j < zs.length := by omega
      have hb := bounds_u8 (hw zs[j] (List.getElem_mem hjz))
      have e : zs.getD j 0 = zs[j] := by simp [hjz]
      rw [e]
      simp only [List.getElem_map, List.getElem_take]
      congr 2
      rw [UInt8.toNat_ofNat']
      omega
theorem Bytes.mono {w : World} {n₀ n₁ : Nat} {A : Option Addr} {bs : List UInt8} (h : Bytes w n₀ A bs) (hn : n₀ ≤ n₁) : Bytes w n₁ A bs :=
  ⟨h.1, fun hp => by obtain ⟨b, off, e, hlt, hc⟩ := h.2 hp; exact ⟨b, off, e, by omega, hc⟩⟩
theorem Bytes.later {w w' : World} {A : Option Addr} {bs : List UInt8} (h : Bytes w w.heap.size A bs) (hb : Below w.heap.size w w') : Bytes w' w'.heap.size A bs := (h.below hb).mono hb.size
theorem ret_true {b : Bool} (h : b = true) : Ending.returned (.bool b) = .returned (.bool true) := by rw [h]
theorem apart_law (a b : Int) (a0 : 0 ≤ a) (a1 : a ≤ 4294967295) (b0 : 0 ≤ b) (b1 : b ≤ 4294967295) (l : List Nat) :
    ((((Crc.on (BitVec.ofNat 32 a.toNat) l).toNat : Nat) : Int) == (((Crc.on (BitVec.ofNat 32 b.toNat) l).toNat : Nat) : Int)) = (a == b) := by
  rw [Bool.eq_iff_iff, beq_iff_eq, beq_iff_eq]
  constructor
  · intro h
    have h1 : (Crc.on (BitVec.ofNat 32 a.toNat) l) = (Crc.on (BitVec.ofNat 32 b.toNat) l) := BitVec.eq_of_toNat_eq (by omega)
    have h2 := congrArg BitVec.toNat (Crc.on_inj l h1)
    rw [BitVec.toNat_ofNat, BitVec.toNat_ofNat] at h2
    omega
  · rintro rfl; rfl
set_option maxHeartbeats 1000000 in
theorem apart_walk (a b : Int) (A : Option Addr) (n c : Nat) (zs : List Int) (w : World) (ha : (Lit.int .u32 a).wf = true) (hb : (Lit.int .u32 b).wf = true) (hr : IsRow .u8 w A n c zs) (hn : n * 1 ≤ 140737488351232) :
    Calls Try.prog 4 #[.int .u32 a, .int .u32 b, .slice A n c] w fun e w' => e = .returned (.bool true) ∧ Below w.heap.size w w' := by
  obtain ⟨bs, hlen, hI, _⟩ := hr.bytes
  obtain ⟨a0, a1⟩ := bounds_u32 ha
  obtain ⟨b0, b1⟩ := bounds_u32 hb
  by_cases hg : n ≤ 50000
  · have hd : decide (50000 < (n : Int)) = false := by simp; omega
    have HL := Lib.hid hlen.symm
    have HI := Lib.hid hI
    clear hlen hI hr ha hb
    go_enter Try.func4, Try.ntmps4
    go_wp2_with fail
    refine (great_one _ _ _ (by omega) _).mono ?_
    rintro e w1 ⟨rfl, rfl⟩
    go_wp2_with fail
    refine (alive_any _).mono ?_
    rintro e w2 ⟨rfl, hb2⟩
    have hbw : Below w.heap.size w w2 := below_lit hb2
    go_wp2_with fail
    refine (on_int a a0 a1 A n c bs HL.out _ (HI.out.later hbw)).mono ?_
    rintro e w3 ⟨rfl, hb3⟩
    have hbw3 : Below w.heap.size w w3 := hbw.trans (hb3.mono hbw.size)
    go_wp2_with fail
    refine (on_int b b0 b1 A n c bs HL.out _ (HI.out.later hbw3)).mono ?_
    rintro e w4 ⟨rfl, hb4⟩
    have hbw4 : Below w.heap.size w w4 := hbw3.trans (hb4.mono hbw3.size)
    go_wp2_with fail
    go_ret
    exact ⟨ret_true (by rw [apart_law a b a0 a1 b0 b1]; simp), hbw4⟩
  · have hd : decide (50000 < (n : Int)) = true := by simp; omega
    clear hlen hI hr ha hb
    go_enter Try.func4, Try.ntmps4
    go_wp2_with fail
    refine (great_one _ _ _ (by omega) _).mono ?_
    rintro e w1 ⟨rfl, rfl⟩
    go_wp2_with fail
    refine (alive_any _).mono ?_
    rintro e w2 ⟨rfl, hb2⟩
    go_wp2_with fail
    go_ret
    exact ⟨rfl, below_lit hb2⟩
end Go.Proofs.Ytobikkenfdhdcaa
