/- The document's GetFour. -/
import Derived.Test.YtmfmampcgadjhaaFour
import Derived.OpenShut
namespace Go.Proofs.Ytmfmampcgadjhaa
open Go.RowKit Go.Proofs.YtmfmampcgadjhaaW.PrintWords
/-- a slice of whole numbers, as the row's frame gives it. -/
def IsRow (k : IntKind) (w : World) (a : Option Addr) (len cap : Nat) (zs : List Int) : Prop :=
  (a = none ∧ len = 0 ∧ cap = 0 ∧ zs = []) ∨
  ∃ x, a = some x ∧ len ≤ cap ∧ cap ≤ maxLen ∧ zs.length = cap ∧ (∀ i, i < zs.length → w.cell? (x.add i) = some (.int k (zs.getD i 0))) ∧ ∀ n ∈ zs, (Lit.int k n).wf = true
theorem bytes_none (w : World) (n₀ : Nat) : Bytes w n₀ none [] := ⟨by simp, fun h => absurd h (by simp)⟩
theorem IsRow.bytes {w : World} {a : Option Addr} {len cap : Nat} {zs : List Int} (h : IsRow .u8 w a len cap zs) : ∃ bs : List UInt8, bs.length = len ∧ Bytes w w.heap.size a bs ∧ len ≤ cap := by
  rcases h with ⟨rfl, rfl, rfl, rfl⟩ | ⟨x, rfl, hl, hm, hz, hc, hw⟩
  · exact ⟨[], rfl, bytes_none _ _, Nat.le_refl _⟩
  · have hlen : ((zs.take len).map fun z => UInt8.ofNat z.toNat).length = len := by rw [List.length_map, List.length_take, hz]; exact Nat.min_eq_left hl
    refine ⟨(zs.take len).map fun z => UInt8.ofNat z.toNat, hlen, ⟨?_, fun hp => ?_⟩, hl⟩
    · show _ ≤ _
      rw [hlen]; unfold maxLen at hm; exact Nat.le_trans hl hm
    · rw [hlen] at hp
      have h0 := hc 0 (by omega)
      have hadd0 : x.add 0 = x := by simp [Addr.add]
      rw [hadd0] at h0
      obtain ⟨b, off, sp⟩ := x
      obtain rfl : sp = none := congrArg Addr.spot (spot_none h0)
      refine ⟨b, off, rfl, World.block_lt_of_cell? w _ h0, fun j hj => ?_⟩
      rw [hlen] at hj
      have h1 := hc j (by omega)
      have hadd : (⟨b, off, none⟩ : Addr).add j = ⟨b, off + j, none⟩ := by
        unfold Addr.add
        by_cases hj0 : j = 0
        · rw [if_pos hj0, hj0]; rfl
        · rw [if_neg hj0]
      rw [hadd] at h1
      rw [h1]
      have hjz : j < zs.length := by omega
      have hb := bounds_u8 (hw zs[j] (List.getElem_mem hjz))
      have e : zs.getD j 0 = zs[j] := by simp [hjz]
      rw [e]
      simp only [List.getElem_map, List.getElem_take]
      congr 2
      rw [UInt8.toNat_ofNat']
      omega
set_option maxRecDepth 20000 in
set_option maxHeartbeats 1000000 in
theorem reffour_long (b off n cap : Nat) (f : Nat → Nat) (hf : ∀ x, f x < 256) (h4 : 4 ≤ n) (hmax : n ≤ 9223372036854775807) (w : World) (hc : ∀ j, j < 4 → w.cell? ⟨b, off + j, none⟩ = some (.int .u8 (f j : Int))) : Calls Try.prog 12 #[.slice (some ⟨b, off, none⟩) n cap] w fun e w' => e = .returned (tup2 (fourN f, 0)) ∧ w = w' := by
  have d1 : decide ((n : Int) < 4) = false := by simp; omega
  go_enter Try.func12, Try.ntmps12
  go_wp2
  go_loop [4, 5] (fun v i => ∃ k : Nat, k ≤ 4 ∧ i = .int .i64 ((k : Int) - 1) ∧ v = .int .u32 ((acc f (down k) : Nat) : Int)) (fun _ i => (intOf i + 1).toNat)
  case atStart => exact ⟨4, by omega, rfl, rfl⟩
  case round =>
    obtain ⟨k, hk, rfl, rfl⟩ := hrel
    have h5 : k = 0 ∨ k = 1 ∨ k = 2 ∨ k = 3 ∨ k = 4 := by omega
    rcases h5 with rfl | rfl | rfl | rfl | rfl
    · rw [acc_down]
      go_wp2
      go_ret2
      exact ⟨rfl, rfl⟩
    · have hx := hc 0 (by omega)
      rw [Nat.add_zero] at hx
      have hlt := acc_small hf (pre := down 1) (by decide)
      have hs := acc_snoc f (down 1) 0
      have hdn : down 1 ++ [0] = down 0 := by decide
      rw [hdn] at hs
      have hfx := hf 0
      generalize acc f (down 1) = p at hlt hs
      have HS := Lib.hid hs
      have HC := Lib.hid hc
      clear hs hc hdn
      generalize f 0 = c at *
      go_wp2
      go_round
      case rel => exact ⟨0, by omega, by simp, by rw [HS.out]; rfl⟩
      case measure => simp [intOf]
    · have hx := hc 1 (by omega)
      skip
      have hlt := acc_small hf (pre := down 2) (by decide)
      have hs := acc_snoc f (down 2) 1
      have hdn : down 2 ++ [1] = down 1 := by decide
      rw [hdn] at hs
      have hfx := hf 1
      generalize acc f (down 2) = p at hlt hs
      have HS := Lib.hid hs
      have HC := Lib.hid hc
      clear hs hc hdn
      generalize f 1 = c at *
      go_wp2
      go_round
      case rel => exact ⟨1, by omega, by simp, by rw [HS.out]; rfl⟩
      case measure => simp [intOf]
    · have hx := hc 2 (by omega)
      skip
      have hlt := acc_small hf (pre := down 3) (by decide)
      have hs := acc_snoc f (down 3) 2
      have hdn : down 3 ++ [2] = down 2 := by decide
      rw [hdn] at hs
      have hfx := hf 2
      generalize acc f (down 3) = p at hlt hs
      have HS := Lib.hid hs
      have HC := Lib.hid hc
      clear hs hc hdn
      generalize f 2 = c at *
      go_wp2
      go_round
      case rel => exact ⟨2, by omega, by simp, by rw [HS.out]; rfl⟩
      case measure => simp [intOf]
    · have hx := hc 3 (by omega)
      skip
      have hlt := acc_small hf (pre := down 4) (by decide)
      have hs := acc_snoc f (down 4) 3
      have hdn : down 4 ++ [3] = down 3 := by decide
      rw [hdn] at hs
      have hfx := hf 3
      generalize acc f (down 4) = p at hlt hs
      have HS := Lib.hid hs
      have HC := Lib.hid hc
      clear hs hc hdn
      generalize f 3 = c at *
      go_wp2
      go_round
      case rel => exact ⟨3, by omega, by simp, by rw [HS.out]; rfl⟩
      case measure => simp [intOf]
theorem reffour_any (A : Option Addr) (n cap : Nat) (bs : List UInt8) (hn : n = bs.length) (w : World) (hI : Bytes w w.heap.size A bs) : Calls Try.prog 12 #[.slice A n cap] w fun e w' => e = .returned (tup2 (four bs)) ∧ w = w' := by
  unfold four
  by_cases h : bs.length < 4
  · rw [if_pos h]
    have d1 : decide ((n : Int) < 4) = true := by simp; omega
    clear hn h
    go_enter Try.func12, Try.ntmps12
    go_wp2
    go_ret2
    exact ⟨rfl, rfl⟩
  · rw [if_neg h]
    obtain ⟨b, off, rfl, hb, hc⟩ := hI.2 (by omega)
    have hmax := hI.1
    exact reffour_long b off n cap (fun i => (bs.getD i 0).toNat) (fun x => (bs.getD x 0).toNat_lt) (by omega) (by omega) w (fun j hj => by
      rw [hc j (by omega)]
      simp [List.getD, List.getElem?_eq_getElem (show j < bs.length by omega)])
end Go.Proofs.Ytmfmampcgadjhaa
