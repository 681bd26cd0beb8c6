/- slices.Backward over four bytes, and nums.GetFour. -/
import Derived.Test.YtmfmampcgadjhaaText
import Derived.RangeFuncBox
import Derived.RangeFuncLeaves
import Derived.RangeFuncNested
import Derived.Shelf.Abstract
import Derived.OwnWalkIn
import Derived.TacticsInMore
import Derived.LoopNIn
import Derived.LoopIn
import Derived.Shelf.RegionOpen
import Derived.BigRegionIn
import Derived.Laws.ResultCell
namespace Go.Proofs.Ytmfmampcgadjhaa
open Go.RowKit Go.Shelf Go.Proofs.YtmfmampcgadjhaaW.PrintWords
attribute [local go_sem] Oper.semAt_some
/-- What stands below, and one block more, stay. -/
def Kq (n₀ B : Nat) (w w' : World) : Prop := Below n₀ w w' ∧ w'.heap[B]? = w.heap[B]?
theorem Kq.refl (n₀ B : Nat) (w : World) : Kq n₀ B w w := ⟨Below.refl _ _, rfl⟩
theorem kq_t {n₀ B : Nat} {x y z : World} (h : Kq n₀ B x y) (k : Kq n₀ B y z) : Kq n₀ B x z := ⟨h.1.trans k.1, k.2.trans h.2⟩
theorem kq_b {n₀ B : Nat} {w : World} (hn : n₀ ≤ w.heap.size) (hB : B < w.heap.size) (W : World) (l : Nat) (o o' : Obj) (hl : w.heap.size ≤ l) (h : W.heap[l]? = some o) (h1 : o.isCells = false) (h2 : o.isWalk = false) : Kq n₀ B W (W.putObj l o') :=
  ⟨belowK_b hn W l o o' hl h h1 h2, (grownBy_putObj' W l o').block B (by have := (Array.getElem?_eq_some_iff.1 h).1; omega) (by simp; omega)⟩
/-- The places from the last one down to k. -/
def down (k : Nat) : List Nat := ((List.range 4).drop k).reverse
abbrev encB (f : Nat → Nat) (x : Nat) : Array Value := #[.int .i64 (x : Int), .int .u8 (f x : Int)]
theorem down_prefix (k : Nat) (hk : k ≤ 4) : down k <+: down 0 := by
  have h : k = 0 ∨ k = 1 ∨ k = 2 ∨ k = 3 ∨ k = 4 := by omega
  rcases h with rfl | rfl | rfl | rfl | rfl
  · exact List.prefix_refl _
  · exact ⟨[0], rfl⟩
  · exact ⟨[1, 0], rfl⟩
  · exact ⟨[2, 1, 0], rfl⟩
  · exact ⟨[3, 2, 1, 0], rfl⟩
set_option maxRecDepth 100000 in
set_option maxHeartbeats 2000000 in
theorem back_in (F : Fence) (n : Nat) (h23 : F.fn 23) (hro : F.round = none) (hn : 1 ≤ n) (l Bs n₀ b off cap : Nat) (f : Nat → Nat) (hb : b < n₀) (J Jx : List Nat → World → Prop)
    (hY : ∀ pre x W, J pre W → pre.length < 4 → YieldAt F (n - 1) Try.prog l (encB f x) W fun e W' =>
      (e = .returned (.bool true) ∧ J (pre ++ [x]) W' ∧ Kq n₀ Bs W W') ∨ (e = .returned (.bool false) ∧ Jx (pre ++ [x]) W'))
    (W : World) (hBs : W.cell? ⟨Bs, 0, none⟩ = some (.slice (some ⟨b, off, none⟩) 4 cap)) (hc : ∀ j, j < 4 → W.cell? ⟨b, off + j, none⟩ = some (.int .u8 (f j : Int))) (h0 : J [] W) :
    CallsIn F n Try.prog 23 #[.func (.yield l) #[] #[], .pointer (some ⟨Bs, 0, none⟩)] W fun e W' => (∃ v, e = .returned v) ∧
      ((∃ ys, ys = down 0 ∧ J ys W') ∨ (∃ pre, pre <+: down 0 ∧ Jx pre W')) := by
  refine callsIn_of_wp Try.func23 rfl h23 ?_ hro
  simp only [Try.ntmps23, List.size_toArray, List.length_cons, List.length_nil, Nat.reduceAdd, Nat.reduceSub, Array.replicate_succ, Array.replicate_zero, List.push_toArray, List.append_toArray, List.nil_append, List.cons_append]
  gi_wp2
  gi_loopw [3] (fun i wr => ∃ k : Nat, k ≤ 4 ∧ i = .int .i64 ((k : Int) - 1) ∧ J (down k) wr ∧ Kq n₀ Bs W wr)
    (fun i _ => (intOf i + 1).toNat)
  case atStart => exact ⟨4, by omega, rfl, h0, Kq.refl _ _ _⟩
  case round =>
    obtain ⟨k, hk, rfl, hJs, hkk⟩ := hrel
    have hBx : wr.cell? ⟨Bs, 0, none⟩ = some (.slice (some ⟨b, off, none⟩) 4 cap) := (World.cell?_of_block hkk.2).trans hBs
    have hcx : ∀ j, j < 4 → wr.cell? ⟨b, off + j, none⟩ = some (.int .u8 (f j : Int)) := fun j hj => (hkk.1.cell (p := ⟨b, off + j, none⟩) hb).trans (hc j hj)
    have h5 : k = 0 ∨ k = 1 ∨ k = 2 ∨ k = 3 ∨ k = 4 := by omega
    rcases h5 with rfl | rfl | rfl | rfl | rfl
    · gi_wp2
      go_end0
      exact ⟨⟨_, rfl⟩, .inl ⟨_, rfl, hJs⟩⟩
    · have hx := hcx 0 (by omega)
      rw [Nat.add_zero] at hx
      obtain ⟨fn, tmps, assign, body, hy, hR⟩ := hY _ 0 wr hJs (by decide)
      have HH := Lib.hid (And.intro hBs hc)
      clear hcx hBs hc
      simp only [encB] at hy
      rw [show ((0 : Nat) : Int) = 0 from rfl] at hy
      gi_wp2
      refine hR.mono ?_
      rintro e W3 (⟨rfl, hJ3, hk3⟩ | ⟨rfl, hJx3⟩)
      · gi_wp2
        go_roundw
        case rel => exact ⟨0, by omega, by simp, hJ3, kq_t hkk hk3⟩
        case measure => simp [intOf]
      · gi_wp2
        refine bodyPost_ret (results_none rfl _ _ _) rfl ?_
        exact ⟨⟨_, rfl⟩, .inr ⟨_, down_prefix 0 (by omega), hJx3⟩⟩
    · have hx := hcx 1 (by omega)
      skip
      obtain ⟨fn, tmps, assign, body, hy, hR⟩ := hY _ 1 wr hJs (by decide)
      have HH := Lib.hid (And.intro hBs hc)
      clear hcx hBs hc
      simp only [encB] at hy
      rw [show ((1 : Nat) : Int) = 1 from rfl] at hy
      gi_wp2
      refine hR.mono ?_
      rintro e W3 (⟨rfl, hJ3, hk3⟩ | ⟨rfl, hJx3⟩)
      · gi_wp2
        go_roundw
        case rel => exact ⟨1, by omega, by simp, hJ3, kq_t hkk hk3⟩
        case measure => simp [intOf]
      · gi_wp2
        refine bodyPost_ret (results_none rfl _ _ _) rfl ?_
        exact ⟨⟨_, rfl⟩, .inr ⟨_, down_prefix 1 (by omega), hJx3⟩⟩
    · have hx := hcx 2 (by omega)
      skip
      obtain ⟨fn, tmps, assign, body, hy, hR⟩ := hY _ 2 wr hJs (by decide)
      have HH := Lib.hid (And.intro hBs hc)
      clear hcx hBs hc
      simp only [encB] at hy
      rw [show ((2 : Nat) : Int) = 2 from rfl] at hy
      gi_wp2
      refine hR.mono ?_
      rintro e W3 (⟨rfl, hJ3, hk3⟩ | ⟨rfl, hJx3⟩)
      · gi_wp2
        go_roundw
        case rel => exact ⟨2, by omega, by simp, hJ3, kq_t hkk hk3⟩
        case measure => simp [intOf]
      · gi_wp2
        refine bodyPost_ret (results_none rfl _ _ _) rfl ?_
        exact ⟨⟨_, rfl⟩, .inr ⟨_, down_prefix 2 (by omega), hJx3⟩⟩
    · have hx := hcx 3 (by omega)
      skip
      obtain ⟨fn, tmps, assign, body, hy, hR⟩ := hY _ 3 wr hJs (by decide)
      have HH := Lib.hid (And.intro hBs hc)
      clear hcx hBs hc
      simp only [encB] at hy
      rw [show ((3 : Nat) : Int) = 3 from rfl] at hy
      gi_wp2
      refine hR.mono ?_
      rintro e W3 (⟨rfl, hJ3, hk3⟩ | ⟨rfl, hJx3⟩)
      · gi_wp2
        go_roundw
        case rel => exact ⟨3, by omega, by simp, hJ3, kq_t hkk hk3⟩
        case measure => simp [intOf]
      · gi_wp2
        refine bodyPost_ret (results_none rfl _ _ _) rfl ?_
        exact ⟨⟨_, rfl⟩, .inr ⟨_, down_prefix 3 (by omega), hJx3⟩⟩
end Go.Proofs.Ytmfmampcgadjhaa
