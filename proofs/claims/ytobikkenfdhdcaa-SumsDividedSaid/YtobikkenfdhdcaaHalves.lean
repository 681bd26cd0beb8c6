/- The program's sum of bytes (sums.On, sums.Of): its answer is the division's remainder. -/
import Derived.RangeFuncBox
import Derived.RangeFuncLeaves
import Derived.RangeFuncNested
import Derived.Shelf.Abstract
import Derived.WalkKit
import Derived.OwnWalkIn
import Derived.TacticsInMore
import Derived.LoopNIn
import Derived.LoopIn
import Derived.Outline
import Derived.Lib.Hide
import Derived.Test.YtobikkenfdhdcaaMade
import Derived.Test.YtobikkenfdhdcaaWWords
namespace Go.Proofs.Ytobikkenfdhdcaa
open Go.RowKit Go.Shelf Go.Proofs.YtobikkenfdhdcaaW.PrintWords
attribute [local go_sem] Oper.semAt_some
/-- bytes as Go's numbers; as the division's. -/
def ints (bs : List UInt8) : List Int := bs.map fun b => (b.toNat : Int)
def nats (bs : List UInt8) : List Nat := bs.map fun b => b.toNat
theorem ints_length (bs : List UInt8) : (ints bs).length = bs.length := by simp [ints]
/-- the halves of a byte, the lower one first. -/
def halves2 (b : UInt8) : List (Fin 16) := [⟨b.toNat % 16, by omega⟩, ⟨b.toNat / 16, by have := b.toNat_lt; omega⟩]
def nibs (bs : List UInt8) : List (Fin 16) := bs.flatMap halves2
theorem nibs_succ (bs : List UInt8) (k : Nat) (hk : k < bs.length) : nibs (bs.take (k + 1)) = nibs (bs.take k) ++ halves2 bs[k] := by
  rw [List.take_succ_eq_append_getElem hk, nibs, List.flatMap_append]; simp [nibs]
theorem nibs_length (bs : List UInt8) : (nibs bs).length = 2 * bs.length := by
  induction bs with
  | nil => rfl
  | cons b bs ih => simp only [nibs, List.flatMap_cons, List.length_append] at ih ⊢; rw [ih]; simp [halves2]; omega
theorem nibs_take (bs : List UInt8) (k : Nat) : nibs (bs.take k) <+: nibs bs := by
  have h : nibs bs = nibs (bs.take k) ++ nibs (bs.drop k) := by
    unfold nibs; rw [← List.flatMap_append, List.take_append_drop]
  rw [h]; exact List.prefix_append _ _
theorem nibs_pre (bs : List UInt8) (k : Nat) (_h : k < bs.length) (pre r : List (Fin 16)) (e : nibs (bs.take (k + 1)) = pre ++ r) : pre <+: nibs bs := by
  have h := nibs_take bs (k + 1)
  rw [e] at h
  exact (List.prefix_append pre r).trans h
abbrev encN (x : Fin 16) : Array Value := #[.int .u32 (x.val : Int)]
theorem lo_half (b : UInt8) : bits .and .u32 ((b.toNat : Nat) : Int) 15 = ((b.toNat % 16 : Nat) : Int) := by
  have hb := b.toNat_lt
  have h := u32_and_nat b.toNat 15 (by omega) (by decide)
  rw [nat_mask4] at h; exact h
set_option maxRecDepth 100000 in
set_option maxHeartbeats 2000000 in
theorem halves1_in (F : Fence) (n : Nat) (h20 : F.fn 20) (hro : F.round = none) (hn : 1 ≤ n) (l Bs n₀ b off cap : Nat) (bs : List UInt8) (hreach : bs.length ≤ 9223372036854775807) (hb : b < n₀) (J Jx : List (Fin 16) → World → Prop)
    (hY : ∀ pre x W, J pre W → pre.length < 2 * bs.length → YieldAt F (n - 1) Try.prog l (encN x) W fun e W' =>
      (e = .returned (.bool true) ∧ J (pre ++ [x]) W' ∧ Below n₀ W W') ∨ (e = .returned (.bool false) ∧ Jx (pre ++ [x]) W'))
    (W : World) (hBs : W.cell? ⟨Bs, 0, none⟩ = some (.slice (some ⟨b, off, none⟩) bs.length cap)) (hc : ∀ j, (hj : j < bs.length) → W.cell? ⟨b, off + j, none⟩ = some (.int .u8 ((bs[j].toNat : Nat) : Int))) (h0 : J [] W) :
    CallsIn F n Try.prog 20 #[.func (.yield l) #[] #[], .pointer (some ⟨Bs, 0, none⟩)] W fun e W' => (∃ v, e = .returned v) ∧
      ((∃ ys, ys = nibs bs ∧ J ys W') ∨ (∃ pre, pre <+: nibs bs ∧ Jx pre W')) := by
  refine callsIn_of_wp Try.func20 rfl h20 ?_ hro
  simp only [Try.ntmps20, List.size_toArray, List.length_cons, List.length_nil, Nat.reduceAdd, Nat.reduceSub, Array.replicate_succ, Array.replicate_zero, List.push_toArray, List.append_toArray, List.nil_append, List.cons_append]
  gi_wp2
  gi_loopw [7] (fun i wr => ∃ k : Nat, k ≤ bs.length ∧ i = .int .i64 k ∧ J (nibs (bs.take k)) wr ∧ Below n₀ W wr)
    (fun i _ => bs.length - (intOf i).toNat)
  case atStart => exact ⟨0, Nat.zero_le _, rfl, h0, Below.refl _ _⟩
  case round =>
    obtain ⟨k, hk, rfl, hJs, hnx⟩ := hrel
    by_cases hlt : k < bs.length
    · have hcx : wr.cell? ⟨b, off + k, none⟩ = some (.int .u8 ((bs[k].toNat : Nat) : Int)) := (hnx.cell (p := ⟨b, off + k, none⟩) hb).trans (hc k hlt)
      have hlen : (nibs (bs.take k)).length = 2 * k := by rw [nibs_length, List.length_take]; omega
      have hu := bs[k].toNat_lt
      have hsucc := nibs_succ bs k hlt
      obtain ⟨lo, hi, hlh, elo, ehi⟩ : ∃ lo hi : Fin 16, halves2 bs[k] = [lo, hi] ∧ ((lo.val : Nat) : Int) = (bs[k].toNat : Int) % 16 ∧ ((hi.val : Nat) : Int) = (bs[k].toNat : Int) / 16 := ⟨_, _, rfl, by simp, by simp⟩
      rw [hlh] at hsucc
      obtain ⟨fn, tmps, assign, body, hy, hR⟩ := hY _ lo wr hJs (by omega)
      have hlo := lo_half bs[k]
      rw [Int.natCast_emod] at hlo
      rw [encN, elo] at hy
      clear hlh elo
      generalize bs[k].toNat = c at hcx hlo hu hy ehi
      have HL := Lib.hid hlen
      have HS := Lib.hid hsucc
      have HE := Lib.hid ehi
      clear hlen hsucc ehi
      gi_wp2
      refine hR.mono ?_
      rintro e W3 (⟨rfl, hJ3, hk3⟩ | ⟨rfl, hJx3⟩)
      · obtain ⟨fn2, tmps2, assign2, body2, hy2, hR2⟩ := hY _ hi W3 hJ3 (by rw [List.length_append, HL.out]; simp; omega)
        rw [encN, HE.out] at hy2
        gi_wp2
        refine hR2.mono ?_
        rintro e W4 (⟨rfl, hJ4, hk4⟩ | ⟨rfl, hJx4⟩)
        · gi_wp2
          go_roundw
          case rel => exact ⟨k + 1, by omega, by simp, by rw [HS.out]; simpa using hJ4, hnx.trans (hk3.trans hk4)⟩
          case measure => simp [intOf]; omega
        · gi_wp2
          refine bodyPost_ret (results_none rfl _ _ _) rfl ?_
          exact ⟨⟨_, rfl⟩, .inr ⟨_, nibs_pre bs k hlt _ [] (by rw [HS.out]; simp), hJx4⟩⟩
      · gi_wp2
        all_goals
          refine ⟨fun _ h => (by cases h), ?_⟩
          gi_wp2
          refine bodyPost_ret (results_none rfl _ _ _) rfl ?_
          exact ⟨⟨_, rfl⟩, .inr ⟨_, nibs_pre bs k hlt _ [hi] (by rw [HS.out]; simp), hJx3⟩⟩
    · obtain rfl : k = bs.length := by omega
      gi_wp2
      go_end0
      exact ⟨⟨_, rfl⟩, .inl ⟨_, rfl, by simpa using hJs⟩⟩

set_option maxRecDepth 100000 in
set_option maxHeartbeats 1000000 in
theorem halves1_none_in (F : Fence) (n : Nat) (h20 : F.fn 20) (hro : F.round = none) (l Bs c : Nat) (A : Option Addr) (J : List (Fin 16) → World → Prop) (W : World) (hBs : W.cell? ⟨Bs, 0, none⟩ = some (.slice A 0 c)) (h0 : J [] W) :
    CallsIn F n Try.prog 20 #[.func (.yield l) #[] #[], .pointer (some ⟨Bs, 0, none⟩)] W fun e W' => (∃ v, e = .returned v) ∧ J [] W' := by
  refine callsIn_of_wp Try.func20 rfl h20 ?_ hro
  simp only [Try.ntmps20, List.size_toArray, List.length_cons, List.length_nil, Nat.reduceAdd, Nat.reduceSub, Array.replicate_succ, Array.replicate_zero, List.push_toArray, List.append_toArray, List.nil_append, List.cons_append]
  gi_wp2
  gi_loopw [7] (fun i wr => i = .int .i64 0 ∧ J [] wr) (fun _ _ => 0)
  case atStart => exact ⟨rfl, h0⟩
  case round =>
    obtain ⟨rfl, hJs⟩ := hrel
    gi_wp2
    go_end0
    exact ⟨⟨_, rfl⟩, hJs⟩
set_option maxHeartbeats 1000000 in
/-- halves: the slice is boxed; the function value captures the box. -/
theorem halves_any (A : Option Addr) (len cap : Nat) (w : World) :
    Calls Try.prog 18 #[.slice A len cap] w fun e w' => e = .returned (.func (.func 20) #[] #[.pointer (some ⟨w.heap.size, 0, none⟩)]) ∧ w' = w.alloc (.cells #[.slice A len cap] 22) := by
  go_enter Try.func18, Try.ntmps18
  go_wp2
  go_ret
  exact ⟨rfl, rfl⟩
/-- a slice of bytes that can be read. -/
def Bytes (w : World) (n₀ : Nat) (A : Option Addr) (bs : List UInt8) : Prop :=
  bs.length ≤ 9223372036854775807 ∧ (0 < bs.length → ∃ b off, A = some ⟨b, off, none⟩ ∧ b < n₀ ∧ ∀ j, (hj : j < bs.length) → w.cell? ⟨b, off + j, none⟩ = some (.int .u8 ((bs[j].toNat : Nat) : Int)))
theorem Bytes.below {w w' : World} {n₀ : Nat} {A : Option Addr} {bs : List UInt8} (h : Bytes w n₀ A bs) (hb : Below n₀ w w') : Bytes w' n₀ A bs :=
  ⟨h.1, fun hn => by
    obtain ⟨b, off, e, hlt, hc⟩ := h.2 hn
    exact ⟨b, off, e, hlt, fun j hj => (hb.cell (p := ⟨b, off + j, none⟩) hlt).trans (hc j hj)⟩⟩
theorem halves_stops (F : Fence) (n : Nat) (h20 : F.fn 20) (hro : F.round = none) (hn : 1 ≤ n) (Bs n₀ : Nat) (A : Option Addr) (cap : Nat) (bs : List UInt8) (w : World) (hBs : Bs < w.heap.size) (hn₀ : n₀ ≤ w.heap.size)
    (hc : w.cell? ⟨Bs, 0, none⟩ = some (.slice A bs.length cap)) (hI : Bytes w n₀ A bs) :
    SeqStopsK F n Try.prog 20 #[.pointer (some ⟨Bs, 0, none⟩)] encN (Below n₀) (fun ys => ys = nibs bs) (fun pre => pre <+: nibs bs) (2 * bs.length) w := fun l J Jx W hW _ _ hY h0 => by
  have hc' := (hW.cell (p := ⟨Bs, 0, none⟩) hBs).trans hc
  have hI' := hI.below (hW.mono hn₀)
  by_cases hz : 0 < bs.length
  · obtain ⟨b, off, rfl, hb, hcs⟩ := hI'.2 hz
    exact halves1_in F n h20 hro hn l Bs n₀ b off cap bs hI.1 hb J Jx hY W hc' hcs h0
  · obtain rfl : bs = [] := List.eq_nil_of_length_eq_zero (by omega)
    exact (halves1_none_in F n h20 hro l Bs cap A J W hc' h0).mono fun e W' ⟨he, hj⟩ => ⟨he, .inl ⟨_, rfl, hj⟩⟩
end Go.Proofs.Ytobikkenfdhdcaa
