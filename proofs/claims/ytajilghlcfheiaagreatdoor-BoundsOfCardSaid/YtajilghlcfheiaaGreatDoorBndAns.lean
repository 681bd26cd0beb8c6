/- What Solve answers, told of lists of numbers. -/
import Derived.Test.YtajilghlcfheiaaGreatDoorBndSameN
namespace Go.Proofs.YtajilghlcfheiaaGreatDoor.Bnd
set_option maxRecDepth 20000
open Go.RowKit Go.Proofs.YtajilghlcfheiaaGreatDoorW.PrintWords
/-- the lists and the error of an answer of Solve. -/
def Ans2 (S : SI) (vars : Int) (L : List Rea.Bd) (xs ys : List Nat) (e' : Nat) : Prop :=
  (e' ≠ 0 ∧ xs = [] ∧ ys = [] ∧ e' = (if chkF S vars L = 0 then 10 else chkF S vars L) ∧ (chkF S vars L = 0 → ¬ ∃ f, Sol S vars.toNat L f)) ∨
    (e' = 0 ∧ chkF S vars L = 0 ∧ ∃ f g, Low S vars.toNat L f ∧ High S vars.toNat L g ∧ xs = lst vars.toNat f ∧ ys = lst vars.toNat g)
theorem chk_vars {S : SI} {vars : Int} {L : List Rea.Bd} (h : chkF S vars L = 0) : 0 ≤ vars ∧ vars ≤ 64 ∧ L.length ≤ 256 ∧ ∀ b ∈ L, okB S vars.toNat b = true := by
  unfold chkF at h
  by_cases hx : vars < 0 ∨ 64 < vars ∨ 256 < L.length
  · rw [if_pos hx] at h
    cases h
  · rw [if_neg hx] at h
    by_cases ha : L.all (okB S vars.toNat) = true
    · exact ⟨by omega, by omega, by omega, fun b hb => List.all_eq_true.1 ha b hb⟩
    · rw [if_neg ha] at h
      cases h
theorem chk_zero {S : SI} {vars : Int} {L : List Rea.Bd} : chkF S vars L = 0 ↔ 0 ≤ vars ∧ vars ≤ 64 ∧ L.length ≤ 256 ∧ ∀ b ∈ L, okB S vars.toNat b = true := by
  refine ⟨chk_vars, fun ⟨h1, h2, h3, h4⟩ => ?_⟩
  unfold chkF
  rw [if_neg (by omega), if_pos (List.all_eq_true.2 h4)]
theorem chk_three {S : SI} {vars : Int} {L : List Rea.Bd} : chkF S vars L = 0 ∨ chkF S vars L = 1 ∨ chkF S vars L = 3 := by
  unfold chkF
  split
  · exact .inr (.inr rfl)
  · split
    · exact .inl rfl
    · exact .inr (.inl rfl)
theorem sol_lt {S : SI} (hFN : Full S ∨ None S) {N : Nat} {L : List Rea.Bd} {f : Nat → Nat} (h : Sol S N L f) (i : Nat) (hi : i < N) : f i < 18446744073709551616 := by
  rcases hFN with k | k
  · exact k.lt _ (h.1 i hi)
  · have := h.1 i hi
    rw [k.has] at this
    cases this
theorem nums_none (w : World) : Nums w none [] := ⟨by simp, by simp⟩
theorem solve_ans (v : Value) (S : SI) (hFN : Full S ∨ None S) (vars : Int) (A2 : Option Addr) (m c2 : Nat) (L : List Rea.Bd) (hm : m = L.length) (w : World) (hS : SortN w v S) (hL : Rea.Bds w A2 L) :
    Calls Tryz.prog 12 #[v, .int .i64 vars, .slice A2 m c2] w fun e w' => Below w.heap.size w w' ∧ ∃ A B ca xs ys e', e = .returned (.tuple #[.slice A ca ca, .slice B ca ca, .int .i64 ((e' : Nat) : Int)]) ∧ Ans2 S vars L xs ys e' ∧ ca = xs.length ∧ ca = ys.length ∧ ca ≤ 64 ∧ Nums w' A xs ∧ Nums w' B ys := by
  refine (solved_all v S hFN vars A2 m c2 L hm w hS hL).mono ?_
  rintro e w' ⟨hb, ⟨h1, rfl⟩ | ⟨h1, h2, rfl⟩ | ⟨h1, f, g, Bl, Bh, hf, hg, rfl, _, _, r1, r2⟩⟩
  · exact ⟨hb, none, none, 0, [], [], chkF S vars L, rfl, .inl ⟨h1, rfl, rfl, (if_neg h1).symm, fun h => absurd h h1⟩, rfl, rfl, by omega, nums_none _, nums_none _⟩
  · exact ⟨hb, none, none, 0, [], [], 10, rfl, .inl ⟨by decide, rfl, rfl, (if_pos h1).symm, fun _ => h2⟩, rfl, rfl, by omega, nums_none _, nums_none _⟩
  · obtain ⟨k1, k2, _, _⟩ := chk_vars h1
    exact ⟨hb, _, _, vars.toNat, lst vars.toNat f, lst vars.toNat g, 0, rfl, .inr ⟨rfl, h1, f, g, hf, hg, rfl, rfl⟩, (lst_length _ _).symm, (lst_length _ _).symm, by omega, RowN.nums r1 (sol_lt hFN hf.1), RowN.nums r2 (sol_lt hFN hg.1)⟩
theorem lst_congr {N : Nat} {f g : Nat → Nat} (h : ∀ i, i < N → f i = g i) : lst N f = lst N g := by
  unfold lst
  apply List.map_congr_left
  intro i hi
  exact h i (List.mem_range.1 hi)
theorem low_one {S : SI} (hFN : Full S ∨ None S) {N : Nat} {L M : List Rea.Bd} {f g : Nat → Nat} (hf : Low S N L f) (hg : Low S N M g) (h : ∀ k, Sol S N L k ↔ Sol S N M k) : lst N f = lst N g := by
  refine lst_congr fun i hi => ?_
  rcases hFN with hF | hF
  · exact hF.anti _ _ (hf.2 _ ((h g).2 hg.1) i hi) (hg.2 _ ((h f).1 hf.1) i hi)
  · have := hf.1.1 i hi
    rw [hF.has] at this
    cases this
theorem high_one {S : SI} (hFN : Full S ∨ None S) {N : Nat} {L M : List Rea.Bd} {f g : Nat → Nat} (hf : High S N L f) (hg : High S N M g) (h : ∀ k, Sol S N L k ↔ Sol S N M k) : lst N f = lst N g := by
  refine lst_congr fun i hi => ?_
  rcases hFN with hF | hF
  · exact hF.anti _ _ (hg.2 _ ((h f).1 hf.1) i hi) (hf.2 _ ((h g).2 hg.1) i hi)
  · have := hf.1.1 i hi
    rw [hF.has] at this
    cases this
/-- the same bounds, the same answer. -/
theorem ans_same {S : SI} (hFN : Full S ∨ None S) {vars : Int} {L M : List Rea.Bd} {xs ys xs' ys' : List Nat} {e e' : Nat} (h : Ans2 S vars L xs ys e) (h' : Ans2 S vars M xs' ys' e') (hc : chkF S vars L = chkF S vars M) (hs : ∀ k, Sol S vars.toNat L k ↔ Sol S vars.toNat M k) : e = e' ∧ xs = xs' ∧ ys = ys' := by
  rcases h with ⟨h1, rfl, rfl, h2, h3⟩ | ⟨rfl, h1, f, g, hf, hg, rfl, rfl⟩
  · rcases h' with ⟨k1, rfl, rfl, k2, k3⟩ | ⟨rfl, k1, f, g, hf, hg, rfl, rfl⟩
    · exact ⟨by rw [h2, k2, hc], rfl, rfl⟩
    · exact absurd ⟨f, (hs f).2 hf.1⟩ (h3 (hc.trans k1))
  · rcases h' with ⟨k1, rfl, rfl, k2, k3⟩ | ⟨rfl, k1, f', g', hf', hg', rfl, rfl⟩
    · exact absurd ⟨f, (hs f).1 hf.1⟩ (k3 (hc.symm.trans h1))
    · exact ⟨rfl, low_one hFN hf hf' hs, high_one hFN hg hg' hs⟩
theorem sol_mem {S : SI} {N : Nat} {L M : List Rea.Bd} (h : ∀ b, b ∈ L ↔ b ∈ M) (k : Nat → Nat) : Sol S N L k ↔ Sol S N M k :=
  ⟨fun ⟨h1, h2⟩ => ⟨h1, fun b hb => h2 b ((h b).2 hb)⟩, fun ⟨h1, h2⟩ => ⟨h1, fun b hb => h2 b ((h b).1 hb)⟩⟩
theorem chk_mem {S : SI} {vars : Int} {L M : List Rea.Bd} (h : ∀ b, b ∈ L ↔ b ∈ M) (hL : L.length ≤ 256) (hM : M.length ≤ 256) : chkF S vars L = chkF S vars M := by
  unfold chkF
  by_cases hx : vars < 0 ∨ 64 < vars
  · rw [if_pos (show vars < 0 ∨ 64 < vars ∨ 256 < L.length by omega), if_pos (show vars < 0 ∨ 64 < vars ∨ 256 < M.length by omega)]
  · rw [if_neg (show ¬ (vars < 0 ∨ 64 < vars ∨ 256 < L.length) by omega), if_neg (show ¬ (vars < 0 ∨ 64 < vars ∨ 256 < M.length) by omega)]
    have e : L.all (okB S vars.toNat) = M.all (okB S vars.toNat) := by
      rw [Bool.eq_iff_iff, List.all_eq_true, List.all_eq_true]
      exact ⟨fun k b hb => k b ((h b).2 hb), fun k b hb => k b ((h b).1 hb)⟩
    rw [e]
end Go.Proofs.YtajilghlcfheiaaGreatDoor.Bnd
