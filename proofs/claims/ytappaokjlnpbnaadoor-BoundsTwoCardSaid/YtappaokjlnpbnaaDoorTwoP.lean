/- The join of two lists of values that hold holds, and their meet (the plain law). -/
import Derived.Test.YtappaokjlnpbnaaDoorSol
namespace Go.Proofs.YtappaokjlnpbnaaDoor
open Go.RowKit
set_option linter.unusedVariables false
theorem val_var (N : Nat) (f : Nat → Nat) (n : Nat) : valF (lst N f) true n = if n < N then (f n, true) else (0, false) := by
  unfold valF
  rw [if_neg (by simp), lst_length]
  by_cases h : n < N
  · rw [if_pos h, if_pos h]
    simp [lst, List.getD, h]
  · rw [if_neg h, if_neg h]
theorem val_con (xs : List Nat) (n : Nat) : valF xs false n = (n, true) := if_pos rfl
/-- a bound that holds, told of terms. -/
theorem one_iff {S : SI} {N : Nat} {f : Nat → Nat} {b : Rea.Bd} : oneH S (lst N f) b = true ↔ ((b.av = true → b.an < N) ∧ (b.bv = true → b.bn < N)) ∧ S.below (tv f b.av b.an) (tv f b.bv b.bn) = true := by
  obtain ⟨av, an, bv, bn⟩ := b
  unfold oneH
  simp only
  cases av <;> cases bv <;> simp only [val_var, val_con, tv_true, tv_false] <;> (try by_cases h1 : an < N) <;> (try by_cases h2 : bn < N) <;> simp [*]
theorem holds_iff {S : SI} {N : Nat} {f : Nat → Nat} {L : List Rea.Bd} : holdF S (lst N f) L = true ↔ ∀ b ∈ L, ((b.av = true → b.an < N) ∧ (b.bv = true → b.bn < N)) ∧ S.below (tv f b.av b.an) (tv f b.bv b.bn) = true := by
  unfold holdF
  rw [List.all_eq_true]
  exact ⟨fun h b hb => one_iff.1 (h b hb), fun h b hb => one_iff.2 (h b hb)⟩
theorem two_join {S : SI} (hFN : Full S ∨ None S) {N : Nat} {f g : Nat → Nat} {L : List Rea.Bd} (hf : ∀ i, i < N → S.has (f i) = true) (hg : ∀ i, i < N → S.has (g i) = true) (h1 : holdF S (lst N f) L = true) (h2 : holdF S (lst N g) L = true) :
    holdF S (lst N fun i => S.join (f i) (g i)) L = true ∧ holdF S (lst N fun i => S.meet (f i) (g i)) L = true := by
  rw [holds_iff] at h1 h2 ⊢
  rw [holds_iff]
  rcases hFN with hF | hF
  · refine ⟨fun b hb => ⟨(h1 b hb).1, ?_⟩, fun b hb => ⟨(h1 b hb).1, ?_⟩⟩
    · obtain ⟨⟨c1, c2⟩, k1⟩ := h1 b hb
      obtain ⟨_, k2⟩ := h2 b hb
      obtain ⟨av, an, bv, bn⟩ := b
      simp only at c1 c2 k1 k2 ⊢
      have up : ∀ x, S.below x (tv f bv bn) = true → S.below x (tv (fun i => S.join (f i) (g i)) bv bn) = true := by
        cases bv with
        | true => rw [tv_true, tv_true]; exact fun x hx => hF.trans _ _ _ hx (hF.join _ _ (hf _ (c2 rfl)) (hg _ (c2 rfl))).1
        | false => rw [tv_false, tv_false]; exact fun x hx => hx
      have up2 : ∀ x, S.below x (tv g bv bn) = true → S.below x (tv (fun i => S.join (f i) (g i)) bv bn) = true := by
        cases bv with
        | true => rw [tv_true, tv_true]; exact fun x hx => hF.trans _ _ _ hx (hF.join _ _ (hf _ (c2 rfl)) (hg _ (c2 rfl))).2.1
        | false => rw [tv_false, tv_false]; exact fun x hx => hx
      cases av with
      | true =>
        rw [tv_true] at k1 k2 ⊢
        exact (hF.join _ _ (hf _ (c1 rfl)) (hg _ (c1 rfl))).2.2 _ (up _ k1) (up2 _ k2)
      | false =>
        rw [tv_false] at k1 k2 ⊢
        exact up _ k1
    · obtain ⟨⟨c1, c2⟩, k1⟩ := h1 b hb
      obtain ⟨_, k2⟩ := h2 b hb
      obtain ⟨av, an, bv, bn⟩ := b
      simp only at c1 c2 k1 k2 ⊢
      have up : ∀ x, S.below (tv f av an) x = true → S.below (tv (fun i => S.meet (f i) (g i)) av an) x = true := by
        cases av with
        | true => rw [tv_true, tv_true]; exact fun x hx => hF.trans _ _ _ (hF.meet _ _ (hf _ (c1 rfl)) (hg _ (c1 rfl))).1 hx
        | false => rw [tv_false, tv_false]; exact fun x hx => hx
      have up2 : ∀ x, S.below (tv g av an) x = true → S.below (tv (fun i => S.meet (f i) (g i)) av an) x = true := by
        cases av with
        | true => rw [tv_true, tv_true]; exact fun x hx => hF.trans _ _ _ (hF.meet _ _ (hf _ (c1 rfl)) (hg _ (c1 rfl))).2.1 hx
        | false => rw [tv_false, tv_false]; exact fun x hx => hx
      cases bv with
      | true =>
        rw [tv_true] at k1 k2 ⊢
        exact (hF.meet _ _ (hf _ (c2 rfl)) (hg _ (c2 rfl))).2.2 _ (up _ k1) (up2 _ k2)
      | false =>
        rw [tv_false] at k1 k2 ⊢
        exact up _ k1
  · refine ⟨fun b hb => ?_, fun b hb => ?_⟩ <;> (have := (h1 b hb).2; rw [hF.below] at this; cases this)
end Go.Proofs.YtappaokjlnpbnaaDoor
