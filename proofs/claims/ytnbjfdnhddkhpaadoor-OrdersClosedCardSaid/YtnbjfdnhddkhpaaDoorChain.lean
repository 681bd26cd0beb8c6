/- Chains of pairs, and the rows that tell who leads to whom: plain. -/
import Derived.Test.YtnbjfdnhddkhpaaDoorByt
namespace Go.Proofs.YtnbjfdnhddkhpaaDoor
/-- j is reached from i along pairs. -/
inductive Rch (ps : List (Int × Int)) : Nat → Nat → Prop
  | refl (i : Nat) : Rch ps i i
  | step {i j k : Nat} : Rch ps i j → ((j : Int), (k : Int)) ∈ ps → Rch ps i k
theorem Rch.trans {ps : List (Int × Int)} {i j k : Nat} (h : Rch ps i j) (h2 : Rch ps j k) : Rch ps i k := by
  induction h2 with
  | refl => exact h
  | step _ hm ih => exact .step ih hm
theorem Rch.one {ps : List (Int × Int)} {i j : Nat} (h : ((i : Int), (j : Int)) ∈ ps) : Rch ps i j := .step (.refl i) h
theorem Rch.least {ps : List (Int × Int)} {R : Nat → Nat → Prop} {i j : Nat} (hr : R i i) (hs : ∀ a b : Nat, R i a → ((a : Int), (b : Int)) ∈ ps → R i b) (h : Rch ps i j) : R i j := by
  induction h with
  | refl => exact hr
  | step _ hm ih => exact hs _ _ ih hm
theorem Rch.mono {ps qs : List (Int × Int)} {i j : Nat} (h : Rch ps i j) (hs : ∀ p ∈ ps, p ∈ qs) : Rch qs i j := by
  induction h with
  | refl => exact .refl _
  | step _ hm ih => exact .step ih (hs _ hm)
/-- all pairs lie below n. -/
def InR (n : Nat) (ps : List (Int × Int)) : Prop := ∀ p ∈ ps, (0 ≤ p.1 ∧ p.1 < n) ∧ (0 ≤ p.2 ∧ p.2 < n)
theorem Rch.lt {n : Nat} {ps : List (Int × Int)} (hp : InR n ps) {i j : Nat} (hi : i < n) (h : Rch ps i j) : j < n := by
  induction h with
  | refl => exact hi
  | step _ hm ih => have := (hp _ hm).2.2; simp at this; omega
/-- two that lead to each other are one. -/
def Anti (n : Nat) (ps : List (Int × Int)) : Prop := ∀ i j, i < n → j < n → Rch ps i j → Rch ps j i → i = j
/-- the rows tell who is reached. -/
structure Cl (n : Nat) (ps : List (Int × Int)) (rows : List Nat) : Prop where
  len : rows.length = n
  lt : ∀ x ∈ rows, x < 18446744073709551616
  bit : ∀ i j, i < n → ((rows.getD i 0).testBit j = true ↔ Rch ps i j)
theorem Cl.uniq {n : Nat} {ps : List (Int × Int)} {a b : List Nat} (ha : Cl n ps a) (hb : Cl n ps b) : a = b := by
  apply List.ext_getElem (by rw [ha.len, hb.len])
  intro i h1 h2
  apply Nat.eq_of_testBit_eq
  intro j
  have e1 := ha.bit i j (by rw [← ha.len]; exact h1)
  have e2 := hb.bit i j (by rw [← ha.len]; exact h1)
  simp [List.getD, h1] at e1
  simp [List.getD, h2] at e2
  rw [Bool.eq_iff_iff, e1, e2]
/-- what the rows under way are: in them, all is reached. -/
def Sound (n : Nat) (ps : List (Int × Int)) (f : Nat → Nat) : Prop := ∀ i j, i < n → (f i).testBit j = true → Rch ps i j
def Base (n : Nat) (ps : List (Int × Int)) (f : Nat → Nat) : Prop := (∀ i, i < n → (f i).testBit i = true) ∧ ∀ i j : Nat, ((i : Int), (j : Int)) ∈ ps → i < n → (f i).testBit j = true
/-- row i has what its own have. -/
def ShutAt (n : Nat) (f : Nat → Nat) (i : Nat) : Prop := ∀ j, j < n → (f i).testBit j = true → ∀ k, (f j).testBit k = true → (f i).testBit k = true
theorem shut_all {n : Nat} {ps : List (Int × Int)} {f : Nat → Nat} (hp : InR n ps) (hb : Base n ps f) (hs : Sound n ps f) (hc : ∀ i, i < n → ShutAt n f i) : ∀ i j, i < n → ((f i).testBit j = true ↔ Rch ps i j) := by
  intro i j hi
  constructor
  · exact hs i j hi
  · intro h
    refine Rch.least (R := fun i j => (f i).testBit j = true) (hb.1 i hi) ?_ h
    intro a b ha hab
    have han : a < n := (hs i a hi ha).lt hp hi
    exact hc i hi a han ha b (hb.2 a b hab han)
/-- how much is still wanting. -/
def want (f : Nat → Nat) : Nat → Nat
  | 0 => 0
  | n + 1 => want f n + (18446744073709551616 - f n)
theorem want_congr {f g : Nat → Nat} {n : Nat} (h : ∀ i, i < n → f i = g i) : want f n = want g n := by
  induction n with
  | zero => rfl
  | succ n ih => rw [want, want, ih (fun i hi => h i (by omega)), h n (by omega)]
theorem want_less {f g : Nat → Nat} {n i : Nat} (hi : i < n) (h : ∀ j, j < n → f j ≤ g j) (hlt : f i < g i) (hb : g i < 18446744073709551616) : want g n < want f n := by
  induction n with
  | zero => omega
  | succ n ih =>
    rw [want, want]
    by_cases e : i = n
    · subst e
      have : want g i ≤ want f i := by
        clear ih
        have hh : ∀ m, m ≤ i → want g m ≤ want f m := by
          intro m
          induction m with
          | zero => intro _; exact Nat.le_refl _
          | succ m ihm =>
            intro hm
            rw [want, want]
            have := ihm (by omega)
            have := h m (by omega)
            omega
        exact hh i (Nat.le_refl _)
      omega
    · have := ih (by omega) (fun j hj => h j (by omega))
      have := h n (by omega)
      omega
theorem or_gt {a b : Nat} (h : a ||| b ≠ a) : a < a ||| b := by
  have := Nat.left_le_or (n := a) (m := b)
  omega
end Go.Proofs.YtnbjfdnhddkhpaaDoor
