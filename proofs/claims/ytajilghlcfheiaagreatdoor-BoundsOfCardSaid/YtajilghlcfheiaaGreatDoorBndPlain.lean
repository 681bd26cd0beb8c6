/- The document's Check is the program's (plain). -/
import Derived.Test.YtajilghlcfheiaaGreatDoorBndRefC
namespace Go.Proofs.YtajilghlcfheiaaGreatDoor.Bnd
set_option maxRecDepth 20000
open Go.RowKit
theorem someAll_iff {P : Nat → Nat → Bool} {S : List Nat} : someAll P S = true ↔ ∃ x ∈ S, ∀ y ∈ S, P x y = true := by
  unfold someAll
  rw [List.any_eq_true]
  constructor
  · rintro ⟨i, hi, h⟩
    rw [List.mem_range] at hi
    rw [List.all_eq_true] at h
    refine ⟨S[i], List.getElem_mem hi, fun y hy => ?_⟩
    obtain ⟨j, hj, rfl⟩ := List.getElem_of_mem hy
    have := h j (List.mem_range.2 hj)
    simpa [List.getD, hi, hj] using this
  · rintro ⟨x, hx, h⟩
    obtain ⟨i, hi, rfl⟩ := List.getElem_of_mem hx
    refine ⟨i, List.mem_range.2 hi, ?_⟩
    rw [List.all_eq_true]
    intro j hj
    rw [List.mem_range] at hj
    have := h S[j] (List.getElem_mem hj)
    simpa [List.getD, hi, hj] using this
theorem and_self_iff (r s : Nat) : (r &&& s == s) = true ↔ ∀ k, s.testBit k = true → r.testBit k = true := by
  rw [beq_iff_eq]
  constructor
  · intro h k hk
    rw [← h, Nat.testBit_and, Bool.and_eq_true] at hk
    exact hk.1
  · intro h
    apply Nat.eq_of_testBit_eq
    intro k
    rw [Nat.testBit_and]
    cases hk : s.testBit k with
    | false => simp
    | true => rw [h k hk]; rfl
theorem oneB_iff {rows : List Nat} {s : Nat} : oneB rows s = true ↔ ∃ j, j < 64 ∧ s.testBit j = true ∧ ∀ k, s.testBit k = true → (rows.getD j 0).testBit k = true := by
  unfold oneB
  rw [List.any_eq_true]
  constructor
  · rintro ⟨j, hj, h⟩
    rw [Bool.and_eq_true, and_self_iff] at h
    exact ⟨j, List.mem_range.1 hj, h.1, h.2⟩
  · rintro ⟨j, hj, h1, h2⟩
    refine ⟨j, List.mem_range.2 hj, ?_⟩
    rw [Bool.and_eq_true, and_self_iff]
    exact ⟨h1, h2⟩
theorem upBits_bit (rows : List Nat) (j k : Nat) : ∀ n, (upBits rows j n).testBit k = (decide (k < n) && (rows.getD k 0).testBit j)
  | 0 => by simp [upBits]
  | n + 1 => by
    rw [upBits, Nat.testBit_or, upBits_bit rows j k n]
    by_cases hk : k = n
    · subst hk
      cases h : (rows.getD k 0).testBit j <;> simp
    · have e : (if (rows.getD n 0).testBit j = true then 2 ^ n else 0).testBit k = false := by
        split
        · rw [Nat.testBit_two_pow]
          simp
          omega
        · simp
      rw [e, Bool.or_false]
      congr 1
      rw [decide_eq_decide]
      omega
theorem diff_bit (o r k : Nat) (hr : r < 18446744073709551616) (hk : k < 64) : (diff o r).testBit k = (o.testBit k && !r.testBit k) := by
  unfold diff
  rw [Nat.testBit_and]
  congr 1
  have e : 18446744073709551615 - r = 2 ^ 64 - (r + 1) := by
    rw [show (2 : Nat) ^ 64 = 18446744073709551616 from rfl]
    omega
  rw [e, Nat.testBit_two_pow_sub_succ (by rw [show (2 : Nat) ^ 64 = 18446744073709551616 from rfl]; exact hr)]
  simp [hk]
theorem diff_le (o r : Nat) : diff o r < 18446744073709551616 := by
  unfold diff
  exact Nat.lt_of_le_of_lt Nat.and_le_right (by omega)
theorem diff_ne {o r : Nat} (hr : r < 18446744073709551616) : diff o r ≠ 0 ↔ ∃ k, k < 64 ∧ o.testBit k = true ∧ r.testBit k = false := by
  constructor
  · intro h
    obtain ⟨k, hk⟩ := Nat.exists_testBit_of_ne_zero h
    have h64 := high_bit (diff_le o r) hk
    rw [diff_bit o r k hr h64, Bool.and_eq_true] at hk
    exact ⟨k, h64, hk.1, by simpa using hk.2⟩
  · rintro ⟨k, h64, h1, h2⟩ h
    have := diff_bit o r k hr h64
    rw [h, h1, h2] at this
    simp at this
/-- The rows are numbers of n bits, n of them, 64 at most. -/
structure Fits (rows : List Nat) : Prop where
  pos : 0 < rows.length
  le : rows.length ≤ 64
  bit : ∀ i k, (rows.getD i 0).testBit k = true → k < rows.length
theorem Fits.at_ {rows : List Nat} (h : Fits rows) (i j : Nat) (hi : i < rows.length) : rowB rows i j = (rows.getD i 0).testBit j := by
  have := h.le
  by_cases hj : j < rows.length
  · unfold rowB
    simp [hi, hj]
    omega
  · rw [rowB_no (by omega)]
    cases hb : (rows.getD i 0).testBit j with
    | false => rfl
    | true => exact absurd (h.bit i j hb) hj
theorem rowB_lt {rows : List Nat} {i j : Nat} (h : rowB rows i j = true) : i < rows.length ∧ j < rows.length := by
  by_cases hh : i < rows.length ∧ i < 64 ∧ j < rows.length ∧ j < 64
  · exact ⟨hh.1, hh.2.2.1⟩
  · rw [rowB_no hh] at h
    cases h
theorem Fits.small {rows : List Nat} (h : Fits rows) (i : Nat) : rows.getD i 0 < 18446744073709551616 := by
  have h1 : rows.getD i 0 < 2 ^ rows.length := by
    apply Nat.lt_pow_two_of_testBit
    intro k hk
    cases hb : (rows.getD i 0).testBit k with
    | false => rfl
    | true => exact absurd (h.bit i k hb) (by omega)
  have h2 : 2 ^ rows.length ≤ 2 ^ 64 := Nat.pow_le_pow_right (by omega) h.le
  rw [show (2 : Nat) ^ 64 = 18446744073709551616 from rfl] at h2
  omega
/-- an order. -/
structure IsOrd (rows : List Nat) : Prop where
  refl : ∀ i, i < rows.length → rowB rows i i = true
  anti : ∀ i j, rowB rows i j = true → rowB rows j i = true → i = j
  trans : ∀ i j k, rowB rows i j = true → rowB rows j k = true → rowB rows i k = true
theorem ordB_iff {rows : List Nat} (h : Fits rows) : ordB rows = true ↔ IsOrd rows := by
  unfold ordB
  rw [List.all_eq_true]
  constructor
  · intro H
    have H' : ∀ i, i < rows.length → (rows.getD i 0).testBit i = true ∧ ∀ j, j < rows.length → bad rows i j = false := fun i hi => by
      have := H i (List.mem_range.2 hi)
      rw [Bool.and_eq_true, List.all_eq_true] at this
      exact ⟨this.1, fun j hj => by simpa using this.2 j (List.mem_range.2 hj)⟩
    have B : ∀ i j, i < rows.length → j < rows.length → j ≠ i → rowB rows i j = true → rowB rows j i = false ∧ ∀ k, k < 64 → (rows.getD j 0).testBit k = true → (rows.getD i 0).testBit k = true := fun i j hi hj hne hij => by
      have hb := (H' i hi).2 j hj
      rw [h.at_ i j hi] at hij
      unfold bad at hb
      rw [hij] at hb
      simp only [Bool.and_true, Bool.and_eq_false_iff, Bool.or_eq_false_iff] at hb
      have hb1 : (rows.getD j 0).testBit i = false ∧ (diff (rows.getD j 0) (rows.getD i 0) != 0) = false := by
        rcases hb with hb | hb
        · exfalso
          rw [bne_eq_false_iff_eq] at hb
          exact hne hb
        · exact hb
      refine ⟨by rw [h.at_ j i hj]; exact hb1.1, fun k hk hjk => ?_⟩
      cases hik : (rows.getD i 0).testBit k with
      | true => rfl
      | false =>
        have := (diff_ne (o := rows.getD j 0) (h.small i)).2 ⟨k, hk, hjk, hik⟩
        have h2 := hb1.2
        rw [bne_eq_false_iff_eq] at h2
        exact absurd h2 this
    refine ⟨fun i hi => by rw [h.at_ i i hi]; exact (H' i hi).1, fun i j hij hji => ?_, fun i j k hij hjk => ?_⟩
    · by_cases e : i = j
      · exact e
      · obtain ⟨l1, l2⟩ := rowB_lt hij
        have := (B i j l1 l2 (fun e' => e e'.symm) hij).1
        rw [hji] at this
        cases this
    · obtain ⟨l1, l2⟩ := rowB_lt hij
      obtain ⟨_, l3⟩ := rowB_lt hjk
      by_cases e : j = i
      · subst e
        exact hjk
      · have := (B i j l1 l2 e hij).2 k (by have := h.le; omega) (by rw [← h.at_ j k l2]; exact hjk)
        rw [h.at_ i k l1]
        exact this
  · intro H i hi
    rw [List.mem_range] at hi
    rw [Bool.and_eq_true, List.all_eq_true]
    refine ⟨by rw [← h.at_ i i hi]; exact H.refl i hi, fun j hj => ?_⟩
    rw [List.mem_range] at hj
    rw [Bool.not_eq_true']
    cases hb : bad rows i j with
    | false => rfl
    | true =>
      exfalso
      unfold bad at hb
      simp only [bne_iff_ne, ne_eq, Bool.and_eq_true, Bool.or_eq_true] at hb
      obtain ⟨⟨hne, hij⟩, hb⟩ := hb
      rw [← h.at_ i j hi] at hij
      rcases hb with hb | hb
      · rw [← h.at_ j i hj] at hb
        exact hne (H.anti i j hij hb).symm
      · obtain ⟨k, hk, h1, h2⟩ := (diff_ne (h.small i)).1 hb
        rw [← h.at_ j k hj] at h1
        have := H.trans i j k hij h1
        rw [h.at_ i k hi, h2] at this
        cases this
theorem iBad_iff {rows : List Nat} : ((List.range rows.length).any fun i => iBad rows i) = false ↔ IsOrd rows := by
  rw [List.any_eq_false]
  constructor
  · intro H
    have H' : ∀ i, i < rows.length → rowB rows i i = true ∧ ∀ j, j < rows.length → ((i ≠ j → rowB rows i j = true → rowB rows j i = false) ∧ ∀ k, k < rows.length → tri rows i j k = false) := fun i hi => by
      have := H i (List.mem_range.2 hi)
      unfold iBad at this
      rw [Bool.not_eq_true, Bool.or_eq_false_iff] at this
      refine ⟨by simpa using this.1, fun j hj => ?_⟩
      have h2 := List.any_eq_false.1 this.2 j (List.mem_range.2 hj)
      unfold jBad at h2
      rw [Bool.not_eq_true, Bool.or_eq_false_iff] at h2
      refine ⟨fun hne hij => ?_, fun k hk => ?_⟩
      · have h3 := h2.1
        rw [hij, Bool.and_true] at h3
        have e : (i != j) = true := by simpa using hne
        rw [e, Bool.true_and] at h3
        exact h3
      · have h3 := List.any_eq_false.1 h2.2 k (List.mem_range.2 hk)
        simpa using h3
    refine ⟨fun i hi => (H' i hi).1, fun i j hij hji => ?_, fun i j k hij hjk => ?_⟩
    · obtain ⟨l1, l2⟩ := rowB_lt hij
      by_cases e : i = j
      · exact e
      · have := ((H' i l1).2 j l2).1 e hij
        rw [hji] at this
        cases this
    · obtain ⟨l1, l2⟩ := rowB_lt hij
      obtain ⟨_, l3⟩ := rowB_lt hjk
      have := ((H' i l1).2 j l2).2 k l3
      unfold tri at this
      rw [hij, hjk] at this
      simpa using this
  · intro H i hi
    rw [List.mem_range] at hi
    rw [Bool.not_eq_true]
    unfold iBad
    rw [H.refl i hi, Bool.not_true, Bool.false_or, List.any_eq_false]
    intro j _
    rw [Bool.not_eq_true]
    unfold jBad
    rw [Bool.or_eq_false_iff]
    constructor
    · cases hb : ((i != j) && rowB rows i j && rowB rows j i) with
      | false => rfl
      | true =>
        exfalso
        simp only [bne_iff_ne, ne_eq, Bool.and_eq_true] at hb
        exact hb.1.1 (H.anti i j hb.1.2 hb.2)
    · rw [List.any_eq_false]
      intro k _
      rw [Bool.not_eq_true]
      unfold tri
      cases hij : rowB rows i j with
      | false => rfl
      | true =>
        cases hjk : rowB rows j k with
        | false => rfl
        | true => rw [H.trans i j k hij hjk]; rfl
/-- those two have a least one above both. -/
def HasUp (rows : List Nat) (i j : Nat) : Prop := ∃ c, rowB rows i c = true ∧ rowB rows j c = true ∧ ∀ d, rowB rows i d = true → rowB rows j d = true → rowB rows c d = true
def HasDn (rows : List Nat) (i j : Nat) : Prop := ∃ c, rowB rows c i = true ∧ rowB rows c j = true ∧ ∀ d, rowB rows d i = true → rowB rows d j = true → rowB rows d c = true
theorem mem_those {p : Nat → Bool} {n x : Nat} : x ∈ thoseTo p n ↔ x < n ∧ p x = true := by
  unfold thoseTo
  rw [List.mem_filter, List.mem_range]
theorem upB_iff {rows : List Nat} {i j : Nat} : upB rows i j = true ↔ HasUp rows i j := by
  unfold upB
  rw [someAll_iff]
  constructor
  · rintro ⟨c, hc, H⟩
    rw [mem_those, Bool.and_eq_true] at hc
    exact ⟨c, hc.2.1, hc.2.2, fun d h1 h2 => H d (mem_those.2 ⟨(rowB_lt h1).2, by rw [h1, h2]; rfl⟩)⟩
  · rintro ⟨c, h1, h2, H⟩
    refine ⟨c, mem_those.2 ⟨(rowB_lt h1).2, by rw [h1, h2]; rfl⟩, fun d hd => ?_⟩
    rw [mem_those, Bool.and_eq_true] at hd
    exact H d hd.2.1 hd.2.2
theorem dnB_iff {rows : List Nat} {i j : Nat} : dnB rows i j = true ↔ HasDn rows i j := by
  unfold dnB
  rw [someAll_iff]
  constructor
  · rintro ⟨c, hc, H⟩
    rw [mem_those, Bool.and_eq_true] at hc
    exact ⟨c, hc.2.1, hc.2.2, fun d h1 h2 => H d (mem_those.2 ⟨(rowB_lt h1).1, by rw [h1, h2]; rfl⟩)⟩
  · rintro ⟨c, h1, h2, H⟩
    refine ⟨c, mem_those.2 ⟨(rowB_lt h1).1, by rw [h1, h2]; rfl⟩, fun d hd => ?_⟩
    rw [mem_those, Bool.and_eq_true] at hd
    exact H d hd.2.1 hd.2.2
theorem one_up {rows : List Nat} (h : Fits rows) {i j : Nat} (hi : i < rows.length) (hj : j < rows.length) : oneB rows (rows.getD i 0 &&& rows.getD j 0) = true ↔ HasUp rows i j := by
  rw [oneB_iff]
  constructor
  · rintro ⟨c, _, hc, H⟩
    rw [Nat.testBit_and, Bool.and_eq_true] at hc
    have hcl := h.bit i c hc.1
    refine ⟨c, by rw [h.at_ i c hi]; exact hc.1, by rw [h.at_ j c hj]; exact hc.2, fun d h1 h2 => ?_⟩
    rw [h.at_ i d hi] at h1
    rw [h.at_ j d hj] at h2
    rw [h.at_ c d hcl]
    exact H d (by rw [Nat.testBit_and, h1, h2]; rfl)
  · rintro ⟨c, h1, h2, H⟩
    have hcl := (rowB_lt h1).2
    refine ⟨c, by have := h.le; omega, by rw [Nat.testBit_and, ← h.at_ i c hi, ← h.at_ j c hj, h1, h2]; rfl, fun k hk => ?_⟩
    rw [Nat.testBit_and, Bool.and_eq_true, ← h.at_ i k hi, ← h.at_ j k hj] at hk
    rw [← h.at_ c k hcl]
    exact H k hk.1 hk.2
theorem downs_bit {rows : List Nat} (h : Fits rows) {i : Nat} (hi : i < rows.length) (k : Nat) : ((downs rows).getD i 0).testBit k = rowB rows k i := by
  have e : (downs rows).getD i 0 = upBits rows i rows.length := by simp [downs, List.getD, hi]
  rw [e, upBits_bit]
  by_cases hk : k < rows.length
  · rw [h.at_ k i hk]
    simp [hk]
  · rw [rowB_no (by omega)]
    simp [hk]
theorem one_dn {rows : List Nat} (h : Fits rows) {i j : Nat} (hi : i < rows.length) (hj : j < rows.length) : oneB (downs rows) ((downs rows).getD i 0 &&& (downs rows).getD j 0) = true ↔ HasDn rows i j := by
  rw [oneB_iff]
  constructor
  · rintro ⟨c, _, hc, H⟩
    rw [Nat.testBit_and, Bool.and_eq_true, downs_bit h hi, downs_bit h hj] at hc
    have hcl := (rowB_lt hc.1).1
    refine ⟨c, hc.1, hc.2, fun d h1 h2 => ?_⟩
    have := H d (by rw [Nat.testBit_and, downs_bit h hi, downs_bit h hj, h1, h2]; rfl)
    rwa [downs_bit h hcl] at this
  · rintro ⟨c, h1, h2, H⟩
    have hcl := (rowB_lt h1).1
    refine ⟨c, by have := h.le; omega, by rw [Nat.testBit_and, downs_bit h hi, downs_bit h hj, h1, h2]; rfl, fun k hk => ?_⟩
    rw [Nat.testBit_and, Bool.and_eq_true, downs_bit h hi, downs_bit h hj] at hk
    rw [downs_bit h hcl]
    exact H k hk.1 hk.2
theorem pairs_iff {rows : List Nat} (h : Fits rows) {i j : Nat} (hi : i < rows.length) (hj : j < rows.length) : pairs rows i j = true ↔ HasUp rows i j ∧ HasDn rows i j := by
  unfold pairs
  rw [Bool.and_eq_true, one_up h hi hj, one_dn h hi hj]
theorem HasUp.symm {rows : List Nat} {i j : Nat} (h : HasUp rows i j) : HasUp rows j i := by
  obtain ⟨c, h1, h2, H⟩ := h
  exact ⟨c, h2, h1, fun d a b => H d b a⟩
theorem HasDn.symm {rows : List Nat} {i j : Nat} (h : HasDn rows i j) : HasDn rows j i := by
  obtain ⟨c, h1, h2, H⟩ := h
  exact ⟨c, h2, h1, fun d a b => H d b a⟩
theorem allPairs_iff {rows : List Nat} (h : Fits rows) (ho : IsOrd rows) : ((List.range rows.length).all fun i => (List.range i).all fun j => pairs rows i j) = true ↔ ∀ i j, i < rows.length → j < rows.length → HasUp rows i j ∧ HasDn rows i j := by
  rw [List.all_eq_true]
  constructor
  · intro H
    have H' : ∀ i j, i < rows.length → j < i → HasUp rows i j ∧ HasDn rows i j := fun i j hi hj => by
      have := List.all_eq_true.1 (H i (List.mem_range.2 hi)) j (List.mem_range.2 hj)
      exact (pairs_iff h hi (by omega)).1 this
    intro i j hi hj
    rcases Nat.lt_trichotomy j i with hl | rfl | hl
    · exact H' i j hi hl
    · exact ⟨⟨j, ho.refl j hj, ho.refl j hj, fun d h1 _ => h1⟩, ⟨j, ho.refl j hj, ho.refl j hj, fun d h1 _ => h1⟩⟩
    · have := H' j i hj hl
      exact ⟨this.1.symm, this.2.symm⟩
  · intro H i hi
    rw [List.mem_range] at hi
    rw [List.all_eq_true]
    intro j hj
    rw [List.mem_range] at hj
    exact (pairs_iff h hi (by omega)).2 (H i j hi (by omega))
theorem anyPairs_iff {rows : List Nat} : ((List.range rows.length).any fun i => (List.range rows.length).any fun j => !upB rows i j || !dnB rows i j) = false ↔ ∀ i j, i < rows.length → j < rows.length → HasUp rows i j ∧ HasDn rows i j := by
  rw [List.any_eq_false]
  constructor
  · intro H i j hi hj
    have := H i (List.mem_range.2 hi)
    rw [Bool.not_eq_true, List.any_eq_false] at this
    have h2 := this j (List.mem_range.2 hj)
    rw [Bool.not_eq_true, Bool.or_eq_false_iff] at h2
    exact ⟨upB_iff.1 (by simpa using h2.1), dnB_iff.1 (by simpa using h2.2)⟩
  · intro H i hi
    rw [Bool.not_eq_true, List.any_eq_false]
    intro j hj
    have := H i j (List.mem_range.1 hi) (List.mem_range.1 hj)
    rw [upB_iff.2 this.1, dnB_iff.2 this.2]
    simp
theorem two_pow_lt {n : Nat} (hn : n ≤ 64) : 2 ^ n - 1 < 18446744073709551616 := by
  have h2 : 2 ^ n ≤ 2 ^ 64 := Nat.pow_le_pow_right (by omega) hn
  rw [show (2 : Nat) ^ 64 = 18446744073709551616 from rfl] at h2
  omega
theorem diff_fits {o n : Nat} (ho : o < 18446744073709551616) (hn : n ≤ 64) : diff o (2 ^ n - 1) = 0 ↔ o < 2 ^ n := by
  constructor
  · intro h
    apply Nat.lt_pow_two_of_testBit
    intro k hk
    cases hb : o.testBit k with
    | false => rfl
    | true => exact absurd (diff_zero ho hn h k hb) (by omega)
  · intro h
    by_cases hd : diff o (2 ^ n - 1) = 0
    · exact hd
    · exfalso
      obtain ⟨k, _, h1, h2⟩ := (diff_ne (two_pow_lt hn)).1 hd
      rw [Nat.testBit_two_pow_sub_one] at h2
      have : ¬ k < n := by simpa using h2
      rw [Nat.testBit_lt_two_pow (Nat.lt_of_lt_of_le h (Nat.pow_le_pow_right (by omega) (by omega)))] at h1
      cases h1
/-- what the rows must be for Check not to tell ErrArg. -/
def Wide (rows : List Nat) : Prop := ∀ i, i < rows.length → rows.getD i 0 < 2 ^ rows.length
theorem fits_of {rows : List Nat} (h0 : 0 < rows.length) (h1 : rows.length ≤ 64) (h : Wide rows) : Fits rows :=
  ⟨h0, h1, fun i k hk => by
    by_cases hi : i < rows.length
    · by_cases hkn : k < rows.length
      · exact hkn
      · exfalso
        rw [Nat.testBit_lt_two_pow (Nat.lt_of_lt_of_le (h i hi) (Nat.pow_le_pow_right (by omega) (by omega)))] at hk
        cases hk
    · rw [show rows.getD i 0 = 0 by simp [List.getD, hi]] at hk
      simp at hk⟩
/-- what Check tells, by what the rows are. -/
theorem checkR_spec (rows : List Nat) (hx : ∀ x ∈ rows, x < 18446744073709551616) :
    ((¬ (0 < rows.length ∧ rows.length ≤ 64 ∧ Wide rows)) → checkR rows = 1) ∧
    ((h : 0 < rows.length ∧ rows.length ≤ 64 ∧ Wide rows) → (¬ IsOrd rows → checkR rows = 9) ∧ (IsOrd rows → (¬ (∀ i j, i < rows.length → j < rows.length → HasUp rows i j ∧ HasDn rows i j) → checkR rows = 7) ∧ ((∀ i j, i < rows.length → j < rows.length → HasUp rows i j ∧ HasDn rows i j) → checkR rows = 0))) := by
  have hg : ∀ i, i < rows.length → rows.getD i 0 < 18446744073709551616 := fun i hi => by
    rw [show rows.getD i 0 = rows[i] by simp [List.getD, hi]]
    exact hx _ (List.getElem_mem hi)
  constructor
  · intro h
    by_cases h1 : rows.length < 1 ∨ 64 < rows.length
    · exact checkR_small h1
    · have hw : ¬ Wide rows := fun hw => h ⟨by omega, by omega, hw⟩
      have : ∃ i, i < rows.length ∧ ¬ rows.getD i 0 < 2 ^ rows.length := by
        apply Classical.byContradiction
        intro hne
        exact hw fun i hi => Classical.byContradiction fun h2 => hne ⟨i, hi, h2⟩
      obtain ⟨i, hi, h2⟩ := this
      exact checkR_wide i hi fun h3 => h2 ((diff_fits (hg i hi) (by omega)).1 h3)
  · rintro ⟨h0, h1, hw⟩
    have hf := fits_of h0 h1 hw
    have hr := checkR_rest (rows := rows) (by omega) h1 (fun i hi => (diff_fits (hg i hi) h1).2 (hw i hi))
    refine ⟨fun ho => ?_, fun ho => ⟨fun hp => ?_, fun hp => ?_⟩⟩
    · rw [hr, if_pos]
      cases hb : ordB rows with
      | false => rfl
      | true => exact absurd ((ordB_iff hf).1 hb) ho
    · rw [hr, if_neg (by rw [(ordB_iff hf).2 ho]; simp), if_pos]
      cases hb : ((List.range rows.length).all fun i => (List.range i).all fun j => pairs rows i j) with
      | false => rfl
      | true => exact absurd ((allPairs_iff hf ho).1 hb) hp
    · rw [hr, if_neg (by rw [(ordB_iff hf).2 ho]; simp), if_neg (by rw [(allPairs_iff hf ho).2 hp]; simp)]
theorem refR_spec (rows : List Nat) :
    ((¬ (0 < rows.length ∧ rows.length ≤ 64 ∧ Wide rows)) → (∀ x ∈ rows, x < 18446744073709551616) → refR rows = 1) ∧
    ((h : 0 < rows.length ∧ rows.length ≤ 64 ∧ Wide rows) → (¬ IsOrd rows → refR rows = 9) ∧ (IsOrd rows → (¬ (∀ i j, i < rows.length → j < rows.length → HasUp rows i j ∧ HasDn rows i j) → refR rows = 7) ∧ ((∀ i j, i < rows.length → j < rows.length → HasUp rows i j ∧ HasDn rows i j) → refR rows = 0))) := by
  constructor
  · intro h hx
    by_cases h1 : rows.length < 1 ∨ 64 < rows.length
    · exact refR_small h1
    · have hw : ¬ Wide rows := fun hw => h ⟨by omega, by omega, hw⟩
      have : ∃ i, i < rows.length ∧ ¬ rows.getD i 0 < 2 ^ rows.length := by
        apply Classical.byContradiction
        intro hne
        exact hw fun i hi => Classical.byContradiction fun h2 => hne ⟨i, hi, h2⟩
      obtain ⟨i, hi, h2⟩ := this
      refine refR_wide i hi ?_
      have hlt : rows.getD i 0 < 18446744073709551616 := by
        rw [show rows.getD i 0 = rows[i] by simp [List.getD, hi]]
        exact hx _ (List.getElem_mem hi)
      have h64 : rows.length < 64 := by
        by_cases e : rows.length = 64
        · rw [e, show (2 : Nat) ^ 64 = 18446744073709551616 from rfl] at h2
          exact absurd hlt h2
        · omega
      unfold wideAt
      have hp : 0 < 2 ^ rows.length := Nat.pow_pos (by omega)
      have : rows.getD i 0 / 2 ^ rows.length ≠ 0 := fun h3 => by
        rw [Nat.div_eq_zero_iff] at h3
        omega
      simpa [h64] using this
  · rintro ⟨h0, h1, hw⟩
    have hf := fits_of h0 h1 hw
    have hr := refR_rest (rows := rows) (by omega) h1 (fun i hi => by
      unfold wideAt
      rw [Nat.div_eq_of_lt (hw i hi)]
      simp)
    refine ⟨fun ho => ?_, fun ho => ⟨fun hp => ?_, fun hp => ?_⟩⟩
    · rw [hr, if_pos]
      cases hb : ((List.range rows.length).any fun i => iBad rows i) with
      | true => rfl
      | false => exact absurd (iBad_iff.1 hb) ho
    · rw [hr, if_neg (by rw [iBad_iff.2 ho]; simp), if_pos]
      cases hb : ((List.range rows.length).any fun i => (List.range rows.length).any fun j => !upB rows i j || !dnB rows i j) with
      | true => rfl
      | false => exact absurd (anyPairs_iff.1 hb) hp
    · rw [hr, if_neg (by rw [iBad_iff.2 ho]; simp), if_neg (by rw [anyPairs_iff.2 hp]; simp)]
theorem refR_eq (rows : List Nat) (hx : ∀ x ∈ rows, x < 18446744073709551616) : refR rows = checkR rows := by
  obtain ⟨a1, a2⟩ := checkR_spec rows hx
  obtain ⟨b1, b2⟩ := refR_spec rows
  by_cases h : 0 < rows.length ∧ rows.length ≤ 64 ∧ Wide rows
  · obtain ⟨a3, a4⟩ := a2 h
    obtain ⟨b3, b4⟩ := b2 h
    by_cases ho : IsOrd rows
    · by_cases hp : ∀ i j, i < rows.length → j < rows.length → HasUp rows i j ∧ HasDn rows i j
      · rw [(a4 ho).2 hp, (b4 ho).2 hp]
      · rw [(a4 ho).1 hp, (b4 ho).1 hp]
    · rw [a3 ho, b3 ho]
  · rw [a1 h, b1 h hx]
end Go.Proofs.YtajilghlcfheiaaGreatDoor.Bnd
