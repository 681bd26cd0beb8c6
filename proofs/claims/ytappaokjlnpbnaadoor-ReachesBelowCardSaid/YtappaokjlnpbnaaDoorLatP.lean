/- Joins and meets, of an order in which each two have both: plain. -/
import Derived.Test.YtappaokjlnpbnaaDoorLat3
namespace Go.Proofs.YtappaokjlnpbnaaDoor
theorem and_all {r s : Nat} : r &&& s = s ↔ ∀ j, s.testBit j = true → r.testBit j = true := by
  constructor
  · intro h j hj
    rw [← h, Nat.testBit_and, Bool.and_eq_true] at hj
    exact hj.1
  · intro h
    apply Nat.eq_of_testBit_eq
    intro j
    rw [Nat.testBit_and]
    cases hb : s.testBit j with
    | false => simp
    | true => simp [h j hb]
theorem firstAll_has {R : List Nat} {s k : Nat} (hk : k < 64) (h1 : s.testBit k = true) (h2 : R.getD k 0 &&& s = s) : s.testBit (firstAll R s) = true ∧ R.getD (firstAll R s) 0 &&& s = s := by
  unfold firstAll
  cases hf : (List.range 64).find? fun j => s.testBit j && (R.getD j 0 &&& s == s) with
  | none =>
    have := List.find?_eq_none.1 hf k (List.mem_range.2 hk)
    rw [h1, h2] at this
    simp at this
  | some x =>
    have := List.find?_some hf
    simpa using this
theorem Fine.row {rows : List Nat} (h : Fine rows) {i : Nat} (hi : i < rows.length) (j : Nat) : (rows.getD i 0).testBit j = rowB rows i j := (h.fits.at_ i j hi).symm
theorem join_spec {rows : List Nat} (h : Fine rows) {a b : Nat} (ha : a < rows.length) (hb : b < rows.length) : rowB rows a (joinF rows a b) = true ∧ rowB rows b (joinF rows a b) = true ∧ ∀ d, rowB rows a d = true → rowB rows b d = true → rowB rows (joinF rows a b) d = true := by
  obtain ⟨c, h1, h2, h3⟩ := h.up a b ha hb
  have hc := (rowB_lt h1).2
  have e : joinF rows a b = firstAll rows (rows.getD a 0 &&& rows.getD b 0) := by unfold joinF pickF; rw [if_pos ⟨ha, hb⟩]
  have hs : ∀ d, (rows.getD a 0 &&& rows.getD b 0).testBit d = (rowB rows a d && rowB rows b d) := fun d => by rw [Nat.testBit_and, h.row ha, h.row hb]
  obtain ⟨k1, k2⟩ := firstAll_has (R := rows) (s := rows.getD a 0 &&& rows.getD b 0) (k := c) (by have := h.le; omega) (by rw [hs, h1, h2]; rfl) (and_all.2 fun d hd => by
    rw [hs, Bool.and_eq_true] at hd
    rw [h.row hc]
    exact h3 d hd.1 hd.2)
  rw [← e] at k1 k2
  rw [hs, Bool.and_eq_true] at k1
  refine ⟨k1.1, k1.2, fun d h4 h5 => ?_⟩
  rw [← h.row (rowB_lt k1.1).2]
  exact and_all.1 k2 d (by rw [hs, h4, h5]; rfl)
theorem meet_spec {rows : List Nat} (h : Fine rows) {a b : Nat} (ha : a < rows.length) (hb : b < rows.length) : rowB rows (meetF rows a b) a = true ∧ rowB rows (meetF rows a b) b = true ∧ ∀ d, rowB rows d a = true → rowB rows d b = true → rowB rows d (meetF rows a b) = true := by
  obtain ⟨c, h1, h2, h3⟩ := h.dn a b ha hb
  have hc := (rowB_lt h1).1
  have e : meetF rows a b = firstAll (downs rows) ((downs rows).getD a 0 &&& (downs rows).getD b 0) := by unfold meetF pickF; rw [downs_length, if_pos ⟨ha, hb⟩]
  have hs : ∀ d, ((downs rows).getD a 0 &&& (downs rows).getD b 0).testBit d = (rowB rows d a && rowB rows d b) := fun d => by rw [Nat.testBit_and, downs_bit h.fits ha, downs_bit h.fits hb]
  obtain ⟨k1, k2⟩ := firstAll_has (R := downs rows) (s := (downs rows).getD a 0 &&& (downs rows).getD b 0) (k := c) (by have := h.le; omega) (by rw [hs, h1, h2]; rfl) (and_all.2 fun d hd => by
    rw [hs, Bool.and_eq_true] at hd
    rw [downs_bit h.fits hc]
    exact h3 d hd.1 hd.2)
  rw [← e] at k1 k2
  rw [hs, Bool.and_eq_true] at k1
  refine ⟨k1.1, k1.2, fun d h4 h5 => ?_⟩
  rw [← downs_bit h.fits (rowB_lt k1.1).1]
  exact and_all.1 k2 d (by rw [hs, h4, h5]; rfl)
theorem has_bot {rows : List Nat} (h : Fine rows) : ∀ k, 0 < k → k ≤ rows.length → ∃ c, c < rows.length ∧ ∀ d, d < k → rowB rows c d = true := by
  intro k
  induction k with
  | zero => intro h0; omega
  | succ k ih =>
    intro _ hk
    by_cases h0 : k = 0
    · subst h0
      exact ⟨0, h.pos, fun d hd => by obtain rfl : d = 0 := by omega
                                      exact h.ord.refl 0 h.pos⟩
    · obtain ⟨c, hc, H⟩ := ih (by omega) (by omega)
      obtain ⟨h1, h2, _⟩ := meet_spec h hc (show k < rows.length by omega)
      refine ⟨meetF rows c k, (rowB_lt h1).1, fun d hd => ?_⟩
      by_cases e : d = k
      · subst e; exact h2
      · exact h.ord.trans _ _ _ h1 (H d (by omega))
theorem has_top {rows : List Nat} (h : Fine rows) : ∀ k, 0 < k → k ≤ rows.length → ∃ c, c < rows.length ∧ ∀ d, d < k → rowB rows d c = true := by
  intro k
  induction k with
  | zero => intro h0; omega
  | succ k ih =>
    intro _ hk
    by_cases h0 : k = 0
    · subst h0
      exact ⟨0, h.pos, fun d hd => by obtain rfl : d = 0 := by omega
                                      exact h.ord.refl 0 h.pos⟩
    · obtain ⟨c, hc, H⟩ := ih (by omega) (by omega)
      obtain ⟨h1, h2, _⟩ := join_spec h hc (show k < rows.length by omega)
      refine ⟨joinF rows c k, (rowB_lt h1).2, fun d hd => ?_⟩
      by_cases e : d = k
      · subst e; exact h2
      · exact h.ord.trans _ _ _ (H d (by omega)) h1
theorem bot_spec {rows : List Nat} (h : Fine rows) : botF rows < rows.length ∧ ∀ d, d < rows.length → rowB rows (botF rows) d = true := by
  obtain ⟨c, hc, H⟩ := has_bot h rows.length h.pos (Nat.le_refl _)
  have h0 : ¬ rows.length = 0 := by have := h.pos; omega
  have e : botF rows = firstAll rows (2 ^ rows.length - 1) := by unfold botF endF; rw [if_neg h0]
  obtain ⟨k1, k2⟩ := firstAll_has (R := rows) (s := 2 ^ rows.length - 1) (k := c) (by have := h.le; omega) (by rw [Nat.testBit_two_pow_sub_one]; simpa using hc) (and_all.2 fun d hd => by
    rw [Nat.testBit_two_pow_sub_one] at hd
    rw [h.row hc]
    exact H d (by simpa using hd))
  rw [← e] at k1 k2
  rw [Nat.testBit_two_pow_sub_one] at k1
  have hb : botF rows < rows.length := by simpa using k1
  refine ⟨hb, fun d hd => ?_⟩
  rw [← h.row hb]
  exact and_all.1 k2 d (by rw [Nat.testBit_two_pow_sub_one]; simpa using hd)
theorem top_spec {rows : List Nat} (h : Fine rows) : topF rows < rows.length ∧ ∀ d, d < rows.length → rowB rows d (topF rows) = true := by
  obtain ⟨c, hc, H⟩ := has_top h rows.length h.pos (Nat.le_refl _)
  have h0 : ¬ rows.length = 0 := by have := h.pos; omega
  have e : topF rows = firstAll (downs rows) (2 ^ rows.length - 1) := by unfold topF endF; rw [downs_length, if_neg h0]
  obtain ⟨k1, k2⟩ := firstAll_has (R := downs rows) (s := 2 ^ rows.length - 1) (k := c) (by have := h.le; omega) (by rw [Nat.testBit_two_pow_sub_one]; simpa using hc) (and_all.2 fun d hd => by
    rw [Nat.testBit_two_pow_sub_one] at hd
    rw [downs_bit h.fits hc]
    exact H d (by simpa using hd))
  rw [← e] at k1 k2
  rw [Nat.testBit_two_pow_sub_one] at k1
  have hb : topF rows < rows.length := by simpa using k1
  refine ⟨hb, fun d hd => ?_⟩
  rw [← downs_bit h.fits hb]
  exact and_all.1 k2 d (by rw [Nat.testBit_two_pow_sub_one]; simpa using hd)
theorem join_lt {rows : List Nat} (h : Fine rows) {a b : Nat} (ha : a < rows.length) (hb : b < rows.length) : joinF rows a b < rows.length := (rowB_lt (join_spec h ha hb).1).2
theorem meet_lt {rows : List Nat} (h : Fine rows) {a b : Nat} (ha : a < rows.length) (hb : b < rows.length) : meetF rows a b < rows.length := (rowB_lt (meet_spec h ha hb).1).1
theorem join_eq {rows : List Nat} (h : Fine rows) {a b : Nat} (ha : a < rows.length) (hb : b < rows.length) {x : Nat} (h1 : rowB rows a x = true) (h2 : rowB rows b x = true) (h3 : ∀ d, rowB rows a d = true → rowB rows b d = true → rowB rows x d = true) : joinF rows a b = x := by
  obtain ⟨k1, k2, k3⟩ := join_spec h ha hb
  exact h.ord.anti _ _ (k3 x h1 h2) (h3 _ k1 k2)
theorem meet_eq {rows : List Nat} (h : Fine rows) {a b : Nat} (ha : a < rows.length) (hb : b < rows.length) {x : Nat} (h1 : rowB rows x a = true) (h2 : rowB rows x b = true) (h3 : ∀ d, rowB rows d a = true → rowB rows d b = true → rowB rows d x = true) : meetF rows a b = x := by
  obtain ⟨k1, k2, k3⟩ := meet_spec h ha hb
  exact h.ord.anti _ _ (h3 _ k1 k2) (k3 x h1 h2)
theorem join_comm {rows : List Nat} (h : Fine rows) {a b : Nat} (ha : a < rows.length) (hb : b < rows.length) : joinF rows a b = joinF rows b a := by
  obtain ⟨k1, k2, k3⟩ := join_spec h hb ha
  exact join_eq h ha hb k2 k1 (fun d h1 h2 => k3 d h2 h1)
theorem meet_comm {rows : List Nat} (h : Fine rows) {a b : Nat} (ha : a < rows.length) (hb : b < rows.length) : meetF rows a b = meetF rows b a := by
  obtain ⟨k1, k2, k3⟩ := meet_spec h hb ha
  exact meet_eq h ha hb k2 k1 (fun d h1 h2 => k3 d h2 h1)
theorem join_below {rows : List Nat} (h : Fine rows) {a b : Nat} (ha : a < rows.length) (hb : b < rows.length) : rowB rows a b = true ↔ joinF rows a b = b := by
  constructor
  · intro h1
    exact join_eq h ha hb h1 (h.ord.refl b hb) (fun d _ h2 => h2)
  · intro e
    have := (join_spec h ha hb).1
    rwa [e] at this
theorem meet_below {rows : List Nat} (h : Fine rows) {a b : Nat} (ha : a < rows.length) (hb : b < rows.length) : rowB rows a b = true ↔ meetF rows a b = a := by
  constructor
  · intro h1
    exact meet_eq h ha hb (h.ord.refl a ha) h1 (fun d h2 _ => h2)
  · intro e
    have := (meet_spec h ha hb).2.1
    rwa [e] at this
theorem join_abs {rows : List Nat} (h : Fine rows) {a b : Nat} (ha : a < rows.length) (hb : b < rows.length) : joinF rows a (meetF rows a b) = a := by
  obtain ⟨k1, _, _⟩ := meet_spec h ha hb
  exact join_eq h ha (meet_lt h ha hb) (h.ord.refl a ha) k1 (fun d h1 _ => h1)
theorem meet_abs {rows : List Nat} (h : Fine rows) {a b : Nat} (ha : a < rows.length) (hb : b < rows.length) : meetF rows a (joinF rows a b) = a := by
  obtain ⟨k1, _, _⟩ := join_spec h ha hb
  exact meet_eq h ha (join_lt h ha hb) (h.ord.refl a ha) k1 (fun d h1 _ => h1)
theorem join_assoc {rows : List Nat} (h : Fine rows) {a b c : Nat} (ha : a < rows.length) (hb : b < rows.length) (hc : c < rows.length) : joinF rows (joinF rows a b) c = joinF rows a (joinF rows b c) := by
  obtain ⟨p1, p2, p3⟩ := join_spec h hb hc
  obtain ⟨k1, k2, k3⟩ := join_spec h ha (join_lt h hb hc)
  obtain ⟨q1, q2, q3⟩ := join_spec h ha hb
  refine join_eq h (join_lt h ha hb) hc (q3 _ k1 (h.ord.trans _ _ _ p1 k2)) (h.ord.trans _ _ _ p2 k2) (fun d h1 h2 => k3 d (h.ord.trans _ _ _ q1 h1) (p3 d (h.ord.trans _ _ _ q2 h1) h2))
theorem meet_assoc {rows : List Nat} (h : Fine rows) {a b c : Nat} (ha : a < rows.length) (hb : b < rows.length) (hc : c < rows.length) : meetF rows (meetF rows a b) c = meetF rows a (meetF rows b c) := by
  obtain ⟨p1, p2, p3⟩ := meet_spec h hb hc
  obtain ⟨k1, k2, k3⟩ := meet_spec h ha (meet_lt h hb hc)
  obtain ⟨q1, q2, q3⟩ := meet_spec h ha hb
  refine meet_eq h (meet_lt h ha hb) hc (q3 _ k1 (h.ord.trans _ _ _ k2 p1)) (h.ord.trans _ _ _ k2 p2) (fun d h1 h2 => k3 d (h.ord.trans _ _ _ h1 q1) (p3 d (h.ord.trans _ _ _ h1 q2) h2))
theorem join_under {rows : List Nat} (h : Fine rows) {a b : Nat} (ha : a < rows.length) (hb : b < rows.length) (c : Nat) : (rowB rows a c && rowB rows b c) = rowB rows (joinF rows a b) c := by
  obtain ⟨k1, k2, k3⟩ := join_spec h ha hb
  rw [Bool.eq_iff_iff, Bool.and_eq_true]
  exact ⟨fun ⟨h1, h2⟩ => k3 c h1 h2, fun h1 => ⟨h.ord.trans _ _ _ k1 h1, h.ord.trans _ _ _ k2 h1⟩⟩
theorem meet_over {rows : List Nat} (h : Fine rows) {a b : Nat} (ha : a < rows.length) (hb : b < rows.length) (c : Nat) : (rowB rows c a && rowB rows c b) = rowB rows c (meetF rows a b) := by
  obtain ⟨k1, k2, k3⟩ := meet_spec h ha hb
  rw [Bool.eq_iff_iff, Bool.and_eq_true]
  exact ⟨fun ⟨h1, h2⟩ => k3 c h1 h2, fun h1 => ⟨h.ord.trans _ _ _ h1 k1, h.ord.trans _ _ _ h1 k2⟩⟩
theorem join_self {rows : List Nat} (h : Fine rows) {a : Nat} (ha : a < rows.length) : joinF rows a a = a := (join_below h ha ha).1 (h.ord.refl a ha)
theorem meet_self {rows : List Nat} (h : Fine rows) {a : Nat} (ha : a < rows.length) : meetF rows a a = a := (meet_below h ha ha).1 (h.ord.refl a ha)
end Go.Proofs.YtappaokjlnpbnaaDoor
