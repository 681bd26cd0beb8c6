/- An order turned upside down, and one whose labels are numbered otherwise: plain. -/
import Derived.Test.YtnbjfdnhddkhpaaDoorFine
import Derived.Test.YtnbjfdnhddkhpaaDoorTurn
namespace Go.Proofs.YtnbjfdnhddkhpaaDoor
/-- each two have both. -/
def Full (rows : List Nat) : Prop := ∀ i j, i < rows.length → j < rows.length → HasUp rows i j ∧ HasDn rows i j
theorem check_same {r s : List Nat} (hr : ∀ x ∈ r, x < 18446744073709551616) (hs : ∀ x ∈ s, x < 18446744073709551616) (h1 : 0 < r.length ∧ r.length ≤ 64 ∧ Wide r) (h2 : 0 < s.length ∧ s.length ≤ 64 ∧ Wide s) (ho : IsOrd r ↔ IsOrd s) (hf : Full r ↔ Full s) : checkR s = checkR r := by
  obtain ⟨_, a2⟩ := checkR_spec r hr
  obtain ⟨_, b2⟩ := checkR_spec s hs
  obtain ⟨a3, a4⟩ := a2 h1
  obtain ⟨b3, b4⟩ := b2 h2
  by_cases h : IsOrd r
  · by_cases hp : Full r
    · rw [(a4 h).2 hp, (b4 (ho.1 h)).2 (hf.1 hp)]
    · rw [(a4 h).1 hp, (b4 (ho.1 h)).1 (fun k => hp (hf.2 k))]
  · rw [a3 h, b3 (fun k => h (ho.2 k))]
theorem IsOrd.flip {r s : List Nat} (hl : r.length = s.length) (e : ∀ i j, rowB s i j = rowB r j i) (h : IsOrd r) : IsOrd s :=
  ⟨fun i hi => by rw [e]; exact h.refl i (by omega), fun i j h1 h2 => by rw [e] at h1 h2; exact h.anti i j h2 h1, fun i j k h1 h2 => by rw [e] at h1 h2 ⊢; exact h.trans k j i h2 h1⟩
theorem Full.flip {r s : List Nat} (hl : r.length = s.length) (e : ∀ i j, rowB s i j = rowB r j i) (h : Full r) : Full s := by
  intro i j hi hj
  obtain ⟨⟨c, h1, h2, h3⟩, ⟨d, h4, h5, h6⟩⟩ := h i j (by omega) (by omega)
  refine ⟨⟨d, by rw [e]; exact h4, by rw [e]; exact h5, fun x k1 k2 => ?_⟩, ⟨c, by rw [e]; exact h1, by rw [e]; exact h2, fun x k1 k2 => ?_⟩⟩
  · rw [e] at k1 k2 ⊢
    exact h6 x k1 k2
  · rw [e] at k1 k2 ⊢
    exact h3 x k1 k2
theorem IsOrd.move {r s : List Nat} {f g : Nat → Nat} (hl : r.length = s.length) (hg : ∀ i, i < r.length → g i < r.length) (hfg : ∀ i, i < r.length → f (g i) = i) (e : ∀ i j, i < r.length → j < r.length → rowB s i j = rowB r (g i) (g j)) (h : IsOrd r) : IsOrd s := by
  refine ⟨fun i hi => ?_, fun i j h1 h2 => ?_, fun i j k h1 h2 => ?_⟩
  · rw [e i i (by omega) (by omega)]
    exact h.refl _ (hg i (by omega))
  · obtain ⟨hi, hj⟩ := rowB_lt h1
    rw [e i j (by omega) (by omega)] at h1
    rw [e j i (by omega) (by omega)] at h2
    rw [← hfg i (by omega), ← hfg j (by omega), h.anti _ _ h1 h2]
  · obtain ⟨hi, hj⟩ := rowB_lt h1
    obtain ⟨_, hk⟩ := rowB_lt h2
    rw [e i j (by omega) (by omega)] at h1
    rw [e j k (by omega) (by omega)] at h2
    rw [e i k (by omega) (by omega)]
    exact h.trans _ _ _ h1 h2
theorem Full.move {r s : List Nat} {f g : Nat → Nat} (hl : r.length = s.length) (hg : ∀ i, i < r.length → g i < r.length) (hf : ∀ i, i < r.length → f i < r.length) (_hfg : ∀ i, i < r.length → f (g i) = i) (hgf : ∀ i, i < r.length → g (f i) = i) (e : ∀ i j, i < r.length → j < r.length → rowB s i j = rowB r (g i) (g j)) (h : Full r) : Full s := by
  intro i j hi hj
  obtain ⟨⟨c, h1, h2, h3⟩, ⟨d, h4, h5, h6⟩⟩ := h (g i) (g j) (hg i (by omega)) (hg j (by omega))
  have hc := (rowB_lt h1).2
  have hd := (rowB_lt h4).1
  refine ⟨⟨f c, ?_, ?_, fun x k1 k2 => ?_⟩, ⟨f d, ?_, ?_, fun x k1 k2 => ?_⟩⟩
  · rw [e i _ (by omega) (hf c hc), hgf c hc]; exact h1
  · rw [e j _ (by omega) (hf c hc), hgf c hc]; exact h2
  · have hx := (rowB_lt k1).2
    rw [e i x (by omega) (by omega)] at k1
    rw [e j x (by omega) (by omega)] at k2
    rw [e _ x (hf c hc) (by omega), hgf c hc]
    exact h3 _ k1 k2
  · rw [e _ i (hf d hd) (by omega), hgf d hd]; exact h4
  · rw [e _ j (hf d hd) (by omega), hgf d hd]; exact h5
  · have hx := (rowB_lt k1).1
    rw [e x i (by omega) (by omega)] at k1
    rw [e x j (by omega) (by omega)] at k2
    rw [e x _ (by omega) (hf d hd), hgf d hd]
    exact h6 _ k1 k2
theorem wide_of {s : List Nat} (h : ∀ i k, i < s.length → (s.getD i 0).testBit k = true → k < s.length) : Wide s := by
  intro i hi
  apply Nat.lt_pow_two_of_testBit
  intro k hk
  cases hb : (s.getD i 0).testBit k with
  | false => rfl
  | true => exact absurd (h i k hi hb) (by omega)
theorem lt64_of {s : List Nat} (hn : s.length ≤ 64) (h : Wide s) : ∀ x ∈ s, x < 18446744073709551616 := by
  intro x hx
  obtain ⟨i, hi, rfl⟩ := List.mem_iff_getElem.1 hx
  have := h i hi
  rw [show s.getD i 0 = s[i] by simp [List.getD, hi]] at this
  rw [show 18446744073709551616 = 2 ^ 64 from rfl]
  exact Nat.lt_of_lt_of_le this (Nat.pow_le_pow_right (by omega) hn)
theorem check_down {rows : List Nat} (h0 : 0 < rows.length) (h1 : rows.length ≤ 64) (hw : Wide rows) : checkR (downs rows) = checkR rows := by
  have hf := fits_of h0 h1 hw
  have hl : rows.length = (downs rows).length := (downs_length rows).symm
  have hwd : Wide (downs rows) := wide_of fun i k hi hk => by rw [← hl]; exact downs_bits rows i k hk
  have hfd := fits_of (rows := downs rows) (by omega) (by omega) hwd
  have e : ∀ i j, rowB (downs rows) i j = rowB rows j i := fun i j => by
    by_cases hi : i < rows.length
    · rw [hfd.at_ i j (by omega), downs_bit hf hi]
    · rw [rowB_no (by omega), rowB_no (by omega)]
  have e' : ∀ i j, rowB rows i j = rowB (downs rows) j i := fun i j => (e j i).symm
  exact check_same (lt64_of h1 hw) (lt64_of (by omega) hwd) ⟨h0, h1, hw⟩ ⟨by omega, by omega, hwd⟩ ⟨fun h => h.flip hl e, fun h => h.flip hl.symm e'⟩ ⟨fun h => h.flip hl e, fun h => h.flip hl.symm e'⟩
/-- bits of a row, moved. -/
def spread (n by_ r : Nat) : Nat → Nat
  | 0 => 0
  | j + 1 => spread n by_ r j ||| (if r.testBit j then 2 ^ ((j + by_) % n) else 0)
theorem spread_bit (n by_ r k : Nat) : ∀ j, ((spread n by_ r j).testBit k = true ↔ ∃ i, i < j ∧ r.testBit i = true ∧ (i + by_) % n = k) := by
  intro j
  induction j with
  | zero => simp [spread]
  | succ j ih =>
    rw [spread, Nat.testBit_or, Bool.or_eq_true, ih]
    constructor
    · rintro (⟨i, h1, h2, h3⟩ | h)
      · exact ⟨i, by omega, h2, h3⟩
      · by_cases hb : r.testBit j = true
        · rw [if_pos hb, Nat.testBit_two_pow] at h
          exact ⟨j, by omega, hb, by simpa using h⟩
        · rw [if_neg hb] at h
          simp at h
    · rintro ⟨i, h1, h2, h3⟩
      by_cases e : i = j
      · subst e
        rw [if_pos h2, Nat.testBit_two_pow, h3]
        simp
      · exact .inl ⟨i, by omega, h2, h3⟩
theorem spread_lt {n by_ r : Nat} (h0 : 0 < n) (h : n ≤ 64) : ∀ j, spread n by_ r j < 18446744073709551616 := by
  intro j
  induction j with
  | zero => simp [spread]
  | succ j ih =>
    rw [spread, show 18446744073709551616 = 2 ^ 64 from rfl]
    refine Nat.or_lt_two_pow ih ?_
    split
    · exact Nat.pow_lt_pow_right (by omega) (by have := Nat.mod_lt (j + by_) h0; omega)
    · decide
def back (n by_ a : Nat) : Nat := (a + (n - by_)) % n
theorem back_to {n by_ a : Nat} (hb : by_ < n) (ha : a < n) : back n by_ ((a + by_) % n) = a := by
  unfold back
  rw [Nat.mod_add_mod, show a + by_ + (n - by_) = a + n by omega, Nat.add_mod_right, Nat.mod_eq_of_lt ha]
theorem to_back {n by_ a : Nat} (hb : by_ < n) (ha : a < n) : (back n by_ a + by_) % n = a := by
  unfold back
  rw [Nat.mod_add_mod, show a + (n - by_) + by_ = a + n by omega, Nat.add_mod_right, Nat.mod_eq_of_lt ha]
theorem back_lt {n by_ a : Nat} (hb : by_ < n) : back n by_ a < n := Nat.mod_lt _ (by omega)
theorem to_lt {n by_ a : Nat} (hb : by_ < n) : (a + by_) % n < n := Nat.mod_lt _ (by omega)
/-- the rows that are moved, under way. -/
def mvF (rows : List Nat) (by_ i j a : Nat) : Nat :=
  if back rows.length by_ a < i then spread rows.length by_ (rows.getD (back rows.length by_ a) 0) rows.length
  else if back rows.length by_ a = i then spread rows.length by_ (rows.getD i 0) j else 0
def moved (rows : List Nat) (by_ : Nat) : List Nat := (List.range rows.length).map fun a => mvF rows by_ rows.length 0 a
theorem moved_length (rows : List Nat) (by_ : Nat) : (moved rows by_).length = rows.length := by simp [moved]
theorem moved_bit {rows : List Nat} {by_ : Nat} (hb : by_ < rows.length) (a k : Nat) (ha : a < rows.length) : ((moved rows by_).getD a 0).testBit k = true ↔ ∃ i, i < rows.length ∧ (rows.getD (back rows.length by_ a) 0).testBit i = true ∧ (i + by_) % rows.length = k := by
  rw [show (moved rows by_).getD a 0 = mvF rows by_ rows.length 0 a by simp [moved, List.getD, ha]]
  unfold mvF
  rw [if_pos (back_lt hb), spread_bit]
theorem check_moved {rows : List Nat} {by_ : Nat} (h0 : 0 < rows.length) (h1 : rows.length ≤ 64) (hw : Wide rows) (hb : by_ < rows.length) : checkR (moved rows by_) = checkR rows := by
  have hf := fits_of h0 h1 hw
  have hl : rows.length = (moved rows by_).length := (moved_length rows by_).symm
  have hwd : Wide (moved rows by_) := wide_of fun i k hi hk => by
    obtain ⟨x, hx, _, rfl⟩ := (moved_bit hb i k (by omega)).1 hk
    rw [← hl]
    exact to_lt hb
  have hfd := fits_of (rows := moved rows by_) (by omega) (by omega) hwd
  have e : ∀ i j, i < rows.length → j < rows.length → rowB (moved rows by_) i j = rowB rows (back rows.length by_ i) (back rows.length by_ j) := fun i j hi hj => by
    rw [hfd.at_ i j (by omega), hf.at_ _ _ (back_lt hb), Bool.eq_iff_iff, moved_bit hb i j hi]
    constructor
    · rintro ⟨x, hx, h, rfl⟩
      rw [back_to hb hx]
      exact h
    · intro h
      exact ⟨_, back_lt hb, h, to_back hb hj⟩
  have e' : ∀ i j, i < (moved rows by_).length → j < (moved rows by_).length → rowB rows i j = rowB (moved rows by_) ((i + by_) % rows.length) ((j + by_) % rows.length) := fun i j hi hj => by
    rw [e _ _ (to_lt hb) (to_lt hb), back_to hb (by omega), back_to hb (by omega)]
  have l1 : ∀ i, i < rows.length → back rows.length by_ i < rows.length := fun i _ => back_lt hb
  have l2 : ∀ i, i < rows.length → (i + by_) % rows.length < rows.length := fun i _ => to_lt hb
  have b1 : ∀ i, i < rows.length → (back rows.length by_ i + by_) % rows.length = i := fun i hi => to_back hb hi
  have b2 : ∀ i, i < rows.length → back rows.length by_ ((i + by_) % rows.length) = i := fun i hi => back_to hb hi
  refine check_same (lt64_of h1 hw) (lt64_of (by omega) hwd) ⟨h0, h1, hw⟩ ⟨by omega, by omega, hwd⟩ ⟨fun h => h.move (f := fun i => (i + by_) % rows.length) hl l1 b1 e, fun h => h.move (f := back rows.length by_) (g := fun i => (i + by_) % rows.length) hl.symm (fun i hi => by rw [← hl] at hi ⊢; exact l2 i hi) (fun i hi => b2 i (by omega)) e'⟩ ⟨fun h => h.move (f := fun i => (i + by_) % rows.length) hl l1 l2 b1 b2 e, fun h => h.move (f := back rows.length by_) (g := fun i => (i + by_) % rows.length) hl.symm (fun i hi => by rw [← hl] at hi ⊢; exact l2 i hi) (fun i hi => by rw [← hl] at hi ⊢; exact l1 i hi) (fun i hi => b2 i (by omega)) (fun i hi => b1 i (by omega)) e'⟩
end Go.Proofs.YtnbjfdnhddkhpaaDoor
