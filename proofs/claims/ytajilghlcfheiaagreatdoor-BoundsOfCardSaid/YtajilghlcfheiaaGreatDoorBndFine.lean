/- Of each two of an order one is the least above both, and one the greatest below both: plain. -/
import Derived.Test.YtajilghlcfheiaaGreatDoorBndPlain
namespace Go.Proofs.YtajilghlcfheiaaGreatDoor.Bnd
set_option maxRecDepth 20000
/-- what an order is in which each two have both. -/
structure Fine (rows : List Nat) : Prop where
  pos : 0 < rows.length
  le : rows.length ≤ 64
  wide : Wide rows
  ord : IsOrd rows
  up : ∀ i j, i < rows.length → j < rows.length → HasUp rows i j
  dn : ∀ i j, i < rows.length → j < rows.length → HasDn rows i j
theorem check_zero {rows : List Nat} (hx : ∀ x ∈ rows, x < 18446744073709551616) : checkR rows = 0 ↔ Fine rows := by
  obtain ⟨a1, a2⟩ := checkR_spec rows hx
  constructor
  · intro h
    by_cases h1 : 0 < rows.length ∧ rows.length ≤ 64 ∧ Wide rows
    · obtain ⟨a3, a4⟩ := a2 h1
      by_cases ho : IsOrd rows
      · by_cases hp : ∀ i j, i < rows.length → j < rows.length → HasUp rows i j ∧ HasDn rows i j
        · exact ⟨h1.1, h1.2.1, h1.2.2, ho, fun i j hi hj => (hp i j hi hj).1, fun i j hi hj => (hp i j hi hj).2⟩
        · rw [(a4 ho).1 hp] at h
          cases h
      · rw [a3 ho] at h
        cases h
    · rw [a1 h1] at h
      cases h
  · intro h
    exact ((a2 ⟨h.pos, h.le, h.wide⟩).2 h.ord).2 (fun i j hi hj => ⟨h.up i j hi hj, h.dn i j hi hj⟩)
theorem Fine.fits {rows : List Nat} (h : Fine rows) : Fits rows := fits_of h.pos h.le h.wide
def upTo (rows : List Nat) (a b c d : Nat) : Bool := (rowB rows a c && rowB rows b c) && (List.range d).all fun d' => (!rowB rows a d' || !rowB rows b d') || rowB rows c d'
def dnTo (rows : List Nat) (a b c d : Nat) : Bool := (rowB rows c a && rowB rows c b) && (List.range d).all fun d' => (!rowB rows d' a || !rowB rows d' b) || rowB rows d' c
theorem upTo_zero (rows : List Nat) (a b c : Nat) : upTo rows a b c 0 = (rowB rows a c && rowB rows b c) := by simp [upTo]
theorem dnTo_zero (rows : List Nat) (a b c : Nat) : dnTo rows a b c 0 = (rowB rows c a && rowB rows c b) := by simp [dnTo]
theorem upTo_succ (rows : List Nat) (a b c d : Nat) : upTo rows a b c (d + 1) = (upTo rows a b c d && ((!rowB rows a d || !rowB rows b d) || rowB rows c d)) := by
  unfold upTo
  rw [all_succ]
  simp only [Bool.and_assoc]
theorem dnTo_succ (rows : List Nat) (a b c d : Nat) : dnTo rows a b c (d + 1) = (dnTo rows a b c d && ((!rowB rows d a || !rowB rows d b) || rowB rows d c)) := by
  unfold dnTo
  rw [all_succ]
  simp only [Bool.and_assoc]
theorem upTo_no {rows : List Nat} {a b c d : Nat} (h : upTo rows a b c d = false) : ∀ n, d ≤ n → upTo rows a b c n = false := by
  intro n hn
  induction n with
  | zero =>
    obtain rfl : d = 0 := by omega
    exact h
  | succ n ih =>
    by_cases e : d = n + 1
    · rw [← e]; exact h
    · rw [upTo_succ, ih (by omega)]; rfl
theorem dnTo_no {rows : List Nat} {a b c d : Nat} (h : dnTo rows a b c d = false) : ∀ n, d ≤ n → dnTo rows a b c n = false := by
  intro n hn
  induction n with
  | zero =>
    obtain rfl : d = 0 := by omega
    exact h
  | succ n ih =>
    by_cases e : d = n + 1
    · rw [← e]; exact h
    · rw [dnTo_succ, ih (by omega)]; rfl
/-- how many of the first ones are such. -/
def cnt (p : Nat → Bool) : Nat → Nat
  | 0 => 0
  | k + 1 => cnt p k + if p k then 1 else 0
theorem cnt_le (p : Nat → Bool) : ∀ k, cnt p k ≤ k
  | 0 => Nat.le_refl _
  | k + 1 => by
    have := cnt_le p k
    rw [cnt]
    split <;> omega
theorem cnt_one {p : Nat → Bool} {c : Nat} (h : p c = true) (hu : ∀ x, p x = true → x = c) : ∀ n, cnt p n = if c < n then 1 else 0 := by
  intro n
  induction n with
  | zero => simp [cnt]
  | succ n ih =>
    rw [cnt, ih]
    by_cases e : c = n
    · subst e
      rw [h]
      simp
    · have : p n = false := by
        cases hp : p n with
        | false => rfl
        | true => exact absurd (hu n hp).symm e
      rw [this]
      simp only [Bool.false_eq_true, if_false, Nat.add_zero]
      by_cases h1 : c < n
      · rw [if_pos h1, if_pos (show c < n + 1 by omega)]
      · rw [if_neg h1, if_neg (show ¬ c < n + 1 by omega)]
theorem up_spec {rows : List Nat} {a b c : Nat} : upTo rows a b c rows.length = true ↔ rowB rows a c = true ∧ rowB rows b c = true ∧ ∀ d, rowB rows a d = true → rowB rows b d = true → rowB rows c d = true := by
  unfold upTo
  rw [Bool.and_eq_true, Bool.and_eq_true, List.all_eq_true]
  constructor
  · rintro ⟨⟨h1, h2⟩, h3⟩
    refine ⟨h1, h2, fun d h4 h5 => ?_⟩
    have := h3 d (List.mem_range.2 (rowB_lt h4).2)
    simpa [h4, h5] using this
  · rintro ⟨h1, h2, h3⟩
    refine ⟨⟨h1, h2⟩, fun d _ => ?_⟩
    cases h4 : rowB rows a d with
    | false => simp
    | true =>
      cases h5 : rowB rows b d with
      | false => simp
      | true => simp [h3 d h4 h5]
theorem dn_spec {rows : List Nat} {a b c : Nat} : dnTo rows a b c rows.length = true ↔ rowB rows c a = true ∧ rowB rows c b = true ∧ ∀ d, rowB rows d a = true → rowB rows d b = true → rowB rows d c = true := by
  unfold dnTo
  rw [Bool.and_eq_true, Bool.and_eq_true, List.all_eq_true]
  constructor
  · rintro ⟨⟨h1, h2⟩, h3⟩
    refine ⟨h1, h2, fun d h4 h5 => ?_⟩
    have := h3 d (List.mem_range.2 (rowB_lt h4).1)
    simpa [h4, h5] using this
  · rintro ⟨h1, h2, h3⟩
    refine ⟨⟨h1, h2⟩, fun d _ => ?_⟩
    cases h4 : rowB rows d a with
    | false => simp
    | true =>
      cases h5 : rowB rows d b with
      | false => simp
      | true => simp [h3 d h4 h5]
theorem one_least {rows : List Nat} (h : Fine rows) {a b : Nat} (ha : a < rows.length) (hb : b < rows.length) : cnt (fun c => upTo rows a b c rows.length) rows.length = 1 := by
  obtain ⟨c, h1, h2, h3⟩ := h.up a b ha hb
  rw [cnt_one (c := c) (up_spec.2 ⟨h1, h2, h3⟩), if_pos (rowB_lt h1).2]
  intro x hx
  obtain ⟨k1, k2, k3⟩ := up_spec.1 hx
  exact h.ord.anti x c (k3 c h1 h2) (h3 x k1 k2)
theorem one_greatest {rows : List Nat} (h : Fine rows) {a b : Nat} (ha : a < rows.length) (hb : b < rows.length) : cnt (fun c => dnTo rows a b c rows.length) rows.length = 1 := by
  obtain ⟨c, h1, h2, h3⟩ := h.dn a b ha hb
  rw [cnt_one (c := c) (dn_spec.2 ⟨h1, h2, h3⟩), if_pos (rowB_lt h1).1]
  intro x hx
  obtain ⟨k1, k2, k3⟩ := dn_spec.1 hx
  exact h.ord.anti x c (h3 x k1 k2) (k3 c h1 h2)
end Go.Proofs.YtajilghlcfheiaaGreatDoor.Bnd
