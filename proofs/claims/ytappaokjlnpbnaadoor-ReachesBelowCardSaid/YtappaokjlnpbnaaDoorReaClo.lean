/- Who reaches whom (plain, no program in sight): Warshall's rounds over a matrix, and their four laws: each itself; on; the edges; the least. -/
namespace Go.Proofs.YtappaokjlnpbnaaDoor.Rea
/-- a matrix behind the round of the midst k. -/
def mid (k : Nat) (M : Nat → Nat → Bool) : Nat → Nat → Bool := fun i j => M i j || (M i k && M k j)
/-- behind the rounds of 0 .. k - 1. -/
def war (M : Nat → Nat → Bool) : Nat → Nat → Nat → Bool
  | 0 => M
  | k + 1 => mid k (war M k)
theorem mid_row (k : Nat) (M : Nat → Nat → Bool) (j : Nat) : mid k M k j = M k j := by
  unfold mid; cases M k j <;> simp
theorem mid_col (k : Nat) (M : Nat → Nat → Bool) (i : Nat) : mid k M i k = M i k := by
  unfold mid; cases M i k <;> simp
theorem war_more (M : Nat → Nat → Bool) : ∀ k i j, M i j = true → war M k i j = true
  | 0, _, _, h => h
  | k + 1, i, j, h => by simp [war, mid, war_more M k i j h]
theorem war_on (M : Nat → Nat → Bool) : ∀ k m, m < k → ∀ i j, war M k i m = true → war M k m j = true → war M k i j = true
  | k + 1, m, hm, i, j, h1, h2 => by
    by_cases e : m = k
    · subst e
      have h1' : war M m i m = true := by rw [← mid_col m (war M m) i]; exact h1
      have h2' : war M m m j = true := by rw [← mid_row m (war M m) j]; exact h2
      simp [war, mid, h1', h2']
    · have hk : m < k := by omega
      simp only [war, mid, Bool.or_eq_true, Bool.and_eq_true] at h1 h2 ⊢
      rcases h1 with h1 | ⟨h1, h1'⟩ <;> rcases h2 with h2 | ⟨h2, h2'⟩
      · exact .inl (war_on M k m hk i j h1 h2)
      · exact .inr ⟨war_on M k m hk i k h1 h2, h2'⟩
      · exact .inr ⟨h1, war_on M k m hk k j h1' h2⟩
      · exact .inr ⟨h1, h2'⟩
theorem war_least (M : Nat → Nat → Bool) (R : Nat → Nat → Prop) (h0 : ∀ i j, M i j = true → R i j) (hR : ∀ i j k, R i j → R j k → R i k) : ∀ k i j, war M k i j = true → R i j
  | 0, i, j, h => h0 i j h
  | k + 1, i, j, h => by
    simp only [war, mid, Bool.or_eq_true, Bool.and_eq_true] at h
    rcases h with h | ⟨h, h'⟩
    · exact war_least M R h0 hR k i j h
    · exact hR i k j (war_least M R h0 hR k i k h) (war_least M R h0 hR k k j h')
/-- a bound: is its lower side a variable, which number; is its upper side one, which number. -/
structure Bd where
  av : Bool
  an : Nat
  bv : Bool
  bn : Nat
deriving DecidableEq
def Bd.edge (b : Bd) (i j : Nat) : Bool := b.av && b.bv && b.an == i && b.bn == j
/-- may it be, among so many variables? -/
def Bd.ok (n : Nat) (b : Bd) : Bool := !(b.av && decide (n ≤ b.an)) && !(b.bv && decide (n ≤ b.bn))
def start (L : List Bd) (i j : Nat) : Bool := i == j || L.any (fun b => b.edge i j)
def reach (n : Nat) (L : List Bd) : Nat → Nat → Bool := war (start L) n
theorem reach_self (n : Nat) (L : List Bd) (i : Nat) : reach n L i i = true := war_more _ _ _ _ (by simp [start])
theorem reach_on (n : Nat) (L : List Bd) (i m j : Nat) (hm : m < n) (h1 : reach n L i m = true) (h2 : reach n L m j = true) : reach n L i j = true := war_on _ n m hm i j h1 h2
theorem reach_edge (n : Nat) (L : List Bd) (b : Bd) (hb : b ∈ L) (ha : b.av = true) (hv : b.bv = true) : reach n L b.an b.bn = true :=
  war_more _ _ _ _ (by simp only [start, Bool.or_eq_true, List.any_eq_true]; exact .inr ⟨b, hb, by simp [Bd.edge, ha, hv]⟩)
theorem start_cases {L : List Bd} {i j : Nat} (h : start L i j = true) : i = j ∨ ∃ b ∈ L, b.av = true ∧ b.bv = true ∧ b.an = i ∧ b.bn = j := by
  simp only [start, Bool.or_eq_true, beq_iff_eq, List.any_eq_true, Bd.edge, Bool.and_eq_true] at h
  rcases h with h | ⟨b, hb, ⟨⟨h1, h2⟩, h3⟩, h4⟩
  · exact .inl h
  · exact .inr ⟨b, hb, h1, h2, h3, h4⟩
theorem reach_least (n : Nat) (L : List Bd) (R : Nat → Nat → Prop) (hr : ∀ i, R i i) (he : ∀ b ∈ L, b.av = true → b.bv = true → R b.an b.bn) (hR : ∀ i j k, R i j → R j k → R i k) (i j : Nat) (h : reach n L i j = true) : R i j :=
  war_least _ R (fun i j h => by
    rcases start_cases h with rfl | ⟨b, hb, h1, h2, rfl, rfl⟩
    · exact hr i
    · exact he b hb h1 h2) hR n i j h
/-- where all bounds may be, whatever one reaches a bound leads out of it to one that reaches that. -/
theorem reach_first (n : Nat) (L : List Bd) (hok : ∀ b ∈ L, b.ok n = true) (i j : Nat) (h : reach n L i j = true) : i = j ∨ ∃ b ∈ L, b.av = true ∧ b.bv = true ∧ b.an = i ∧ b.bn < n ∧ reach n L b.bn j = true := by
  refine (reach_least n L (fun i j => reach n L i j = true ∧ (i = j ∨ ∃ b ∈ L, b.av = true ∧ b.bv = true ∧ b.an = i ∧ b.bn < n ∧ reach n L b.bn j = true) ∧ (i = j ∨ j < n)) ?_ ?_ ?_ i j h).2.1
  · exact fun i => ⟨reach_self n L i, .inl rfl, .inl rfl⟩
  · intro b hb h1 h2
    have hn : b.bn < n := by
      have := hok b hb
      simp [Bd.ok, h2] at this
      omega
    exact ⟨reach_edge n L b hb h1 h2, .inr ⟨b, hb, h1, h2, rfl, hn, reach_self n L _⟩, .inr hn⟩
  · rintro i j k ⟨h1, h2, h3⟩ ⟨k1, k2, k3⟩
    rcases h3 with rfl | h3
    · exact ⟨k1, k2, k3⟩
    · refine ⟨reach_on n L i j k h3 h1 k1, ?_, ?_⟩
      · rcases h2 with rfl | ⟨b, hb, e1, e2, e3, e4, e5⟩
        · exact k2
        · exact .inr ⟨b, hb, e1, e2, e3, e4, reach_on n L _ j k h3 e5 k1⟩
      · rcases k3 with rfl | k3
        · exact .inr h3
        · exact .inr k3
/-- the same edges, the same answers. -/
theorem start_congr {L K : List Bd} (h : ∀ b, b.av = true → b.bv = true → (b ∈ L ↔ b ∈ K)) : start L = start K := by
  funext i j
  unfold start
  congr 1
  rw [Bool.eq_iff_iff, List.any_eq_true, List.any_eq_true]
  constructor
  all_goals
    rintro ⟨b, hb, e⟩
    have e' := e
    simp only [Bd.edge, Bool.and_eq_true] at e
    first
      | exact ⟨b, (h b e.1.1.1 e.1.1.2).1 hb, e'⟩
      | exact ⟨b, (h b e.1.1.1 e.1.1.2).2 hb, e'⟩
theorem reach_congr {L K : List Bd} (n : Nat) (h : ∀ b, b.av = true → b.bv = true → (b ∈ L ↔ b ∈ K)) : reach n L = reach n K := by
  unfold reach
  rw [start_congr h]
/-- more bounds, more answers. -/
theorem reach_mono {L K : List Bd} (n : Nat) (hK : ∀ b ∈ K, b.ok n = true) (h : ∀ b ∈ L, b ∈ K) (i j : Nat) (hr : reach n L i j = true) : reach n K i j = true := by
  refine (reach_least n L (fun i j => reach n K i j = true ∧ (i = j ∨ j < n)) (fun i => ⟨reach_self n K i, .inl rfl⟩) (fun b hb h1 h2 => ⟨reach_edge n K b (h b hb) h1 h2, .inr ?_⟩) ?_ i j hr).1
  · have := hK b (h b hb)
    simp [Bd.ok, h2] at this
    omega
  · rintro i j k ⟨h1, h2⟩ ⟨k1, k2⟩
    rcases h2 with rfl | h2
    · exact ⟨k1, k2⟩
    · exact ⟨reach_on n K i j k h2 h1 k1, by rcases k2 with rfl | k2; exact .inr h2; exact .inr k2⟩
/-- a bound that is known already adds nothing. -/
theorem reach_known {L : List Bd} (n : Nat) (b : Bd) (hK : ∀ c ∈ L ++ [b], c.ok n = true) (hb : b.av = true → b.bv = true → reach n L b.an b.bn = true) (i j : Nat) (hr : reach n (L ++ [b]) i j = true) : reach n L i j = true := by
  refine (reach_least n (L ++ [b]) (fun i j => reach n L i j = true ∧ (i = j ∨ j < n)) (fun i => ⟨reach_self n L i, .inl rfl⟩) (fun c hc h1 h2 => ⟨?_, .inr ?_⟩) ?_ i j hr).1
  · rcases List.mem_append.1 hc with h | h
    · exact reach_edge n L c h h1 h2
    · simp at h
      subst h
      exact hb h1 h2
  · have := hK c hc
    simp [Bd.ok, h2] at this
    omega
  · rintro i j k ⟨h1, h2⟩ ⟨k1, k2⟩
    rcases h2 with rfl | h2
    · exact ⟨k1, k2⟩
    · exact ⟨reach_on n L i j k h2 h1 k1, by rcases k2 with rfl | k2; exact .inr h2; exact .inr k2⟩
end Go.Proofs.YtappaokjlnpbnaaDoor.Rea
