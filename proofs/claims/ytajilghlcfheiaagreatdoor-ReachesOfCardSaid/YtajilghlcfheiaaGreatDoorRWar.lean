/- The document's reaches: a row that grows until no bound adds to it. Plain. -/
import Derived.Test.YtajilghlcfheiaaGreatDoorRea
namespace Go.Proofs.YtajilghlcfheiaaGreatDoor.Rea
/-- a row that has its own, only what is reached, and is closed, tells what is reached. -/
theorem grown {n : Nat} {L : List Bd} {v : Nat} {f : Nat → Bool} (h0 : f v = true) (hs : ∀ j, f j = true → reach n L v j = true) (hc : ∀ b ∈ L, b.av = true → b.bv = true → f b.an = true → f b.bn = true) (j : Nat) : f j = reach n L v j := by
  cases h : reach n L v j with
  | true => exact reach_least n L (fun a b => f a = true → f b = true) (fun _ h => h) (fun b hb h1 h2 h3 => hc b hb h1 h2 h3) (fun _ _ _ h1 h2 h3 => h2 (h1 h3)) v j h h0
  | false =>
    cases e : f j with
    | false => rfl
    | true => rw [hs j e] at h; cases h
/-- one more is set. -/
def put (f : Nat → Bool) (x : Nat) : Nat → Bool := fun j => if j = x then true else f j
theorem put_sound {n : Nat} {L : List Bd} {v : Nat} {f : Nat → Bool} (hs : ∀ j, f j = true → reach n L v j = true) {b : Bd} (hb : b ∈ L) (h1 : b.av = true) (h2 : b.bv = true) (ha : b.an < n) (h3 : f b.an = true) : ∀ j, put f b.bn j = true → reach n L v j = true := by
  intro j hj
  unfold put at hj
  by_cases e : j = b.bn
  · subst e
    exact reach_on n L v b.an b.bn ha (hs _ h3) (reach_edge n L b hb h1 h2)
  · rw [if_neg e] at hj
    exact hs j hj
/-- how many are not set yet. -/
def left (f : Nat → Bool) : Nat → Nat
  | 0 => 0
  | k + 1 => left f k + (if f k then 0 else 1)
theorem left_le (f : Nat → Bool) (x : Nat) : ∀ k, left (put f x) k ≤ left f k := by
  intro k
  induction k with
  | zero => exact Nat.le_refl _
  | succ k ih =>
    rw [left, left]
    have : (if put f x k = true then 0 else 1) ≤ (if f k = true then 0 else 1) := by
      unfold put
      by_cases e : k = x
      · rw [if_pos e]; simp
      · rw [if_neg e]; exact Nat.le_refl _
    omega
theorem left_lt {f : Nat → Bool} {x n : Nat} (hx : x < n) (hf : f x = false) : left (put f x) n < left f n := by
  induction n with
  | zero => omega
  | succ n ih =>
    rw [left, left]
    by_cases e : x = n
    · subst e
      have := left_le f x x
      have e1 : put f x x = true := by unfold put; rw [if_pos rfl]
      rw [if_pos e1, hf]
      simp
      omega
    · have h1 := ih (by omega)
      have e1 : put f x n = f n := by unfold put; rw [if_neg (fun h => e h.symm)]
      rw [e1]
      omega
end Go.Proofs.YtajilghlcfheiaaGreatDoor.Rea
