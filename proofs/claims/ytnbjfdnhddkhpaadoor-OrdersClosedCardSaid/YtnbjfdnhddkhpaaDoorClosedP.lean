/- What Close tells is an order, has all pairs, and is the least that does: plain, and the law's walk. -/
import Derived.Test.YtnbjfdnhddkhpaaDoorPapp
import Derived.Test.YtnbjfdnhddkhpaaDoorFine
import Derived.Deep.QuietTactic
import Derived.BigQuiet
import Derived.IntWalk
namespace Go.Proofs.YtnbjfdnhddkhpaaDoor
open Go.RowKit Go.Proofs.YtnbjfdnhddkhpaaDoorW.PrintWords
theorem Cl.row {n : Nat} {ps : List (Int × Int)} {rows : List Nat} (h : Cl n ps rows) (h64 : n ≤ 64) {i j : Nat} (hi : i < n) (hj : j < n) : rowB rows i j = true ↔ Rch ps i j := by
  rw [rowB_yes (by rw [h.len]; exact hi) (by omega) (by rw [h.len]; exact hj) (by omega), ← h.bit i j hi]
  simp [List.getD, show i < rows.length by rw [h.len]; exact hi]
theorem Cl.pair {n : Nat} {ps : List (Int × Int)} {rows : List Nat} (h : Cl n ps rows) (h64 : n ≤ 64) {x y : Nat} (hx : x < n) (hy : y < n) (hm : ((x : Int), (y : Int)) ∈ ps) : rowB rows x y = true := (h.row h64 hx hy).2 (.one hm)
theorem Cl.both {n : Nat} {ps : List (Int × Int)} {rows : List Nat} (h : Cl n ps rows) (ha : Anti n ps) (h64 : n ≤ 64) {i j : Nat} (hi : i < n) (hj : j < n) : (rowB rows i j && rowB rows j i) = decide (i = j) := by
  rw [Bool.eq_iff_iff, Bool.and_eq_true, h.row h64 hi hj, h.row h64 hj hi, decide_eq_true_eq]
  constructor
  · rintro ⟨h1, h2⟩
    exact ha i j hi hj h1 h2
  · rintro rfl
    exact ⟨.refl _, .refl _⟩
theorem Cl.on {n : Nat} {ps : List (Int × Int)} {rows : List Nat} (h : Cl n ps rows) (h64 : n ≤ 64) {i j k : Nat} (hi : i < n) (hj : j < n) (hk : k < n) (h1 : rowB rows i j = true) (h2 : rowB rows j k = true) : rowB rows i k = true :=
  (h.row h64 hi hk).2 (((h.row h64 hi hj).1 h1).trans ((h.row h64 hj hk).1 h2))
theorem InR.more {n : Nat} {ps : List (Int × Int)} (h : InR n ps) {a b : Nat} (ha : a < n) (hb : b < n) : InR n (ps ++ [((a : Int), (b : Int))]) := by
  intro p hp
  rcases List.mem_append.1 hp with hp | hp
  · exact h p hp
  · rw [List.mem_singleton.1 hp]
    simp
    omega
theorem rch_more {ps : List (Int × Int)} {a b i j : Nat} (h : Rch (ps ++ [((a : Int), (b : Int))]) i j) : Rch ps i j ∨ (Rch ps i a ∧ Rch ps b j) := by
  induction h with
  | refl => exact .inl (.refl _)
  | step _ hm ih =>
    rcases List.mem_append.1 hm with hm | hm
    · rcases ih with ih | ⟨h1, h2⟩
      · exact .inl (.step ih hm)
      · exact .inr ⟨h1, .step h2 hm⟩
    · have e := List.mem_singleton.1 hm
      obtain ⟨e1, e2⟩ := Prod.mk.inj e
      obtain rfl := Int.ofNat.inj e1
      obtain rfl := Int.ofNat.inj e2
      rcases ih with ih | ⟨h1, _⟩
      · exact .inr ⟨ih, .refl _⟩
      · exact .inr ⟨h1, .refl _⟩
theorem more_self {ps : List (Int × Int)} {a b : Nat} : Rch (ps ++ [((a : Int), (b : Int))]) a b := .one (by simp)
theorem more_mono {ps : List (Int × Int)} {a b i j : Nat} (h : Rch ps i j) : Rch (ps ++ [((a : Int), (b : Int))]) i j := h.mono (fun _ hp => List.mem_append.2 (.inl hp))
theorem rch_known {ps : List (Int × Int)} {a b i j : Nat} (hk : Rch ps a b) : Rch (ps ++ [((a : Int), (b : Int))]) i j ↔ Rch ps i j :=
  ⟨fun h => by
    rcases rch_more h with h | ⟨h1, h2⟩
    · exact h
    · exact (h1.trans hk).trans h2, more_mono⟩
theorem anti_known {n : Nat} {ps : List (Int × Int)} {a b : Nat} (hk : Rch ps a b) (h : Anti n ps) : Anti n (ps ++ [((a : Int), (b : Int))]) :=
  fun i j hi hj h1 h2 => h i j hi hj ((rch_known hk).1 h1) ((rch_known hk).1 h2)
theorem Cl.known {n : Nat} {ps : List (Int × Int)} {a b : Nat} {rows : List Nat} (hk : Rch ps a b) (h : Cl n (ps ++ [((a : Int), (b : Int))]) rows) : Cl n ps rows := ⟨h.len, h.lt, fun i j hi => (h.bit i j hi).trans (rch_known hk)⟩
theorem anti_more {n : Nat} {ps : List (Int × Int)} {a b : Nat} (hn : ¬ Rch ps a b) (ha : a < n) (hb : b < n) (h : Anti n ps) : Anti n (ps ++ [((a : Int), (b : Int))]) ↔ ¬ Rch ps b a := by
  constructor
  · intro hm hk
    have := hm a b ha hb more_self (more_mono hk)
    subst this
    exact hn (.refl _)
  · intro hk i j hi hj h1 h2
    rcases rch_more h1 with h1 | ⟨h1, h3⟩
    · rcases rch_more h2 with h2 | ⟨h2, h4⟩
      · exact h i j hi hj h1 h2
      · exact absurd ((h4.trans h1).trans h2) hk
    · rcases rch_more h2 with h2 | ⟨h2, h4⟩
      · exact absurd ((h3.trans h2).trans h1) hk
      · exact absurd (h4.trans h1) hk
theorem prs_lit (W : World) (x y : Nat) (hx : x < 100) (hy : y < 100) : Prs (W.alloc (.cells #[.int .i64 (x : Int), .int .i64 (y : Int)] 35)) (some ⟨W.heap.size, 0, none⟩) [((x : Int), (y : Int))] := prs_lit1 W x y hx hy
end Go.Proofs.YtnbjfdnhddkhpaaDoor
