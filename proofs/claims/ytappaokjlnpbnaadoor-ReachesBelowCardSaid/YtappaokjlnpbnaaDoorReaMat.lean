/- reaches.none; rows of bools, and where bounds lie. -/
import Derived.Test.YtappaokjlnpbnaaDoorReaAnd
namespace Go.Proofs.YtappaokjlnpbnaaDoor.Rea
open Go.RowKit
theorem none_any (v : Bool) (n vars : Nat) (hv : vars ≤ 64) (_hn : n < 18446744073709551616) (w : World) : Calls Tryd.prog 65 #[.agg #[.bool v, .int .u64 (n : Int)], .int .i64 (vars : Int)] w fun e w' => e = .returned (.bool (v && decide (vars ≤ n))) ∧ Below w.heap.size w w' := by
  have hd : decide ((vars : Int) ≤ (n : Int)) = decide (vars ≤ n) := by simp
  cases v with
  | false =>
    go_enter Tryd.func65, Tryd.ntmps65
    go_wp2
    go_ret
    exact ⟨rfl, (Below.refl _ w).alloc (Nat.le_refl _) _⟩
  | true =>
    go_enter Tryd.func65, Tryd.ntmps65
    go_wp2
    go_ret
    exact ⟨rfl, (Below.refl _ w).alloc (Nat.le_refl _) _⟩
/-- the bounds of a list, where they lie: each has four cells. -/
def Bds (w : World) (a : Option Addr) (L : List Bd) : Prop :=
  ∀ k (hk : k < L.length), ∃ b o, a = some ⟨b, o, none⟩ ∧ w.cell? ⟨b, o + k * 4, none⟩ = some (.bool L[k].av) ∧ w.cell? ⟨b, o + k * 4 + 1, none⟩ = some (.int .u64 (L[k].an : Int)) ∧ w.cell? ⟨b, o + k * 4 + 2, none⟩ = some (.bool L[k].bv) ∧ w.cell? ⟨b, o + k * 4 + 3, none⟩ = some (.int .u64 (L[k].bn : Int)) ∧ L[k].an < 18446744073709551616 ∧ L[k].bn < 18446744073709551616
theorem Bds.below {w w' : World} {a : Option Addr} {L : List Bd} (h : Bds w a L) (hb : Below w.heap.size w w') : Bds w' a L := by
  intro k hk
  obtain ⟨b, o, e, c0, c1, c2, c3, l1, l2⟩ := h k hk
  have hlt := World.block_lt_of_cell? w _ c0
  exact ⟨b, o, e, (hb.cell (p := ⟨b, o + k * 4, none⟩) hlt).trans c0, (hb.cell (p := ⟨b, o + k * 4 + 1, none⟩) hlt).trans c1, (hb.cell (p := ⟨b, o + k * 4 + 2, none⟩) hlt).trans c2, (hb.cell (p := ⟨b, o + k * 4 + 3, none⟩) hlt).trans c3, l1, l2⟩
def zs : Array Value := Array.replicate 4096 (.bool false)
theorem zero42 (w : World) : (zeroValue 102).run Tryd.prog w = .ok (.agg zs) w := by kernel_rfl
theorem zs_get (i : Nat) (h : i < 4096) : zs[i]? = some (.bool false) := by simp [zs, h]
theorem zs_size : zs.size = 4096 := by simp [zs]
/-- the program's 64 rows of 64, of which the first n are a matrix's. -/
def Mat (w : World) (R n : Nat) (M : Nat → Nat → Bool) : Prop := n ≤ 64 ∧ ∃ F : Nat → Bool, w.rowIs R 102 4096 (fun k => .bool (F k)) ∧ ∀ i j, i < n → j < 64 → F (i * 64 + j) = M i j
namespace Mat
variable {w w' : World} {R n : Nat} {M N : Nat → Nat → Bool}
theorem congr (h : Mat w R n M) (e : ∀ i j, i < n → j < 64 → M i j = N i j) : Mat w R n N := by
  obtain ⟨hn, F, h1, h2⟩ := h
  exact ⟨hn, F, h1, fun i j hi hj => (h2 i j hi hj).trans (e i j hi hj)⟩
theorem cell (h : Mat w R n M) {i j : Nat} (hi : i < n) (hj : j < 64) : w.cell? ⟨R, i * 64 + j, none⟩ = some (.bool (M i j)) := by
  obtain ⟨hn, F, h1, h2⟩ := h
  rw [h1.cell (by omega), h2 i j hi hj]
theorem frozen (h : Mat w R n M) (k : Nat) : w.frozen? ⟨R, k, none⟩ = false := by
  obtain ⟨_, F, h1, _⟩ := h
  exact h1.frozen k
theorem set (h : Mat w R n M) {i j : Nat} (_hi : i < n) (hj : j < 64) (b : Bool) : Mat (w.setCell ⟨R, i * 64 + j, none⟩ (.bool b)) R n (fun x y => if x = i ∧ y = j then b else M x y) := by
  obtain ⟨hn, F, h1, h2⟩ := h
  refine ⟨hn, fun k => if k = i * 64 + j then b else F k, (h1.set (i * 64 + j) (.bool b)).congr (by intro k _; dsimp only; split <;> rfl), ?_⟩
  intro x y hx hy
  dsimp only
  by_cases e : x = i ∧ y = j
  · rw [if_pos e, e.1, e.2, if_pos rfl]
  · rw [if_neg e, if_neg (by omega), h2 x y hx hy]
theorem of_block (h : Mat w R n M) (e : w'.heap[R]? = w.heap[R]?) : Mat w' R n M := by
  obtain ⟨hn, F, h1, h2⟩ := h
  exact ⟨hn, F, h1.of_block e, h2⟩
theorem below (h : Mat w R n M) (hb : Below w.heap.size w w') : Mat w' R n M := by
  have hlt : R < w.heap.size := by obtain ⟨_, F, h1, _⟩ := h; exact h1.lt
  exact h.of_block (hb.block R hlt)
theorem lt (h : Mat w R n M) : R < w.heap.size := by obtain ⟨_, F, h1, _⟩ := h; exact h1.lt
theorem range (h : Mat w R n M) {i : Nat} (hi : i < n) : w.rangeAt R (i * 64) (bl 64 (M i)) := by
  intro j v hv
  have hj : j < 64 := by have := (List.getElem?_eq_some_iff.1 hv).1; rwa [bl_length] at this
  rw [bl_get _ _ _ hj] at hv
  rw [h.cell hi hj, ← hv]
theorem there (h : Mat w R n M) {i : Nat} (hi : i < n) : w.there R (i * 64) 64 := fun j hj => ⟨by rw [h.cell hi hj]; rfl, h.frozen _⟩
end Mat
theorem rowIs_setCells {b : Nat} {t : TypeId} {m : Nat} : ∀ (vs : List Value) (o : Nat) (f : Nat → Value) (w : World), w.rowIs b t m f → (w.setCells b o vs).rowIs b t m (fun k => if o ≤ k then (vs[k - o]?).getD (f k) else f k)
  | [], o, f, w, h => by
    refine h.congr ?_
    intro k _
    split <;> simp
  | v :: r, o, f, w, h => by
    refine (rowIs_setCells r (o + 1) _ _ (h.set o v)).congr ?_
    intro k _
    by_cases h1 : o + 1 ≤ k
    · obtain ⟨q, hq⟩ : ∃ q, k - o = q + 1 := ⟨k - o - 1, by omega⟩
      have hq' : k - (o + 1) = q := by omega
      simp only [if_pos h1, if_pos (show o ≤ k by omega), if_neg (show ¬ k = o by omega), hq, hq', List.getElem?_cons_succ]
    · by_cases h2 : k = o
      · subst h2
        simp only [if_neg h1, if_pos (Nat.le_refl k), Nat.sub_self, List.getElem?_cons_zero, Option.getD_some, if_true]
      · simp only [if_neg h1, if_neg h2, if_neg (show ¬ o ≤ k by omega)]
theorem Mat.put {w : World} {R n : Nat} {M : Nat → Nat → Bool} (h : Mat w R n M) {i : Nat} (hi : i < n) (f : Nat → Bool) : Mat (w.setCells R (i * 64) (bl 64 f)) R n (fun x => if x = i then f else M x) := by
  obtain ⟨hn, F, h1, h2⟩ := h
  refine ⟨hn, fun k => if i * 64 ≤ k ∧ k < i * 64 + 64 then f (k - i * 64) else F k, (rowIs_setCells (bl 64 f) (i * 64) _ w h1).congr ?_, ?_⟩
  · intro k _
    dsimp only
    by_cases e : i * 64 ≤ k
    · rw [if_pos e]
      by_cases e2 : k < i * 64 + 64
      · rw [if_pos ⟨e, e2⟩, bl_get _ _ _ (by omega)]
        rfl
      · rw [if_neg (by omega), List.getElem?_eq_none (by rw [bl_length]; omega)]
        rfl
    · rw [if_neg e, if_neg (by omega)]
  · intro x y hx hy
    dsimp only
    by_cases e : x = i
    · subst e
      rw [if_pos rfl, if_pos (by omega), show x * 64 + y - x * 64 = y by omega]
    · rw [if_neg e, if_neg (by omega), h2 x y hx hy]
theorem mat_new (w : World) (n : Nat) (hn : n ≤ 64) : Mat (w.alloc (.cells zs 102)) w.heap.size n (fun _ _ => false) :=
  ⟨hn, fun _ => false, by have h := World.rowIs_alloc w zs 102 (fun _ => .bool false) (fun i hi => zs_get i (by rw [zs_size] at hi; exact hi)); rw [zs_size] at h; exact h, fun _ _ _ _ => rfl⟩
def ini (k i j : Nat) : Bool := i == j && decide (i < k)
/-- behind the diagonal, and k bounds. -/
def bnd (L : List Bd) (k i j : Nat) : Bool := i == j || (L.take k).any (fun b => b.edge i j)
end Go.Proofs.YtappaokjlnpbnaaDoor.Rea
