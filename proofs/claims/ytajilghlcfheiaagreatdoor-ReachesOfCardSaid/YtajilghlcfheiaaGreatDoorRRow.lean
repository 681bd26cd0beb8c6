/- The document's reaches: a row in memory, and the rows that are done. Plain. -/
import Derived.Test.YtajilghlcfheiaaGreatDoorRWar
import Derived.Test.YtajilghlcfheiaaGreatDoorBookM
namespace Go.Proofs.YtajilghlcfheiaaGreatDoor.Rea
open Go.RowKit Go.Proofs.YtajilghlcfheiaaGreatDoorW.PrintWords
set_option maxRecDepth 20000
/-- what memory says. -/
def rdB (w : World) (B j : Nat) : Bool :=
  match w.cell? ⟨B, j, none⟩ with
  | some (.bool b) => b
  | _ => false
theorem left_congr {f g : Nat → Bool} : ∀ n, (∀ j, j < n → f j = g j) → left f n = left g n
  | 0, _ => rfl
  | n + 1, h => by rw [left, left, left_congr n (fun j hj => h j (by omega)), h n (by omega)]
theorem rdB_left {w : World} {B n : Nat} {f : Nat → Bool} (h : w.rowIs B 4 n (fun j => .bool (f j))) : left (rdB w B) n = left f n :=
  left_congr n fun j hj => by unfold rdB; rw [h.cell hj]
/-- a row under way. -/
def Gr (n : Nat) (L : List Bd) (v : Nat) (f : Nat → Bool) : Prop := f v = true ∧ ∀ j, f j = true → reach n L v j = true
/-- the pass over the first k bounds. -/
def Inn (n : Nat) (L : List Bd) (v k : Nat) (f f' : Nat → Bool) (more : Bool) : Prop :=
  Gr n L v f' ∧ ((more = false ∧ f' = f ∧ ∀ b ∈ L.take k, b.av = true → b.bv = true → f b.an = true → f b.bn = true) ∨ (more = true ∧ left f' n < left f n))
theorem Gr.start (n : Nat) (L : List Bd) (v : Nat) : Gr n L v (put (fun _ => false) v) := by
  refine ⟨by unfold put; rw [if_pos rfl], fun j hj => ?_⟩
  unfold put at hj
  by_cases e : j = v
  · subst e
    exact reach_self n L j
  · rw [if_neg e] at hj
    cases hj
theorem Inn.start {n : Nat} {L : List Bd} {v : Nat} {f : Nat → Bool} (h : Gr n L v f) : Inn n L v 0 f f false := ⟨h, .inl ⟨rfl, rfl, fun b hb => by simp at hb⟩⟩
theorem Inn.keep {n : Nat} {L : List Bd} {v k : Nat} {f f' : Nat → Bool} {more : Bool} (h : Inn n L v k f f' more) (hk : k < L.length) (hc : L[k].av = true → L[k].bv = true → f' L[k].an = true → f' L[k].bn = true) : Inn n L v (k + 1) f f' more := by
  refine ⟨h.1, ?_⟩
  rcases h.2 with ⟨e, rfl, h1⟩ | h1
  · refine .inl ⟨e, rfl, fun b hb => ?_⟩
    rw [List.take_add_one, List.getElem?_eq_getElem hk] at hb
    rcases List.mem_append.1 hb with hb | hb
    · exact h1 b hb
    · simp at hb
      subst hb
      exact hc
  · exact .inr h1
theorem put_left {n : Nat} {f : Nat → Bool} {x : Nat} (hx : x < n) (hf : f x = false) : left (put f x) n < left f n := left_lt hx hf
theorem Inn.put {n : Nat} {L : List Bd} {v k : Nat} {f f' : Nat → Bool} {more : Bool} (h : Inn n L v k f f' more) (hk : k < L.length) (h1 : L[k].av = true) (h2 : L[k].bv = true) (ha : L[k].an < n) (hb : L[k].bn < n) (h3 : f' L[k].an = true) (h4 : f' L[k].bn = false) :
    Inn n L v (k + 1) f (put f' L[k].bn) true := by
  refine ⟨⟨?_, put_sound h.1.2 (List.getElem_mem hk) h1 h2 ha h3⟩, .inr ⟨rfl, ?_⟩⟩
  · unfold Rea.put
    split
    · rfl
    · exact h.1.1
  · have hl := left_lt (n := n) hb h4
    rcases h.2 with ⟨_, rfl, _⟩ | ⟨_, h5⟩
    · exact hl
    · exact Nat.lt_trans hl h5
/-- a pass that set nothing. -/
theorem Inn.done {n : Nat} {L : List Bd} {v : Nat} {f f' : Nat → Bool} {k : Nat} (h : Inn n L v k f f' false) (hk : k = L.length) : f' = f ∧ ∀ j, f j = reach n L v j := by
  rcases h.2 with ⟨_, rfl, h1⟩ | ⟨h1, _⟩
  · rw [hk, List.take_length] at h1
    exact ⟨rfl, fun j => grown h.1.1 h.1.2 h1 j⟩
  · cases h1
/-- the rows that are done, in their order, and the list of them. -/
def outsL (g : Nat → Nat) (n k : Nat) : List Value := (List.range k).map fun i => .slice (some ⟨g i, 0, none⟩) n n
theorem outsL_length (g : Nat → Nat) (n k : Nat) : (outsL g n k).length = k := by simp [outsL]
theorem outsL_get (g : Nat → Nat) (n k i : Nat) (h : i < k) : (outsL g n k)[i]? = some (.slice (some ⟨g i, 0, none⟩) n n) := by simp [outsL, h]
def Orow (base : Nat) (w : World) (v : Value) (k n : Nat) (L : List Bd) : Prop :=
  base ≤ w.heap.size ∧ ∃ g : Nat → Nat, w.ownsRow base 125 1 v k (outsL g n k) ∧ ∀ i, i < k → base ≤ g i ∧ v.ownBlock ≠ some (g i) ∧ w.rowIs (g i) 4 n (fun j => .bool (reach n L i j))
theorem Orow.nil (base : Nat) (w : World) (hb : base ≤ w.heap.size) (n : Nat) (L : List Bd) : Orow base w (.slice none 0 0) 0 n L := ⟨hb, fun _ => 0, World.ownsRow_nil w base 125 1, fun i hi => by omega⟩
theorem Orow.below {base : Nat} {w w' : World} {v : Value} {k n : Nat} {L : List Bd} (h : Orow base w v k n L) (hb : Below w.heap.size w w') : Orow base w' v k n L := by
  obtain ⟨h0, g, h1, h2⟩ := h
  exact ⟨Nat.le_trans h0 hb.size, g, pw_own_below h1 hb, fun i hi => ⟨(h2 i hi).1, (h2 i hi).2.1, (h2 i hi).2.2.of_block (hb.block _ (h2 i hi).2.2.lt)⟩⟩
/-- what is appended, and what comes of it. -/
theorem Orow.next {base : Nat} {w w2 w3 : World} {v v1 : Value} {k n : Nat} {L : List Bd} {f : Nat → Bool} {xs : List Value} (h : Orow base w v k n L) (hb : Below w.heap.size w w2) (hr : w2.rowIs w.heap.size 4 n (fun j => .bool (f j))) (hf : ∀ j, f j = reach n L k j)
    (hx : ∃ g : Nat → Nat, xs = outsL g n k ∧ ∀ i, i < k → base ≤ g i ∧ v.ownBlock ≠ some (g i) ∧ w2.rowIs (g i) 4 n (fun j => .bool (reach n L i j)))
    (hv : ∀ b, v.ownBlock = some b → b < w.heap.size)
    (ho : w3.ownsRow base 125 1 v1 (k + 1) (xs ++ [.slice (some ⟨w.heap.size, 0, none⟩) n n])) (hg : w2.grownBy w3 v.ownBlock) (hat : v1.ownBlock = v.ownBlock ∨ ∃ b, v1.ownBlock = some b ∧ w2.heap.size ≤ b) : Orow base w3 v1 (k + 1) n L := by
  obtain ⟨g, rfl, h2⟩ := hx
  have hs := hr.lt
  refine ⟨Nat.le_trans h.1 (Nat.le_trans hb.size hg.size), fun i => if i = k then w.heap.size else g i, ?_, fun i hi => ?_⟩
  · have e : outsL (fun i => if i = k then w.heap.size else g i) n (k + 1) = outsL g n k ++ [.slice (some ⟨w.heap.size, 0, none⟩) n n] := by
      unfold outsL
      rw [List.range_succ, List.map_append]
      congr 1
      · apply List.map_congr_left
        intro i hi
        rw [List.mem_range] at hi
        simp only [show ¬ i = k by omega, if_false]
      · simp
    rw [e]
    exact ho
  · have key : ∀ B, B < w2.heap.size → v.ownBlock ≠ some B → v1.ownBlock ≠ some B := by
      intro B hB hne h1
      rcases hat with hat | ⟨b, hb1, hb2⟩
      · exact hne (hat ▸ h1)
      · rw [hb1] at h1
        injection h1 with h1
        omega
    by_cases e : i = k
    · subst e
      simp only [if_true]
      have hne : v.ownBlock ≠ some w.heap.size := fun h1 => by have := hv _ h1; omega
      exact ⟨h.1, key _ hs hne, (hr.of_block (hg.block _ hs (fun h1 => hne h1.symm))).congr (fun j _ => by rw [hf j])⟩
    · simp only [e, if_false]
      obtain ⟨p1, p2, p3⟩ := h2 i (by omega)
      exact ⟨p1, key _ p3.lt p2, p3.of_block (hg.block _ p3.lt (fun h1 => p2 h1.symm))⟩
theorem Orow.row {base : Nat} {w : World} {v : Value} {k n : Nat} {L : List Bd} (h : Orow base w v k n L) : ∃ xs : List Value, xs.length = k ∧ w.ownsRow base 125 1 v xs.length xs ∧ ∃ g : Nat → Nat, xs = outsL g n k ∧ ∀ i, i < k → base ≤ g i ∧ v.ownBlock ≠ some (g i) ∧ w.rowIs (g i) 4 n (fun j => .bool (reach n L i j)) := by
  obtain ⟨_, g, h1, h2⟩ := h
  exact ⟨outsL g n k, outsL_length g n k, by rw [outsL_length]; exact h1, g, rfl, h2⟩
theorem Orow.is {base : Nat} {w : World} {v : Value} {n : Nat} {L : List Bd} (h : Orow base w v n n L) : ∃ a c, v = .slice a n c ∧ IsM w a n (reach n L) := by
  obtain ⟨_, g, h1, h2⟩ := h
  obtain ⟨A, c, rfl⟩ := own_slice h1
  refine ⟨A, c, rfl, fun i hi => ?_⟩
  obtain ⟨O, cap, e, _, _⟩ := h1.form (show 0 < n by omega)
  injection e with e
  subst e
  refine ⟨O, rfl, g i, ?_, fun j hj => (h2 i hi).2.2.cell hj⟩
  have := h1.cells (g := O) rfl i _ (outsL_get g n n i hi)
  rwa [add_plain] at this
/-- one more to go? -/
def mo (v : Value) : Nat :=
  match v with
  | .bool true => 1
  | _ => 0
theorem Inn.less {n : Nat} {L : List Bd} {v k : Nat} {f f' : Nat → Bool} {more : Bool} (h : Inn n L v k f f' more) : 2 * left f' n + mo (.bool more) < 2 * left f n + mo (.bool true) := by
  rcases h.2 with ⟨rfl, rfl, _⟩ | ⟨rfl, h1⟩
  · simp [mo]
  · simp [mo]
    omega
theorem row_start (w : World) (n k : Nat) (hk : k < n) : (w.alloc (.cells ((madeCells #[Value.bool false] n).setIfInBounds k (.bool true)) 4)).rowIs w.heap.size 4 n (fun j => .bool (put (fun _ => false) k j)) := by
  have h := World.rowIs_alloc w ((madeCells #[Value.bool false] n).setIfInBounds k (.bool true)) 4 (fun j => .bool (put (fun _ => false) k j)) (fun i hi => by
    have hi' : i < n := by simpa [size_madeCells] using hi
    unfold put
    rw [Array.getElem?_setIfInBounds]
    by_cases e : k = i
    · subst e
      simp [size_madeCells, hk]
    · rw [if_neg e, if_neg (fun h => e h.symm)]
      simp [madeCells, hi', Nat.mod_one])
  have e : ((madeCells #[Value.bool false] n).setIfInBounds k (.bool true)).size = n := by simp [size_madeCells]
  rw [e] at h
  exact h
theorem row_put {w : World} {B n : Nat} {f : Nat → Bool} (h : w.rowIs B 4 n (fun j => .bool (f j))) (x : Nat) : (w.setCell ⟨B, x, none⟩ (.bool true)).rowIs B 4 n (fun j => .bool (put f x j)) :=
  (h.set x (.bool true)).congr fun j _ => by
    unfold put
    by_cases e : j = x
    · rw [if_pos e, if_pos e]
    · rw [if_neg e, if_neg e]
/-- the next bound may be, or may not. -/
theorem all_take {n : Nat} {L : List Bd} {k : Nat} (hk : k = L.length) (h : ∀ b ∈ L.take k, b.ok n = true) : ∀ b ∈ L, b.ok n = true := by
  rw [hk, List.take_length] at h
  exact h
theorem ok_lt {n : Nat} {b : Bd} (h : b.ok n = true) : (b.av = true → b.an < n) ∧ (b.bv = true → b.bn < n) := by
  unfold Bd.ok at h
  simp at h
  exact ⟨fun e => h.1.resolve_left (by rw [e]; simp), fun e => h.2.resolve_left (by rw [e]; simp)⟩
end Go.Proofs.YtajilghlcfheiaaGreatDoor.Rea
