/- The document's Close: plain parts (rows with room behind them; Warshall on bits). -/
import Derived.Test.YtajilghlcfheiaaGreatDoorOBel
namespace Go.Proofs.YtajilghlcfheiaaGreatDoor.Ord
open Go.RowKit Go.Proofs.YtajilghlcfheiaaGreatDoorW.PrintWords
/-- n numbers, and room behind them. -/
def Rw (n cap : Nat) (w : World) (B : Nat) (f : Nat → Nat) : Prop := ∃ T : Nat → Value, n ≤ cap ∧ w.rowIs B 66 cap (fun j => if j < n then .int .u64 ((f j : Nat) : Int) else T j)
theorem Rw.cell {n cap : Nat} {w : World} {B : Nat} {f : Nat → Nat} (h : Rw n cap w B f) {i : Nat} (hi : i < n) : w.cell? ⟨B, i, none⟩ = some (.int .u64 ((f i : Nat) : Int)) := by
  obtain ⟨T, hc, hr⟩ := h
  rw [hr.cell (by omega), if_pos hi]
theorem Rw.frozen {n cap : Nat} {w : World} {B : Nat} {f : Nat → Nat} (h : Rw n cap w B f) (i : Nat) : w.frozen? ⟨B, i, none⟩ = false := by
  obtain ⟨T, hc, hr⟩ := h
  exact hr.frozen i
theorem Rw.set {n cap : Nat} {w : World} {B : Nat} {f : Nat → Nat} (h : Rw n cap w B f) {i : Nat} (hi : i < n) (g : Nat) : Rw n cap (w.setCell ⟨B, i, none⟩ (.int .u64 ((g : Nat) : Int))) B (upd f i g) := by
  obtain ⟨T, hc, hr⟩ := h
  refine ⟨T, hc, (hr.set i _).congr (fun j _ => ?_)⟩
  unfold upd
  by_cases e : j = i
  · subst e
    rw [if_pos rfl, if_pos hi, if_pos rfl]
  · rw [if_neg e, if_neg e]
theorem Rw.drew {n cap : Nat} {w : World} {B : Nat} {f : Nat → Nat} (h : Rw n cap w B f) : Rw n cap w.drew B f := by
  obtain ⟨T, hc, hr⟩ := h
  exact ⟨T, hc, hr.drew⟩
theorem Rw.below {n cap : Nat} {w w' : World} {B : Nat} {f : Nat → Nat} (h : Rw n cap w B f) (hb : Below w.heap.size w w') : Rw n cap w' B f := by
  obtain ⟨T, hc, c, hh, r⟩ := h
  exact ⟨T, hc, c, (hb.block B (Array.getElem?_eq_some_iff.1 hh).1).trans hh, r⟩
theorem Rw.nums {n cap : Nat} {w : World} {B : Nat} {f : Nat → Nat} (h : Rw n cap w B f) (hl : ∀ i, i < n → f i < 18446744073709551616) : Nums w (some ⟨B, 0, none⟩) ((List.range n).map f) := by
  refine ⟨fun x hx => ?_, fun _ => ⟨B, 0, rfl, ?_, fun j hj => ?_⟩⟩
  · obtain ⟨i, hi, rfl⟩ := List.mem_map.1 hx
    exact hl i (List.mem_range.1 hi)
  · obtain ⟨T, hc, c, hh, r⟩ := h
    exact (Array.getElem?_eq_some_iff.1 hh).1
  · have hjn : j < n := by simpa using hj
    rw [Nat.zero_add, h.cell hjn]
    simp
theorem row_rw {w : World} {base : Nat} {v : Value} {bs : List Nat} (h : Row w base v bs) (hn : bs.length ≠ 0) : ∃ B cap, v = .slice (some ⟨B, 0, none⟩) bs.length cap ∧ base ≤ B ∧ Rw bs.length cap w B (fun j => bs.getD j 0) := by
  unfold Row at h
  rw [intsN_length] at h
  have hlt := h.lt
  rcases h.2 with ⟨_, h0⟩ | ⟨g, cap, cur, rfl, _, hh, hle, _, hs, ht⟩
  · exact absurd h0 hn
  · refine ⟨g, cap, rfl, (hlt g rfl).1, fun j => cur.getD j undef, by omega, cur, hh, by omega, fun i hi => ?_⟩
    by_cases e : i < bs.length
    · show cur[i]? = some (if i < bs.length then Value.int .u64 ((bs.getD i 0 : Nat) : Int) else cur.getD i undef)
      rw [if_pos e]
      have h1 : (nums .u64 (intsN bs))[i]? = some (.int .u64 ((bs.getD i 0 : Nat) : Int)) := by simp [nums, intsN, e]
      rw [← h1, ← ht, List.getElem?_take_of_lt (by omega)]
      simp
    · show cur[i]? = some (if i < bs.length then Value.int .u64 ((bs.getD i 0 : Nat) : Int) else cur.getD i undef)
      rw [if_neg e]
      have : i < cur.size := by omega
      simp [this]
/-- one on each row. -/
def pw (k : Nat) : List Nat := (List.range k).map (2 ^ ·)
theorem pw_length (k : Nat) : (pw k).length = k := by simp [pw]
theorem pw_next (k : Nat) : pw (k + 1) = pw k ++ [2 ^ k] := by simp [pw, List.range_succ]
theorem pw_get {n i : Nat} (h : i < n) : (pw n).getD i 0 = 2 ^ i := by simp [pw, List.getD, h]
/-- the first k pairs are in. -/
structure Prf (n : Nat) (ps : List (Int × Int)) (k : Nat) (f : Nat → Nat) : Prop where
  lt : ∀ i, i < n → f i < 18446744073709551616
  bit : ∀ i j, i < n → ((f i).testBit j = true ↔ (i = j ∨ ((i : Int), (j : Int)) ∈ ps.take k))
  inr : InR n (ps.take k)
theorem prf_zero {n : Nat} {ps : List (Int × Int)} (h64 : n ≤ 64) : Prf n ps 0 (fun j => (pw n).getD j 0) := by
  refine ⟨fun i hi => ?_, fun i j hi => ?_, fun p hp => by simp at hp⟩
  · show (pw n).getD i 0 < _
    rw [pw_get hi, show 18446744073709551616 = 2 ^ 64 from rfl]
    exact Nat.pow_lt_pow_right (by omega) (by omega)
  · show ((pw n).getD i 0).testBit j = true ↔ _
    rw [pw_get hi, Nat.testBit_two_pow]
    simp
theorem Prf.next {n : Nat} {ps : List (Int × Int)} {k : Nat} {f : Nat → Nat} (h : Prf n ps k f) (h64 : n ≤ 64) (hk : k < ps.length) (x y : Nat) (hx : x < n) (hy : y < n) (e : ps[k] = ((x : Int), (y : Int))) : Prf n ps (k + 1) (upd f x (f x ||| 2 ^ y)) := by
  refine ⟨fun i hi => ?_, fun i j hi => ?_, fun p hp => ?_⟩
  · unfold upd
    split
    · rw [show 18446744073709551616 = 2 ^ 64 from rfl]
      exact Nat.or_lt_two_pow (h.lt x hx) (Nat.pow_lt_pow_right (by omega) (by omega))
    · exact h.lt i hi
  · rw [List.take_succ_eq_append_getElem hk, e, List.mem_append, List.mem_singleton, Prod.mk.injEq]
    unfold upd
    by_cases ei : i = x
    · subst ei
      rw [if_pos rfl, Nat.testBit_or, Bool.or_eq_true, h.bit i j hi, Nat.testBit_two_pow]
      simp
      constructor
      · rintro ((h | h) | h)
        · exact .inl h
        · exact .inr (.inl h)
        · exact .inr (.inr (by omega))
      · rintro (h | h | h)
        · exact .inl (.inl h)
        · exact .inl (.inr h)
        · exact .inr (by omega)
    · rw [if_neg ei, h.bit i j hi]
      constructor
      · rintro (h | h)
        · exact .inl h
        · exact .inr (.inl h)
      · rintro (h | h | h)
        · exact .inl h
        · exact .inr h
        · omega
  · rw [List.take_succ_eq_append_getElem hk, List.mem_append, List.mem_singleton] at hp
    rcases hp with hp | hp
    · exact h.inr p hp
    · rw [hp, e]
      simp
      omega
/-- Warshall: what leads through the first k is in. -/
structure Wv (n : Nat) (ps : List (Int × Int)) (k : Nat) (f : Nat → Nat) : Prop where
  base : Base n ps f
  sound : Sound n ps f
  lt : ∀ i, i < n → f i < 18446744073709551616
  tr : ∀ i m j, i < n → m < n → m < k → (f i).testBit m = true → (f m).testBit j = true → (f i).testBit j = true
theorem Prf.wv {n : Nat} {ps : List (Int × Int)} {k : Nat} {f : Nat → Nat} (h : Prf n ps k f) (hk : k = ps.length) : InR n ps ∧ Wv n ps 0 f := by
  have e : ps.take k = ps := by rw [hk]; exact List.take_length
  have hb := h.bit
  have hi := h.inr
  rw [e] at hb hi
  exact ⟨hi, ⟨fun i hin => (hb i i hin).2 (.inl rfl), fun i j hm hin => (hb i j hin).2 (.inr hm)⟩, fun i j hin ht => by
    rcases (hb i j hin).1 ht with rfl | hm
    · exact .refl _
    · exact .one hm, h.lt, fun i m j _ _ hm => by omega⟩
/-- the first i rows of a pass. -/
def pas (f : Nat → Nat) (k i : Nat) : Nat → Nat := fun a => if a < i ∧ (f a).testBit k = true then f a ||| f k else f a
theorem pas_zero (f : Nat → Nat) (k : Nat) : pas f k 0 = f := by
  funext a
  unfold pas
  rw [if_neg (by omega)]
theorem pas_k (f : Nat → Nat) (k i : Nat) : pas f k i k = f k := by
  unfold pas
  split
  · exact Nat.or_self _
  · rfl
theorem pas_here (f : Nat → Nat) (k i : Nat) : pas f k i i = f i := by
  unfold pas
  rw [if_neg (by omega)]
theorem pas_no {f : Nat → Nat} {k i : Nat} (h : (f i).testBit k = false) : pas f k (i + 1) = pas f k i := by
  funext a
  unfold pas
  by_cases e : a = i
  · subst e
    simp [h]
  · have e2 : a < i + 1 ↔ a < i := by omega
    simp only [e2]
theorem pas_yes {f : Nat → Nat} {k i : Nat} (h : (f i).testBit k = true) : pas f k (i + 1) = upd (pas f k i) i (f i ||| f k) := by
  funext a
  unfold upd
  by_cases e : a = i
  · subst e
    rw [if_pos rfl]
    unfold pas
    rw [if_pos ⟨by omega, h⟩]
  · rw [if_neg e]
    unfold pas
    have e2 : a < i + 1 ↔ a < i := by omega
    simp only [e2]
theorem pas_bit {f : Nat → Nat} {n k a j : Nat} (ha : a < n) : (pas f k n a).testBit j = true ↔ (f a).testBit j = true ∨ ((f a).testBit k = true ∧ (f k).testBit j = true) := by
  unfold pas
  by_cases h : (f a).testBit k = true
  · rw [if_pos ⟨ha, h⟩, Nat.testBit_or, Bool.or_eq_true]
    simp [h]
  · rw [if_neg (fun c => h c.2)]
    simp [h]
theorem pas_lt {n : Nat} {f : Nat → Nat} {k i : Nat} (hf : ∀ a, a < n → f a < 18446744073709551616) (hk : k < n) : ∀ a, a < n → pas f k i a < 18446744073709551616 := by
  intro a ha
  unfold pas
  split
  · rw [show 18446744073709551616 = 2 ^ 64 from rfl]
    exact Nat.or_lt_two_pow (hf a ha) (hf k hk)
  · exact hf a ha
theorem Wv.next {n : Nat} {ps : List (Int × Int)} {k : Nat} {f : Nat → Nat} (h : Wv n ps k f) (hk : k < n) : Wv n ps (k + 1) (pas f k n) := by
  refine ⟨⟨fun i hi => (pas_bit hi).2 (.inl (h.base.1 i hi)), fun i j hm hi => (pas_bit hi).2 (.inl (h.base.2 i j hm hi))⟩, fun i j hi hb => ?_, pas_lt h.lt hk, fun i m j hi hm hmk h1 h2 => ?_⟩
  · rcases (pas_bit hi).1 hb with hb | ⟨h1, h2⟩
    · exact h.sound i j hi hb
    · exact (h.sound i k hi h1).trans (h.sound k j hk h2)
  · rw [pas_bit hi] at h1
    rw [pas_bit hm] at h2
    rw [pas_bit hi]
    by_cases e : m = k
    · subst e
      have h1' : (f i).testBit m = true := h1.elim id (·.1)
      have h2' : (f m).testBit j = true := h2.elim id (·.2)
      exact .inr ⟨h1', h2'⟩
    · have hm' : m < k := by omega
      rcases h1 with h1 | ⟨h1, h3⟩
      · rcases h2 with h2 | ⟨h2, h4⟩
        · exact .inl (h.tr i m j hi hm hm' h1 h2)
        · exact .inr ⟨h.tr i m k hi hm hm' h1 h2, h4⟩
      · rcases h2 with h2 | ⟨h2, h4⟩
        · exact .inr ⟨h1, h.tr k m j hk hm hm' h3 h2⟩
        · exact .inr ⟨h1, h4⟩
theorem Wv.all {n : Nat} {ps : List (Int × Int)} {f : Nat → Nat} (hp : InR n ps) (h : Wv n ps n f) : ∀ i j, i < n → ((f i).testBit j = true ↔ Rch ps i j) :=
  shut_all hp h.base h.sound fun i hi j hj h1 k h2 => h.tr i j k hi hj hj h1 h2
theorem Wv.cl {n : Nat} {ps : List (Int × Int)} {f : Nat → Nat} (hp : InR n ps) (h : Wv n ps n f) : Cl n ps ((List.range n).map f) := by
  refine ⟨by simp, fun x hx => ?_, fun i j hi => ?_⟩
  · obtain ⟨i, hi, rfl⟩ := List.mem_map.1 hx
    exact h.lt i (List.mem_range.1 hi)
  · rw [show ((List.range n).map f).getD i 0 = f i by simp [List.getD, hi]]
    exact h.all hp i j hi
/-- no two of these lead to each other. -/
def Apr (f : Nat → Nat) (n i : Nat) : Prop := ∀ a b, a < i → b < n → a ≠ b → ¬ ((f a).testBit b = true ∧ (f b).testBit a = true)
def Aps (f : Nat → Nat) (i j : Nat) : Prop := ∀ b, b < j → i ≠ b → ¬ ((f i).testBit b = true ∧ (f b).testBit i = true)
theorem Apr.next {f : Nat → Nat} {n i : Nat} (h : Apr f n i) (h2 : Aps f i n) : Apr f n (i + 1) := by
  intro a b ha hb
  by_cases e : a = i
  · subst e
    exact h2 b hb
  · exact h a b (by omega) hb
theorem Aps.next {f : Nat → Nat} {i j : Nat} (h : Aps f i j) (h2 : i ≠ j → ¬ ((f i).testBit j = true ∧ (f j).testBit i = true)) : Aps f i (j + 1) := by
  intro b hb
  by_cases e : b = j
  · subst e
    exact h2
  · exact h b (by omega)
theorem Wv.anti {n : Nat} {ps : List (Int × Int)} {f : Nat → Nat} (hp : InR n ps) (h : Wv n ps n f) (ha : Apr f n n) : Anti n ps := by
  intro i j hi hj h1 h2
  by_cases e : i = j
  · exact e
  · exact absurd ⟨(h.all hp i j hi).2 h1, (h.all hp j i hj).2 h2⟩ (ha i j hi hj e)
theorem Wv.not_anti {n : Nat} {ps : List (Int × Int)} {f : Nat → Nat} (h : Wv n ps n f) {i j : Nat} (hi : i < n) (hj : j < n) (hne : i ≠ j) (h1 : (f i).testBit j = true) (h2 : (f j).testBit i = true) : ¬ Anti n ps := by
  intro ha
  exact hne (ha i j hi hj (h.sound i j hi h1) (h.sound j i hj h2))
theorem rowB_map {n : Nat} {f : Nat → Nat} {i j : Nat} (h64 : n ≤ 64) (hi : i < n) (hj : j < n) : rowB ((List.range n).map f) i j = (f i).testBit j := by
  rw [rowB_yes (by simpa using hi) (by omega) (by simpa using hj) (by omega)]
  simp
/-- what the document's Close tells. -/
def RefSays (n : Int) (ps : List (Int × Int)) (W0 : World) (e : Ending) (w' : World) : Prop :=
  Below W0.heap.size W0 w' ∧
  (((n < 1 ∨ 64 < n ∨ ¬ InR n.toNat ps) ∧ e = .returned (.tuple #[.slice none 0 0, .int .i64 1])) ∨
   ((1 ≤ n ∧ n ≤ 64 ∧ InR n.toNat ps) ∧ ¬ Anti n.toNat ps ∧ e = .returned (.tuple #[.slice none 0 0, .int .i64 9])) ∨
   ((1 ≤ n ∧ n ≤ 64 ∧ InR n.toNat ps) ∧ Anti n.toNat ps ∧ ∃ B cap rows, e = .returned (.tuple #[.slice (some ⟨B, 0, none⟩) n.toNat cap, .int .i64 0]) ∧ Cl n.toNat ps rows ∧ Nums w' (some ⟨B, 0, none⟩) rows))
end Go.Proofs.YtajilghlcfheiaaGreatDoor.Ord
