/- ReachesOf: what both tell, as one. -/
import Derived.Test.YtajilghlcfheiaaGreatDoorRTwin
import Derived.Test.YtajilghlcfheiaaGreatDoorRRef
import Derived.Test.YtajilghlcfheiaaGreatDoorRBook
import Derived.Test.YtajilghlcfheiaaGreatDoorApartR
namespace Go.Proofs.YtajilghlcfheiaaGreatDoor.Rea
open Go.RowKit Go.Proofs.YtajilghlcfheiaaGreatDoorW.PrintWords
set_option maxRecDepth 100000
theorem own_low {w : World} {base b2 : Nat} {e : TypeId} {size n : Nat} {v : Value} {xs : List Value} (h : w.ownsRow base e size v n xs) (hb : b2 ≤ base) : w.ownsRow b2 e size v n xs := by
  refine ⟨h.1, ?_⟩
  rcases h.2 with h0 | ⟨g, cap, cur, e1, h1, h2⟩
  · exact .inl h0
  · exact .inr ⟨g, cap, cur, e1, Nat.le_trans hb h1, h2⟩
def F0 (j : Nat) : Value := if j = 0 then .int .i64 0 else .slice none 0 0
theorem book_new (w : World) : (w.alloc (.cells #[.int .i64 0, .slice none 0 0, .slice none 0 0, .slice none 0 0, .slice none 0 0, .slice none 0 0, .slice none 0 0, .slice none 0 0, .slice none 0 0, .slice none 0 0, .slice none 0 0, .slice none 0 0, .slice none 0 0, .slice none 0 0, .slice none 0 0, .slice none 0 0] 61)).rowIs w.heap.size 61 16 F0 :=
  World.rowIs_alloc w _ _ F0 (fun i hi => by
    have hi' : i < 16 := hi
    have : i = 0 ∨ i = 1 ∨ i = 2 ∨ i = 3 ∨ i = 4 ∨ i = 5 ∨ i = 6 ∨ i = 7 ∨ i = 8 ∨ i = 9 ∨ i = 10 ∨ i = 11 ∨ i = 12 ∨ i = 13 ∨ i = 14 ∨ i = 15 := by omega
    rcases this with rfl | rfl | rfl | rfl | rfl | rfl | rfl | rfl | rfl | rfl | rfl | rfl | rfl | rfl | rfl | rfl <;> rfl)
theorem lit_below (w : World) (o : Obj) : Below w.heap.size w (w.alloc o) := (Below.refl _ w).alloc (Nat.le_refl _) _
theorem own_below {w w' : World} {base : Nat} {e : TypeId} {size n : Nat} {v : Value} {xs : List Value} (h : w.ownsRow base e size v n xs) (hb : Below w.heap.size w w') : w'.ownsRow base e size v n xs :=
  World.ownsRow.kept (row := none) h ⟨hb.os, hb.tape, hb.output, hb.size, fun k hk _ => hb.block k hk⟩ (by cases v.ownBlock <;> simp)
theorem blk_one {v g : Value} {n q k : Nat} (h : Blk [(⟨v, g, n, q⟩ : HL)] k) : v.ownBlock = some k := by
  obtain ⟨h, hh, hk⟩ := h
  rw [List.mem_singleton.1 hh] at hk
  exact hk
theorem own_rowIs {w : World} {base B n : Nat} {e : TypeId} {f : Nat → Value} (h : w.rowIs B e n f) (hb : base ≤ B) (hn : n ≤ 1000) : ∃ xs, w.ownsRow base e 1 (.slice (some ⟨B, 0, none⟩) n n) n xs := by
  obtain ⟨c, hc, hs, _⟩ := h
  exact ⟨c.toList, by simp [hs], .inr ⟨B, n, c, rfl, hb, hc, Nat.le_refl _, by unfold maxLen; omega, by rw [hs, Nat.mul_one], List.take_of_length_le (by simp [hs])⟩⟩
theorem row_twin {w : World} {base B n : Nat} {L : List Bd} (hn : n = L.length) (hm : n ≤ 100000) (hB : base ≤ B) (h : w.heap[B]? = some (.cells (flat (L ++ [mark])).toArray 99 (0, 0))) : w.ownsRow base 99 4 (.slice (some ⟨B, 0, none⟩) n (n + 1)) n (flat L) := by
  refine ⟨by rw [flat_length, hn], .inr ⟨B, n + 1, _, rfl, hB, h, by omega, by unfold maxLen; omega, by rw [List.size_toArray, flat_length, List.length_append, hn]; rfl, ?_⟩⟩
  rw [List.toList_toArray, flat_append, List.take_append_of_le_length (by rw [flat_length, hn]; omega)]
  exact List.take_of_length_le (by rw [flat_length, hn]; omega)
theorem twin_fit {L : List Bd} (h : Fit L) : Fit (L ++ [mark]) := by
  intro b hb
  rcases List.mem_append.1 hb with hb | hb
  · exact h b hb
  · rw [List.mem_singleton.1 hb]
    decide
theorem bds_front {w : World} {a : Option Addr} {L K : List Bd} (h : Bds w a (L ++ K)) : Bds w a L := by
  have := h.take L.length
  rwa [List.take_left'] at this
  rfl
/-- what either tells: an error, how many rows, and what they say. -/
def rofF (n : Int) (m : Nat) (L : List Bd) : Int × Nat × (Nat → Nat → Bool) :=
  if n < 0 ∨ 64 < n ∨ 256 < m then (3, 0, fun _ _ => false) else if L.all (·.ok n.toNat) = true then (0, n.toNat, reach n.toNat L) else (1, 0, fun _ _ => false)
/-- rows that lie in blocks of their own, one above the other. -/
def Mine (base : Nat) (w : World) (A : Option Addr) (m : Nat) (M : Nat → Nat → Bool) (g : Nat → Nat) : Prop :=
  (A = none ∧ m = 0) ∨ ∃ O, A = some ⟨O, 0, none⟩ ∧ base ≤ O ∧ w.rowIs O 125 m (fun x => .slice (some ⟨g x, 0, none⟩) m m) ∧ (∀ x, x < m → O < g x ∧ w.rowIs (g x) 4 m (fun j => .bool (M x j))) ∧ ∀ x y, x < y → y < m → g x < g y
theorem Mine.tch {X : Nat → Prop} {base : Nat} {w w' : World} {A : Option Addr} {m : Nat} {M : Nat → Nat → Bool} {g : Nat → Nat} (h : Mine base w A m M g) (ht : Tch X w w') (hx : ∀ k, k < w.heap.size → ¬ X k) : Mine base w' A m M g := by
  rcases h with h | ⟨O, h0, h1, h2, h3, h4⟩
  · exact .inl h
  · exact .inr ⟨O, h0, h1, ht.row h2 (hx _ h2.lt), fun x hxm => ⟨(h3 x hxm).1, ht.row (h3 x hxm).2 (hx _ (h3 x hxm).2.lt)⟩, h4⟩
theorem Mine.is {base : Nat} {w : World} {A : Option Addr} {m : Nat} {M : Nat → Nat → Bool} {g : Nat → Nat} (h : Mine base w A m M g) : IsM w A m M := by
  intro i hi
  rcases h with ⟨_, h⟩ | ⟨O, h0, h1, h2, h3, h4⟩
  · omega
  · exact ⟨O, h0, g i, h2.cell hi, fun j hj => (h3 i hi).2.cell hj⟩
theorem Mine.blk {base : Nat} {w : World} {A : Option Addr} {m : Nat} {M : Nat → Nat → Bool} {g : Nat → Nat} (h : Mine base w A m M g) :
    (∀ i, i < m → base ≤ g i ∧ g i < w.heap.size ∧ ∀ O, A = some ⟨O, 0, none⟩ → O < g i) ∧ (∀ k, (Value.slice A m m).ownBlock = some k → base ≤ k ∧ k < w.heap.size ∧ A = some ⟨k, 0, none⟩) ∧ ∀ i j, i < m → j < m → i ≠ j → g i ≠ g j := by
  rcases h with ⟨rfl, rfl⟩ | ⟨O, rfl, h1, h2, h3, h4⟩
  · exact ⟨fun i hi => by omega, (fun k hk => by cases hk), fun i j hi => by omega⟩
  · refine ⟨fun i hi => ⟨by have := (h3 i hi).1; omega, (h3 i hi).2.lt, fun O' hO => by cases hO; exact (h3 i hi).1⟩, (fun k hk => by cases hk; exact ⟨h1, h2.lt, rfl⟩), fun i j hi hj hne e => ?_⟩
    rcases Nat.lt_or_ge i j with h | h
    · have := h4 i j h hj
      omega
    · have := h4 j i (by omega) hi
      omega
theorem Mine.own1 {base b : Nat} {w : World} {A : Option Addr} {m : Nat} {M : Nat → Nat → Bool} {g : Nat → Nat} (h : Mine base w A m M g) (hb : b ≤ base) (hm : m ≤ 64) (i : Nat) (hi : i < m) : ∃ xs, w.ownsRow b 4 1 (.slice (some ⟨g i, 0, none⟩) m m) m xs := by
  rcases h with ⟨_, rfl⟩ | ⟨O, rfl, h1, h2, h3, h4⟩
  · omega
  · exact own_rowIs (h3 i hi).2 (by have := (h3 i hi).1; omega) (by omega)
theorem Mine.own2 {base b : Nat} {w : World} {A : Option Addr} {m : Nat} {M : Nat → Nat → Bool} {g : Nat → Nat} (h : Mine base w A m M g) (hb : b ≤ base) (hm : m ≤ 64) : ∃ xs, w.ownsRow b 125 1 (.slice A m m) m xs := by
  rcases h with ⟨rfl, rfl⟩ | ⟨O, rfl, h1, h2, h3, h4⟩
  · exact ⟨[], World.ownsRow_nil w b 125 1⟩
  · exact own_rowIs h2 (by omega) (by omega)
theorem of_all (a : Option Addr) (cap m : Nat) (L : List Bd) (n : Int) (hm : m = L.length) (hmm : m ≤ 1000000) (w : World) (hL : Bds w a L) : Calls Tryz.prog 39 #[.int .i64 n, .slice a m cap] w fun e w' => Below w.heap.size w w' ∧
    ∃ A g, e = .returned (.tuple #[.slice A (rofF n m L).2.1 (rofF n m L).2.1, .int .i64 (rofF n m L).1]) ∧ Mine w.heap.size w' A (rofF n m L).2.1 (rofF n m L).2.2 g := by
  by_cases h : n < 0 ∨ 64 < n ∨ 256 < m
  · have e : rofF n m L = (3, 0, fun _ _ => false) := if_pos h
    rw [e]
    refine (of_lim a cap m n h (by omega) w).mono ?_
    rintro e w' ⟨rfl, hb⟩
    exact ⟨hb, none, fun _ => 0, rfl, .inl ⟨rfl, rfl⟩⟩
  · obtain ⟨k, rfl⟩ := Int.eq_ofNat_of_zero_le (show 0 ≤ n by omega)
    refine (of_any a cap L k m (by omega) hm (by omega) w hL).mono ?_
    rintro e w' ⟨hb, ⟨ho, a', rfl, _, O, rfl, hO, g, g1, g2, g3, g4⟩ | ⟨ho, rfl⟩⟩
    · have e : rofF (k : Int) m L = (0, k, reach k L) := by unfold rofF; rw [if_neg h, Int.toNat_natCast, if_pos ho]
      rw [e]
      exact ⟨hb, some ⟨O, 0, none⟩, g, rfl, .inr ⟨O, rfl, hO, g1.congr (fun i hi => by rw [if_pos hi]), fun x hx => ⟨g3 x hx, (g2 x hx).2⟩, g4⟩⟩
    · have e : rofF (k : Int) m L = (1, 0, fun _ _ => false) := by unfold rofF; rw [if_neg h, Int.toNat_natCast, if_neg (by rw [ho]; simp)]
      rw [e]
      exact ⟨hb, none, fun _ => 0, rfl, .inl ⟨rfl, rfl⟩⟩
theorem rof_same (a : Option Addr) (cap m : Nat) (L : List Bd) (n : Int) (hm : m = L.length) (hmm : m ≤ 1000000) (w : World) (hL : Bds w a L) : Calls Tryz.prog 40 #[.int .i64 n, .slice a m cap] w fun e w' => Below w.heap.size w w' ∧
    ∃ A c, e = .returned (.tuple #[.slice A (rofF n m L).2.1 c, .int .i64 (rofF n m L).1]) ∧ IsM w' A (rofF n m L).2.1 (rofF n m L).2.2 := by
  refine (rof_all a cap m L n hm hmm w hL).mono ?_
  rintro e w' ⟨hb, ⟨h, rfl⟩ | ⟨k, rfl, k1, k2, ho, a', c, rfl, hi⟩ | ⟨k, rfl, k1, k2, ho, rfl⟩⟩
  · have e : rofF n m L = (3, 0, fun _ _ => false) := if_pos h
    rw [e]
    exact ⟨hb, none, 0, rfl, fun i hi => by dsimp only at hi; omega⟩
  · have e : rofF (k : Int) m L = (0, k, reach k L) := by unfold rofF; rw [if_neg (by omega), Int.toNat_natCast, if_pos ho]
    rw [e]
    exact ⟨hb, a', c, rfl, hi⟩
  · have e : rofF (k : Int) m L = (1, 0, fun _ _ => false) := by unfold rofF; rw [if_neg (by omega), Int.toNat_natCast, if_neg (by rw [ho]; simp)]
    rw [e]
    exact ⟨hb, none, 0, rfl, fun i hi => by dsimp only at hi; omega⟩
theorem rofF_le (n : Int) (m : Nat) (L : List Bd) : (rofF n m L).2.1 ≤ 64 := by
  unfold rofF
  split
  · exact Nat.zero_le _
  · split
    · dsimp only
      omega
    · exact Nat.zero_le _
theorem sameM_self (n : Nat) (M : Nat → Nat → Bool) : sameM n M M = true := sameM_yes fun _ _ => same_yes fun _ _ => rfl
/-- blocks of the rows, as the Book holds them. -/
theorem hl_at {g : Nat → Nat} {n q m i : Nat} (h : i < (RBk.hl g n q m).length) : (RBk.hl g n q m)[i] = ⟨.slice (some ⟨g i, 0, none⟩) n n, .slice none 0 0, n, q + i + 1⟩ := by simp [RBk.hl]
theorem blk_hl {g : Nat → Nat} {n q m k : Nat} (h : Blk (RBk.hl g n q m) k) : ∃ i, i < m ∧ k = g i := by
  obtain ⟨h, hh, hk⟩ := h
  obtain ⟨i, hi, rfl⟩ := List.getElem_of_mem hh
  rw [hl_at hi] at hk
  have hi' := hi
  rw [RBk.hl_length] at hi'
  exact ⟨i, hi', by simpa [Value.ownBlock] using hk.symm⟩
end Go.Proofs.YtajilghlcfheiaaGreatDoor.Rea
