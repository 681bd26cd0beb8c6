/- Rows of numbers of the call's own: two of them that grow, and are written. -/
import Derived.Test.YtajilghlcfheiaaGreatDoorSLaw
namespace Go.Proofs.YtajilghlcfheiaaGreatDoor.Trm
open Go.RowKit Go.Proofs.YtajilghlcfheiaaGreatDoorW.PrintWords
open Rea (Bd Bds on)
open Bnd (SI Full Sol Low High tv okT okB chkF updF lst Nums)
set_option maxRecDepth 20000
/-- two rows under way. -/
structure Two (base : Nat) (w : World) (v u : Value) (k l : Nat) (a b : Nat) : Prop where
  fst : w.ownsRow base 66 1 v (List.replicate k (a : Int)).length (nums .u64 (List.replicate k (a : Int)))
  snd : w.ownsRow base 66 1 u (List.replicate l (b : Int)).length (nums .u64 (List.replicate l (b : Int)))
  ne : NeRow v u
theorem Two.nil (base : Nat) (w : World) (a b : Nat) : Two base w (.slice none 0 0) (.slice none 0 0) 0 0 a b := ⟨own_nil w base 66 1, own_nil w base 66 1, fun k hk => by cases hk⟩
theorem Two.below {base : Nat} {w w' : World} {v u : Value} {k l a b : Nat} (h : Two base w v u k l a b) (hb : Below w.heap.size w w') : Two base w' v u k l a b := ⟨pw_own_below h.fst hb, pw_own_below h.snd hb, h.ne⟩
theorem rep_next (k : Nat) (a : Nat) : List.replicate k (a : Int) ++ [(a : Int)] = List.replicate (k + 1) (a : Int) := (List.replicate_succ' ..).symm
theorem Two.one {base : Nat} {W w1 : World} {v u v1 : Value} {k l a b : Nat} (h : Two base W v u k l a b) (ho : w1.ownsRow base 66 1 v1 (List.replicate k (a : Int) ++ [(a : Int)]).length (nums .u64 (List.replicate k (a : Int) ++ [(a : Int)]))) (hg : W.grownBy w1 v.ownBlock) (hat : v1.ownBlock = v.ownBlock ∨ ∃ b, v1.ownBlock = some b ∧ W.heap.size ≤ b) : Two base w1 v1 u (k + 1) l a b := by
  rw [rep_next] at ho
  refine ⟨ho, own_other h.snd hg (ne_other h.ne), fun j hj hj' => ?_⟩
  rcases hat with hat | ⟨c, hc, hc2⟩
  · exact h.ne j (hat ▸ hj) hj'
  · rw [hc] at hj
    cases hj
    have := own_lt h.snd _ hj'
    omega
theorem Two.other {base : Nat} {W w1 : World} {v u u1 : Value} {k l a b : Nat} (h : Two base W v u k l a b) (ho : w1.ownsRow base 66 1 u1 (List.replicate l (b : Int) ++ [(b : Int)]).length (nums .u64 (List.replicate l (b : Int) ++ [(b : Int)]))) (hg : W.grownBy w1 u.ownBlock) (hat : u1.ownBlock = u.ownBlock ∨ ∃ c, u1.ownBlock = some c ∧ W.heap.size ≤ c) : Two base w1 v u1 k (l + 1) a b := by
  rw [rep_next] at ho
  refine ⟨own_other h.fst hg (ne_other (ne_symm h.ne)), ho, fun j hj hj' => ?_⟩
  rcases hat with hat | ⟨c, hc, hc2⟩
  · exact h.ne j hj (hat ▸ hj')
  · rw [hc] at hj'
    cases hj'
    have := own_lt h.fst _ hj
    omega
/-- n numbers, room behind them. -/
def Rc (base : Nat) (w : World) (A : Option Addr) (N c B : Nat) (f : Nat → Nat) : Prop :=
  0 < N → A = some ⟨B, 0, none⟩ ∧ base ≤ B ∧ B < w.heap.size ∧ ∃ T : Nat → Value, N ≤ c ∧ w.rowIs B 66 c (fun j => if j < N then .int .u64 ((f j : Nat) : Int) else T j)
theorem Rc.below {base : Nat} {w w' : World} {A : Option Addr} {N c B : Nat} {f : Nat → Nat} (h : Rc base w A N c B f) (hb : Below w.heap.size w w') : Rc base w' A N c B f := fun hN => by
  obtain ⟨e, h1, h2, T, hc, hr⟩ := h hN
  exact ⟨e, h1, Nat.lt_of_lt_of_le h2 hb.size, T, hc, hr.of_block (hb.block B h2)⟩
theorem Rc.cell {base : Nat} {w : World} {A : Option Addr} {N c B : Nat} {f : Nat → Nat} (h : Rc base w A N c B f) {j : Nat} (hj : j < N) : A = some ⟨B, 0, none⟩ ∧ base ≤ B ∧ w.cell? ⟨B, j, none⟩ = some (.int .u64 ((f j : Nat) : Int)) ∧ w.frozen? ⟨B, j, none⟩ = false ∧ N ≤ c := by
  obtain ⟨e, h1, h2, T, hc, hr⟩ := h (by omega)
  refine ⟨e, h1, ?_, hr.frozen j, hc⟩
  rw [hr.cell (by omega), if_pos hj]
theorem Rc.set {base : Nat} {w : World} {A : Option Addr} {N c B : Nat} {f : Nat → Nat} (h : Rc base w A N c B f) {j : Nat} (hj : j < N) (x : Nat) : Rc base (w.setCell ⟨B, j, none⟩ (.int .u64 ((x : Nat) : Int))) A N c B (updF f j x) := fun hN => by
  obtain ⟨e, h1, h2, T, hc, hr⟩ := h hN
  refine ⟨e, h1, by simpa using h2, T, hc, (hr.set j _).congr fun i _ => ?_⟩
  unfold updF
  by_cases e : i = j
  · subst e
    rw [if_pos rfl, if_pos hj, if_pos rfl]
  · rw [if_neg e, if_neg e]
theorem Rc.far {base : Nat} {w : World} {A : Option Addr} {N c B : Nat} {f : Nat → Nat} (h : Rc base w A N c B f) {p : Addr} (hp : 0 < N → B ≠ p.block) (v : Value) : Rc base (w.setCell p v) A N c B f := fun hN => by
  obtain ⟨e, h1, h2, T, hc, hr⟩ := h hN
  exact ⟨e, h1, by simpa using h2, T, hc, hr.setOther (hp hN) v⟩
theorem rc_of {base : Nat} {w : World} {v : Value} {N a : Nat} (h : w.ownsRow base 66 1 v (List.replicate N (a : Int)).length (nums .u64 (List.replicate N (a : Int)))) : ∃ A c B, v = .slice A N c ∧ Rc base w A N c B (fun _ => a) ∧ (0 < N → v.ownBlock = some B) ∧ (N = 0 → B = 0) := by
  rw [List.length_replicate] at h
  by_cases hN : N = 0
  · subst hN
    obtain ⟨A, c, rfl⟩ := own_slice h
    exact ⟨A, c, 0, rfl, fun h0 => by omega, fun h0 => by omega, fun _ => rfl⟩
  · have hlt := own_lt h
    rcases h.2 with ⟨_, h0⟩ | ⟨g, cap, cur, rfl, hb, hh, hle, _, hs, ht⟩
    · exact absurd h0 hN
    · refine ⟨_, cap, g, rfl, fun _ => ⟨rfl, hb, hlt g rfl, fun j => cur.getD j undef, hle, cur, hh, by omega, fun i hi => ?_⟩, fun _ => rfl, fun h0 => absurd h0 hN⟩
      by_cases e : i < N
      · show cur[i]? = some (if i < N then Value.int .u64 ((a : Nat) : Int) else cur.getD i undef)
        rw [if_pos e]
        have h1 : (nums .u64 (List.replicate N (a : Int)))[i]? = some (.int .u64 ((a : Nat) : Int)) := by simp [nums, e]
        rw [← h1, ← ht, List.getElem?_take_of_lt (by omega)]
        simp
      · show cur[i]? = some (if i < N then Value.int .u64 ((a : Nat) : Int) else cur.getD i undef)
        rw [if_neg e]
        have : i < cur.size := by omega
        simp [this]
theorem Rc.nums {base : Nat} {w : World} {A : Option Addr} {N c B : Nat} {f : Nat → Nat} (h : Rc base w A N c B f) (hl : ∀ i, i < N → f i < 18446744073709551616) : Nums w A (lst N f) := by
  refine ⟨fun x hx => ?_, fun hn => ?_⟩
  · obtain ⟨i, hi, rfl⟩ := List.mem_map.1 hx
    exact hl i (List.mem_range.1 hi)
  · have hN : 0 < N := by simpa [lst] using hn
    obtain ⟨e, _, h2, _⟩ := h hN
    refine ⟨B, 0, e, h2, fun j hj => ?_⟩
    have hjN : j < N := by simpa [lst] using hj
    rw [Nat.zero_add, (h.cell hjN).2.2.1]
    simp [lst]
theorem Tms.far {w : World} {a : Option Addr} {T : List Tm} (h : Tms w a T) {p : Addr} (hp : ∀ g o, a = some ⟨g, o, none⟩ → g ≠ p.block) (v : Value) : Tms (w.setCell p v) a T := fun k hk => by
  obtain ⟨b, o, e, c0, c1, l⟩ := h k hk
  have hne := hp b o e
  exact ⟨b, o, e, (World.cell?_setCell_far _ _ _ _ (fun h => hne h.symm)).trans c0, (World.cell?_setCell_far _ _ _ _ (fun h => hne h.symm)).trans c1, l⟩
/-- what stands in memory while the two rows are written. -/
structure St (wa : World) (A6 : Option Addr) (N c6 B6 : Nat) (A7 : Option Addr) (c7 B7 : Nat) (aT : Option Addr) (T : List Tm) (wr : World) (f h : Nat → Nat) : Prop where
  r6 : Rc wa.heap.size wr A6 N c6 B6 f
  r7 : Rc wa.heap.size wr A7 N c7 B7 h
  ts : Tms wr aT T
  sz : B6 < wr.heap.size ∧ B7 < wr.heap.size
  bl : Below wa.heap.size wa wr
section
variable {wa : World} {A6 : Option Addr} {N c6 B6 : Nat} {A7 : Option Addr} {c7 B7 : Nat} {aT : Option Addr} {T : List Tm} {wr w' : World} {f h : Nat → Nat}
theorem St.below (H : St wa A6 N c6 B6 A7 c7 B7 aT T wr f h) (hb : Below wr.heap.size wr w') : St wa A6 N c6 B6 A7 c7 B7 aT T w' f h :=
  ⟨H.r6.below hb, H.r7.below hb, H.ts.below hb, ⟨Nat.lt_of_lt_of_le H.sz.1 hb.size, Nat.lt_of_lt_of_le H.sz.2 hb.size⟩, on H.bl hb⟩
theorem St.put6 (H : St wa A6 N c6 B6 A7 c7 B7 aT T wr f h) {j : Nat} (hj : j < N) (hT : ∀ g o, aT = some ⟨g, o, none⟩ → g ≠ B6) (hne : 0 < N → B6 ≠ B7) (x : Nat) : St wa A6 N c6 B6 A7 c7 B7 aT T (wr.setCell ⟨B6, j, none⟩ (.int .u64 ((x : Nat) : Int))) (updF f j x) h :=
  ⟨H.r6.set hj x, H.r7.far (fun hN => (hne hN).symm) _, H.ts.far hT _, by simpa using H.sz, H.bl.setCell (p := ⟨B6, j, none⟩) (H.r6.cell hj).2.1 _⟩
theorem St.put7 (H : St wa A6 N c6 B6 A7 c7 B7 aT T wr f h) {j : Nat} (hj : j < N) (hT : ∀ g o, aT = some ⟨g, o, none⟩ → g ≠ B7) (hne : 0 < N → B6 ≠ B7) (x : Nat) : St wa A6 N c6 B6 A7 c7 B7 aT T (wr.setCell ⟨B7, j, none⟩ (.int .u64 ((x : Nat) : Int))) f (updF h j x) :=
  ⟨H.r6.far hne _, H.r7.set hj x, H.ts.far hT _, by simpa using H.sz, H.bl.setCell (p := ⟨B7, j, none⟩) (H.r7.cell hj).2.1 _⟩
theorem St.drew (H : St wa A6 N c6 B6 A7 c7 B7 aT T wr f h) : St wa A6 N c6 B6 A7 c7 B7 aT T wr.drew f h := H.below (below_drew (Below.refl _ _))
end
end Go.Proofs.YtajilghlcfheiaaGreatDoor.Trm
