/- the program's sorts are ones. -/
import Derived.Test.YtajilghlcfheiaaGreatDoorBndSol
import Derived.Test.YtajilghlcfheiaaGreatDoorBndLatA
namespace Go.Proofs.YtajilghlcfheiaaGreatDoor.Bnd
set_option maxRecDepth 20000
open Go.RowKit Go.Proofs.YtajilghlcfheiaaGreatDoorW.PrintWords
set_option linter.unusedVariables false
theorem cnt_mono {p q : Nat → Bool} : ∀ n, (∀ x, x < n → p x = true → q x = true) → cnt p n ≤ cnt q n
  | 0, _ => Nat.le_refl _
  | n + 1, h => by
    have ih := cnt_mono n (fun x hx => h x (by omega))
    have := h n (by omega)
    unfold cnt
    cases hp : p n with
    | false => cases hq : q n <;> simp <;> omega
    | true => rw [this hp]; simp; omega
theorem cnt_lt {p q : Nat → Bool} {y : Nat} : ∀ n, y < n → (∀ x, x < n → p x = true → q x = true) → p y = false → q y = true → cnt p n < cnt q n
  | 0, hy, _, _, _ => by omega
  | n + 1, hy, h, h1, h2 => by
    by_cases e : y = n
    · subst e
      have ih := cnt_mono y (fun x hx => h x (by omega))
      unfold cnt
      rw [h1, h2]
      simp
      omega
    · have ih := cnt_lt n (by omega) (fun x hx => h x (by omega)) h1 h2
      have := h n (by omega)
      unfold cnt
      cases hp : p n with
      | false => cases hq : q n <;> simp <;> omega
      | true => rw [this hp]; simp; omega
theorem lat_full {rows : List Nat} (h : Fine rows) : Full (latS rows) := by
  have D : ∀ a, (latS rows).has a = true → a < rows.length := fun a e => by simpa [latS] using e
  have D' : ∀ a, a < rows.length → (latS rows).has a = true := fun a e => by simpa [latS] using e
  have hle := h.le
  refine ⟨fun a e => by have := D a e; omega, fun a b e => ⟨D' _ (rowB_lt e).1, D' _ (rowB_lt e).2⟩, fun a e => h.ord.refl a (D a e), fun a b c e f => h.ord.trans a b c e f, fun a b e f => h.ord.anti a b e f, fun a b ha hb => join_spec h (D a ha) (D b hb), fun a b ha hb => meet_spec h (D a ha) (D b hb), ⟨D' _ (bot_spec h).1, fun a ha => (bot_spec h).2 a (D a ha)⟩, ⟨D' _ (top_spec h).1, fun a ha => (top_spec h).2 a (D a ha)⟩, fun a => cnt (fun x => rowB rows x a) rows.length, rows.length, fun a _ => cnt_le _ _, fun a b e hne => ?_⟩
  refine cnt_lt (y := b) rows.length (rowB_lt e).2 (fun x _ hx => h.ord.trans x a b hx e) ?_ (h.ord.refl b (rowB_lt e).2)
  cases hq : rowB rows b a with
  | false => rfl
  | true => exact absurd (h.ord.anti a b e hq) hne
theorem lat_none : None (latS []) := by
  refine ⟨fun a => by simp [latS], fun a b => (show rowB [] a b = false from rowB_no (fun h => absurd h.1 (Nat.not_lt_zero a))), fun a b => ?_, fun a b => ?_, rfl, ?_⟩
  · show pickF [] a b = 0
    simp [pickF]
  · show pickF (downs []) a b = 0
    simp [pickF, downs]
  · show endF (downs []) = 0
    simp [endF, downs]
/-- sets of effects, by bits. -/
def effB (t : Nat) : SI := ⟨fun a => a ||| t == t, fun a b => ((a ||| t == t) && (b ||| t == t)) && (a ||| b == b), fun a b => if (a ||| t == t) && (b ||| t == t) then a ||| b else 0, fun a b => if (a ||| t == t) && (b ||| t == t) then a &&& b else 0, 0, t⟩
theorem eff_has {t a : Nat} : (effB t).has a = true ↔ a ||| t = t := by simp [effB]
theorem eff_below {t a b : Nat} : (effB t).below a b = true ↔ a ||| t = t ∧ b ||| t = t ∧ a ||| b = b := by simp [effB, and_assoc]
theorem eff_full {t : Nat} (ht : t < 18446744073709551616) : Full (effB t) := by
  refine ⟨fun a e => ?_, fun a b e => ?_, fun a e => ?_, fun a b c e f => ?_, fun a b e f => ?_, fun a b ha hb => ?_, fun a b ha hb => ?_, ⟨?_, fun a e => ?_⟩, ⟨?_, fun a e => ?_⟩, fun a => a, t, fun a e => ?_, fun a b e hne => ?_⟩
  · have := eff_has.1 e
    have := Nat.left_le_or (n := a) (m := t)
    omega
  · obtain ⟨h1, h2, h3⟩ := eff_below.1 e
    exact ⟨eff_has.2 h1, eff_has.2 h2⟩
  · exact eff_below.2 ⟨eff_has.1 e, eff_has.1 e, Nat.or_self a⟩
  · obtain ⟨h1, h2, h3⟩ := eff_below.1 e
    obtain ⟨h4, h5, h6⟩ := eff_below.1 f
    refine eff_below.2 ⟨h1, h5, ?_⟩
    rw [← h6, ← Nat.or_assoc, h3]
  · obtain ⟨_, _, h3⟩ := eff_below.1 e
    obtain ⟨_, _, h6⟩ := eff_below.1 f
    rw [Nat.or_comm] at h6
    omega
  · have h1 := eff_has.1 ha
    have h2 := eff_has.1 hb
    have e : (effB t).join a b = a ||| b := by simp [effB, h1, h2]
    have h3 : a ||| b ||| t = t := by rw [Nat.or_assoc, h2, h1]
    rw [e]
    refine ⟨eff_below.2 ⟨h1, h3, by rw [← Nat.or_assoc, Nat.or_self]⟩, eff_below.2 ⟨h2, h3, by rw [Nat.or_comm a b, ← Nat.or_assoc, Nat.or_self]⟩, fun d hd he => ?_⟩
    obtain ⟨_, h5, h6⟩ := eff_below.1 hd
    obtain ⟨_, _, h7⟩ := eff_below.1 he
    exact eff_below.2 ⟨h3, h5, by rw [Nat.or_assoc, h7, h6]⟩
  · have h1 := eff_has.1 ha
    have h2 := eff_has.1 hb
    have e : (effB t).meet a b = a &&& b := by simp [effB, h1, h2]
    have T : ∀ {x y : Nat}, x ||| y = y → ∀ i, x.testBit i = true → y.testBit i = true := fun {x y} h i hi => by
      rw [← h, Nat.testBit_or, hi]
      rfl
    have T' : ∀ {x y : Nat}, (∀ i, x.testBit i = true → y.testBit i = true) → x ||| y = y := fun {x y} h => by
      apply Nat.eq_of_testBit_eq
      intro i
      rw [Nat.testBit_or]
      cases hx : x.testBit i with
      | false => simp
      | true => rw [h i hx]; rfl
    have B : ∀ i, (a &&& b).testBit i = true → a.testBit i = true ∧ b.testBit i = true := fun i hi => by
      rw [Nat.testBit_and, Bool.and_eq_true] at hi
      exact hi
    have h3 : a &&& b ||| t = t := T' fun i hi => T h1 i (B i hi).1
    rw [e]
    refine ⟨eff_below.2 ⟨h3, h1, T' fun i hi => (B i hi).1⟩, eff_below.2 ⟨h3, h2, T' fun i hi => (B i hi).2⟩, fun d hd he => ?_⟩
    obtain ⟨h5, _, h6⟩ := eff_below.1 hd
    obtain ⟨_, _, h7⟩ := eff_below.1 he
    refine eff_below.2 ⟨h5, h3, T' fun i hi => ?_⟩
    rw [Nat.testBit_and, T h6 i hi, T h7 i hi]
    rfl
  · exact eff_has.2 (Nat.zero_or t)
  · exact eff_below.2 ⟨Nat.zero_or t, eff_has.1 e, Nat.zero_or a⟩
  · exact eff_has.2 (Nat.or_self t)
  · exact eff_below.2 ⟨eff_has.1 e, Nat.or_self t, eff_has.1 e⟩
  · have := eff_has.1 e
    have := Nat.left_le_or (n := a) (m := t)
    show a ≤ t
    omega
  · obtain ⟨_, _, h3⟩ := eff_below.1 e
    have := Nat.left_le_or (n := a) (m := b)
    show a < b
    omega
/-- it matters not how far a sort is told of numbers that are none. -/
theorem SortC.like {w : World} {t : TypeId} {p : Value} {S T : SI} (h : SortC w t p S) (h1 : ∀ a, a < 18446744073709551616 → S.has a = T.has a) (h2 : ∀ a b, a < 18446744073709551616 → b < 18446744073709551616 → S.below a b = T.below a b ∧ S.join a b = T.join a b ∧ S.meet a b = T.meet a b) (h3 : S.bot = T.bot) (h4 : S.top = T.top) : SortC w t p T := by
  obtain ⟨⟨f1, i1, c1⟩, ⟨f2, i2, c2⟩, ⟨f3, i3, c3⟩, ⟨f4, i4, c4⟩, ⟨f5, i5, c5⟩, ⟨f6, i6, c6⟩, j1, j2, j3, j4⟩ := h
  exact ⟨⟨f1, i1, fun W a hb ha => by rw [← h1 a ha]; exact c1 W a hb ha⟩, ⟨f2, i2, fun W a b hb ha hb' => by rw [← (h2 a b ha hb').1]; exact c2 W a b hb ha hb'⟩, ⟨f3, i3, fun W a b hb ha hb' => by rw [← (h2 a b ha hb').2.1]; exact c3 W a b hb ha hb'⟩, ⟨f4, i4, fun W a b hb ha hb' => by rw [← (h2 a b ha hb').2.2]; exact c4 W a b hb ha hb'⟩, ⟨f5, i5, fun W hb => by rw [← h3]; exact c5 W hb⟩, ⟨f6, i6, fun W hb => by rw [← h4]; exact c6 W hb⟩, fun a b ha hb => by rw [← (h2 a b ha hb).2.1]; exact j1 a b ha hb, fun a b ha hb => by rw [← (h2 a b ha hb).2.2]; exact j2 a b ha hb, by rw [← h3]; exact j3, by rw [← h4]; exact j4⟩
theorem eff_sortB {w : World} {p : Option Addr} {t : Nat} (ht : t < 18446744073709551616) (h : Eff.St w p (some t)) : SortC w 88 (.pointer p) (effB t) := by
  have E : ∀ a, a < 18446744073709551616 → Eff.hasM (some t) a = (a ||| t == t) := fun a ha => Eff.anot_zero a t ha ht
  refine (eff_sort h).like (fun a ha => E a ha) (fun a b ha hb => ⟨?_, ?_, ?_⟩) rfl rfl
  · show (Eff.hasM (some t) a && Eff.hasM (some t) b && (Eff.anot a b == 0)) = _
    rw [E a ha, E b hb, Eff.anot_zero a b ha hb]
    rfl
  · show (if Eff.hasM (some t) a && Eff.hasM (some t) b then a ||| b else 0) = _
    rw [E a ha, E b hb]
    rfl
  · show (if Eff.hasM (some t) a && Eff.hasM (some t) b then a &&& b else 0) = _
    rw [E a ha, E b hb]
    rfl
theorem eff_sort0 {w : World} {p : Option Addr} (h : Eff.St w p .none) : SortC w 88 (.pointer p) voidS :=
  (eff_sort h).like (fun _ _ => rfl) (fun _ _ _ _ => ⟨rfl, rfl, rfl⟩) rfl rfl
theorem lat_sort0 {w : World} {p : Option Addr} (h : LatV w (.pointer p) []) (hT : Tab w) : SortC w 91 (.pointer p) voidS :=
  (lat_sort h hT).like (fun a _ => lat_none.has a) (fun a b _ _ => ⟨lat_none.below a b, lat_none.join a b, lat_none.meet a b⟩) lat_none.bot lat_none.top
/-- a sort as it is asked for here. -/
def Sorted (w : World) (v : Value) (S : SI) : Prop := ∃ t p, v = .iface t p ∧ SortC w t p S ∧ (Full S ∨ S = voidS)
theorem Sorted.fn {w : World} {v : Value} {S : SI} (h : Sorted w v S) : Full S ∨ None S := by
  obtain ⟨_, _, _, _, h | rfl⟩ := h
  · exact .inl h
  · exact .inr void_none
theorem Sorted.n {w : World} {v : Value} {S : SI} (h : Sorted w v S) : SortN w v S := by
  obtain ⟨t, p, e, h, _⟩ := h
  exact .inr ⟨t, p, e, h⟩
theorem Sorted.below {w w' : World} {v : Value} {S : SI} (h : Sorted w v S) (hb : Below w.heap.size w w') : Sorted w' v S := by
  obtain ⟨t, p, e, h, k⟩ := h
  exact ⟨t, p, e, h.on hb, k⟩
end Go.Proofs.YtajilghlcfheiaaGreatDoor.Bnd
