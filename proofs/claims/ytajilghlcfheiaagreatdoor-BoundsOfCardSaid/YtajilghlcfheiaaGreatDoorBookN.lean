/- Rows of elements of several cells; marks that make memory. -/
import Derived.Test.YtajilghlcfheiaaGreatDoorBookM
namespace Go.Proofs.YtajilghlcfheiaaGreatDoor
open Go.RowKit Go.Proofs.YtajilghlcfheiaaGreatDoorW.PrintWords
set_option linter.unusedVariables false
/-- elements of sz cells, n of which are marked. -/
def Mkd (sz : Nat) (ok : List Value → Prop) (xs : List Value) (n : Nat) : Prop := ∀ m, m < n → ∃ cs, ok cs ∧ cs.length = sz ∧ ∀ r u, cs[r]? = some u → xs[m * sz + r]? = some u
theorem mkd_zero (sz : Nat) (ok : List Value → Prop) (xs : List Value) : Mkd sz ok xs 0 := fun m h => absurd h (Nat.not_lt_zero m)
theorem mkd_lt {m n sz r : Nat} (h : m < n) (hr : r < sz) : m * sz + r < n * sz := by
  have h1 : (m + 1) * sz ≤ n * sz := Nat.mul_le_mul_right sz h
  rw [Nat.add_mul, Nat.one_mul] at h1
  omega
theorem mkd_append {sz n : Nat} {ok : List Value → Prop} {xs cs : List Value} (h : Mkd sz ok xs n) (hl : xs.length = n * sz) (ho : ok cs) (hc : cs.length = sz) : Mkd sz ok (xs ++ cs) (n + 1) := fun m hm => by
  by_cases e : m = n
  · subst e
    exact ⟨cs, ho, hc, fun r u hu => by rw [List.getElem?_append_right (by omega), hl, Nat.add_sub_cancel_left]; exact hu⟩
  · obtain ⟨ds, h1, h2, h3⟩ := h m (by omega)
    refine ⟨ds, h1, h2, fun r u hu => ?_⟩
    have hr : r < sz := by rw [← h2]; exact (List.getElem?_eq_some_iff.1 hu).1
    have := mkd_lt (n := n) (show m < n by omega) hr
    rw [List.getElem?_append_left (by omega)]
    exact h3 r u hu
def setL : List Value → Nat → List Value → List Value
  | xs, _, [] => xs
  | xs, p, c :: cs => setL (xs.set p c) (p + 1) cs
theorem setL_length : ∀ (cs xs : List Value) (p : Nat), (setL xs p cs).length = xs.length
  | [], _, _ => rfl
  | c :: cs, xs, p => by unfold setL; rw [setL_length cs]; simp
theorem setL_low : ∀ (cs xs : List Value) (p j : Nat), j < p → (setL xs p cs)[j]? = xs[j]?
  | [], _, _, _, _ => rfl
  | c :: cs, xs, p, j, h => by unfold setL; rw [setL_low cs _ _ _ (by omega), List.getElem?_set_ne (by omega)]
theorem setL_at : ∀ (cs xs : List Value) (p r : Nat) (u : Value), p + cs.length ≤ xs.length → cs[r]? = some u → (setL xs p cs)[p + r]? = some u
  | [], _, _, r, u, _, hu => by simp at hu
  | c :: cs, xs, p, 0, u, h, hu => by
    unfold setL
    rw [setL_low cs _ _ _ (by omega)]
    simp at h hu ⊢
    rw [List.getElem?_set_self (by omega), hu]
  | c :: cs, xs, p, r + 1, u, h, hu => by
    unfold setL
    rw [show p + (r + 1) = p + 1 + r by omega]
    exact setL_at cs _ _ r u (by simp at h ⊢; omega) (by simpa using hu)
theorem mkd_set {sz n k : Nat} {ok : List Value → Prop} {xs cs : List Value} (h : Mkd sz ok xs k) (hl : xs.length = n * sz) (hk : k < n) (ho : ok cs) (hc : cs.length = sz) : Mkd sz ok (setL xs (k * sz) cs) (k + 1) := fun m hm => by
  have hle : (k + 1) * sz ≤ n * sz := Nat.mul_le_mul_right sz hk
  rw [Nat.add_mul, Nat.one_mul] at hle
  by_cases e : m = k
  · subst e
    exact ⟨cs, ho, hc, fun r u hu => setL_at cs xs _ r u (by omega) hu⟩
  · obtain ⟨ds, h1, h2, h3⟩ := h m (by omega)
    refine ⟨ds, h1, h2, fun r u hu => ?_⟩
    have hr : r < sz := by rw [← h2]; exact (List.getElem?_eq_some_iff.1 hu).1
    have := mkd_lt (n := k) (show m < k by omega) hr
    rw [setL_low cs xs _ _ (by omega)]
    exact h3 r u hu
def setW : World → Nat → Nat → List Value → World
  | w, _, _, [] => w
  | w, g, p, c :: cs => setW (w.setCell ⟨g, p, none⟩ c) g (p + 1) cs
theorem setW_own {base : Nat} {e : TypeId} {sz g n cap : Nat} : ∀ (cs : List Value) (w : World) (p : Nat) (xs : List Value), w.ownsRow base e sz (.slice (some ⟨g, 0, none⟩) n cap) n xs → (setW w g p cs).ownsRow base e sz (.slice (some ⟨g, 0, none⟩) n cap) n (setL xs p cs) ∧ Tch (fun k => k = g) w (setW w g p cs)
  | [], w, _, _, h => ⟨h, Tch.refl _ w⟩
  | c :: cs, w, p, xs, h => by
    obtain ⟨h1, h2⟩ := h.stored p c
    obtain ⟨h3, h4⟩ := setW_own cs _ (p + 1) _ h1
    exact ⟨h3, (Tch.of_grown h2 (fun k e => by cases e; rfl)).trans h4⟩
/-- the elements of a list of which each is as told. -/
def Rdm (sz : Nat) (ok : Nat → List Value → Prop) (w : World) (v : Value) (n q : Nat) : Prop := ∃ A c, v = .slice A n c ∧ (0 < n → ∃ g, A = some ⟨g, 0, none⟩ ∧ ∀ j, j < n → ∃ cs, ok q cs ∧ cs.length = sz ∧ ∀ r u, cs[r]? = some u → w.cell? ⟨g, j * sz + r, none⟩ = some u)
theorem Rdm.tch {sz : Nat} {ok : Nat → List Value → Prop} {X : Nat → Prop} {w w' : World} {v : Value} {n q : Nat} (h : Rdm sz ok w v n q) (ht : Tch X w w') (hx : ∀ k, v.ownBlock = some k → ¬ X k) : Rdm sz ok w' v n q := by
  obtain ⟨A, c, rfl, h⟩ := h
  refine ⟨A, c, rfl, fun hn => ?_⟩
  obtain ⟨g, rfl, hc⟩ := h hn
  exact ⟨g, rfl, fun j hj => by
    obtain ⟨cs, h1, h2, h3⟩ := hc j hj
    exact ⟨cs, h1, h2, fun r u hu => ht.cell (h3 r u hu) (hx g rfl)⟩⟩
theorem Rdm.of_own {sz : Nat} {ok : Nat → List Value → Prop} {w : World} {base : Nat} {e : TypeId} {v v' : Value} {n m q : Nat} {xs : List Value} (h : w.ownsRow base e sz v' m xs) (hok : Mkd sz (ok q) xs m) (hn : n ≤ m) (A : Option Addr) (c : Nat) (hv : v = .slice A n c) (hA : 0 < n → ∃ g, A = some ⟨g, 0, none⟩) (hb : 0 < n → v'.ownBlock = v.ownBlock) : Rdm sz ok w v n q := by
  refine ⟨A, c, hv, fun h0 => ?_⟩
  obtain ⟨g, rfl⟩ := hA h0
  have hb' := hb h0
  subst hv
  rcases h.2 with ⟨rfl, _⟩ | ⟨g', cap, cur, rfl, _⟩
  · cases hb'
  · obtain rfl : g' = g := by simpa [Value.ownBlock] using hb'
    refine ⟨g', rfl, fun j hj => ?_⟩
    obtain ⟨cs, h1, h2, h3⟩ := hok j (by omega)
    exact ⟨cs, h1, h2, fun r u hu => own_cell h (h3 r u hu)⟩
theorem wp_appm {P : Program} {ops : Array Oper} {rest : List Oper} {o : Oper} {a : Act} {Q : Exit → Act → World → Prop} {W : World} (base : Nat) (hgd : o.guard = none) (s x : Operand) (t e : TypeId) (z : Value) (cs : Array Value) (sz bytes : Nat)
    (ho : o.op = .call { callee := .builtin .append, args := #[s, x], argTypes := #[t, t] }) (ht : P.underlying t = some (.slice e)) (hinfo : (P.info? e).map (fun i => (i.zero, i.size, i.bytes)) = some (some z, sz, bytes)) (hz : z.cells.size = sz) (hsz : 0 < sz) (hcs : cs.toList.length = sz)
    (v : Value) (n : Nat) (xs : List Value) (hs : a.eval s = v) (hx : a.eval x = .slice (some ⟨W.heap.size, 0, none⟩) 1 1) (HO : W.ownsRow base e sz v n xs) (h1 : ∀ u ∈ cs.toList, u.oneCell' = true) (hbase : base ≤ W.heap.size) (hl : (n + 1) * bytes ≤ 140737488355328) (hn : n + 1 ≤ 9223372036854775807)
    (h : ∀ v' w', w'.ownsRow base e sz v' (n + 1) (xs ++ cs.toList) → ((v'.ownBlock = v.ownBlock ∧ Tch (fun k => v.ownBlock = some k) W w') ∨ (∃ b, v'.ownBlock = some b ∧ W.heap.size ≤ b ∧ Tch (fun _ => False) W w')) → wpList P ops Q rest (a.put o.dst v') w') :
    wpList P ops Q (o :: rest) a (W.alloc (.cells cs e)) := by
  obtain ⟨i, hi, hzz⟩ := Option.map_eq_some_iff.1 hinfo
  simp only [Prod.mk.injEq] at hzz
  obtain ⟨hz0, hz1, hz2⟩ := hzz
  have hba : Below W.heap.size W (W.alloc (.cells cs e)) := (Below.refl _ W).alloc (Nat.le_refl _) _
  have HO' := (Tch.of_below (X := fun _ => False) hba).own HO (fun _ _ h => h)
  have hk := heap_alloc_new W (.cells cs e)
  obtain ⟨v', w', hr, hown, hat⟩ := run_app1 (P := P) (W.alloc (.cells cs e)) base t o.type e i z sz bytes ht hi hz0 hz1 hz2 hz hsz v n xs HO' ⟨W.heap.size, 0, none⟩ 1 cs.toList hcs
    (fun j y hy => by
      have hadd : (⟨W.heap.size, 0, none⟩ : Addr).add j = ⟨W.heap.size, j, none⟩ := by unfold Addr.add; split <;> simp_all
      rw [hadd, cell_of_row _ _ _ _ _ _ hk]
      simpa using hy) h1 (by unfold maxLen; exact hn) hl (by have := hba.size; omega)
  refine wpList_plain hgd fun K hK => ?_
  unfold Oper.wp
  simp [execOp, ho, resolve, invoke, builtin, hs, hx, hr, Result.andThen]
  refine hK _ _ (h v' w' hown ?_)
  rcases hat with ⟨h2, h3⟩ | ⟨h2, h3⟩
  · exact .inl ⟨h2, (Tch.of_below hba).trans (Tch.of_grown h3 (fun k hk => hk))⟩
  · exact .inr ⟨_, h2, hba.size, (Tch.of_below hba).trans (Tch.of_grown h3 (fun k hk => by cases hk))⟩
end Go.Proofs.YtajilghlcfheiaaGreatDoor
