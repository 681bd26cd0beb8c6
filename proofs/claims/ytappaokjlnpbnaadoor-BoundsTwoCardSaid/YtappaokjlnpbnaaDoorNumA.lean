/- Numbers that a call appends, one by one. -/
import Derived.Test.YtappaokjlnpbnaaDoorBase
import Derived.Test.YtappaokjlnpbnaaDoorReaB
import Derived.Test.YtappaokjlnpbnaaDoorGrow
namespace Go.Proofs.YtappaokjlnpbnaaDoor
open Go.RowKit Go.Proofs.YtappaokjlnpbnaaDoorW.PrintWords
set_option linter.unusedVariables false
def OwnN (base : Nat) (w : World) (v : Value) (xs : List Nat) : Prop := w.ownsRow base 25 1 v xs.length (nums .u64 (intsN xs)) ∧ ∀ x ∈ xs, x < 18446744073709551616
theorem OwnN.nil (base : Nat) (w : World) : OwnN base w (.slice none 0 0) [] := ⟨own_nil _ _ _ _, by simp⟩
theorem OwnN.below {base : Nat} {w w' : World} {v : Value} {xs : List Nat} (h : OwnN base w v xs) (hb : Below w.heap.size w w') : OwnN base w' v xs := ⟨pw_own_below h.1 hb, h.2⟩
theorem OwnN.nums {base : Nat} {w : World} {v : Value} {xs : List Nat} (h : OwnN base w v xs) : ∃ A c, v = .slice A xs.length c ∧ Nums w A xs := by
  obtain ⟨A, c, e, hr⟩ := own_reads h.1
  exact ⟨A, c, e, nums_of_reads hr rfl h.2⟩
theorem num_append {P : Program} {ops : Array Oper} {Q : Exit → Act → World → Prop} {rest : List Oper} {o : Oper} {a : Act} {w0 W : World} (hP : P = Tryd.prog) (base : Nat) (hgd : o.guard = none) (s x : Operand) (ho : o.op = .call { callee := .builtin .append, args := #[s, x], argTypes := #[22, 22] })
    (v : Value) (xs : List Nat) (y : Nat) (hs : a.eval s = v) (hx : a.eval x = .slice (some ⟨W.heap.size, 0, none⟩) 1 1) (HO : OwnN base W v xs) (hy : y < 18446744073709551616) (HB : Below base w0 W) (hbase : base ≤ W.heap.size) (hl : xs.length ≤ 100000)
    (h : ∀ v1 w1, OwnN base w1 v1 (xs ++ [y]) → Below base w0 w1 → (∀ v' xs', NeRow v v' → OwnN base W v' xs' → OwnN base w1 v' xs' ∧ NeRow v1 v') → wpList P ops Q rest (a.put o.dst v1) w1) :
    wpList P ops Q (o :: rest) a (W.alloc (.cells #[.int .u64 (y : Int)] 25)) := by
  subst hP
  refine print_append_num (w0 := w0) base hgd s x 22 25 .u64 8 ho Tryd.underlying22 info23 (by decide) v (intsN xs) (y : Int) hs hx (by rw [intsN_length]; exact HO.1) HB hbase (by rw [intsN_length]; omega) ?_
  intro v1 w1 ho1 hb1 hg1 hat1
  refine h v1 w1 ⟨?_, ?_⟩ hb1 ?_
  · have e : intsN (xs ++ [y]) = intsN xs ++ [(y : Int)] := by rw [intsN_append]; rfl
    rw [e]
    rw [List.length_append, intsN_length] at ho1
    rw [List.length_append]
    exact ho1
  · intro z hz
    rcases List.mem_append.1 hz with hz | hz
    · exact HO.2 z hz
    · rw [List.mem_singleton.1 hz]
      exact hy
  · intro v' xs' hne ho'
    exact ⟨⟨own_other ho'.1 hg1 (ne_other hne), ho'.2⟩, ne_append hne hat1 ho'.1⟩
theorem lst_succ (i : Nat) (f : Nat → Nat) : lst (i + 1) f = lst i f ++ [f i] := by simp [lst, List.range_succ]
theorem take_lst {N : Nat} {vals : List Nat} (h : N ≤ vals.length) : lst N (fun i => vals.getD i 0) = vals.take N := by
  apply List.ext_getElem
  · simp [lst]
    omega
  · intro i h1 h2
    simp [lst] at h1 h2
    simp [lst, List.getD, show i < vals.length by omega]
theorem drop_lst {N : Nat} {vals : List Nat} (h : vals.length = 2 * N) : lst N (fun i => vals.getD (N + i) 0) = vals.drop N := by
  apply List.ext_getElem
  · simp [lst]
    omega
  · intro i h1 h2
    simp [lst] at h1 h2
    simp [lst, List.getD, show N + i < vals.length by omega]
theorem Nums.drop {w : World} {b o : Nat} {xs : List Nat} (h : Nums w (some ⟨b, o, none⟩) xs) (t : Nat) : Nums w (some ⟨b, o + t, none⟩) (xs.drop t) :=
  ⟨fun x hx => h.1 x (List.mem_of_mem_drop hx), fun hp => by
    rw [List.length_drop] at hp
    obtain ⟨b', off, e, hlt, hc⟩ := h.2 (by omega)
    obtain ⟨rfl, rfl⟩ : b = b' ∧ o = off := by simpa using e
    refine ⟨b, o + t, rfl, hlt, fun j hj => ?_⟩
    rw [List.length_drop] at hj
    rw [show o + t + j = o + (t + j) by omega, hc (t + j) (by omega), List.getElem_drop]⟩
end Go.Proofs.YtappaokjlnpbnaaDoor
