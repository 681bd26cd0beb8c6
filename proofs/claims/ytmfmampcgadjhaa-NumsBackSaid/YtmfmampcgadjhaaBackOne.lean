/- What is put is got, whatever stands behind it (plain); appends in a drawn region. -/
import Derived.Test.YtmfmampcgadjhaaSame
import Derived.Test.YtmfmampcgadjhaaTake
import Derived.Deep.Upon
namespace Go.Proofs.Ytmfmampcgadjhaa
open Go.RowKit Go.Proofs.YtmfmampcgadjhaaW.PrintWords
theorem four_put (y : Nat) (hy : y < 4294967296) (rest : List UInt8) : four (four4 y ++ rest) = (y, 0) := by
  unfold four four4
  rw [if_neg (by simp)]
  simp only [fourN, List.cons_append, List.nil_append, List.getD_cons_zero, List.getD_cons_succ]
  simp only [UInt8.toNat_ofNat']
  congr 1
  omega
theorem text_put (l rest : List UInt8) (hl : l.length ≤ 400000) : text (num l.length ++ l ++ rest) = (l, (num l.length).length + l.length, 0) := by
  have hg := get_num l.length (by omega) (l ++ rest)
  rw [← List.append_assoc] at hg
  unfold text
  rw [hg, if_pos rfl, if_neg (by simp only [List.length_append]; omega)]
  have e : ((num l.length ++ l ++ rest).drop (num l.length).length).take l.length = l := by
    rw [List.append_assoc, List.drop_left, List.take_left]
  rw [e]
theorem num_pos' (x : Nat) : 1 ≤ (num x).length := by
  unfold num
  rw [numF]
  split <;> simp
theorem get_short (l : List UInt8) (hl : l = []) : get l = (0, 0, 5) := by subst hl; rfl
theorem text_cut (l : List UInt8) (hl : l.length ≤ 400000) : text ((num l.length ++ l).take ((num l.length).length + l.length - 1)) = ([], 0, 5) := by
  have hp := num_pos' l.length
  by_cases h0 : l.length = 0
  · have hl0 : l = [] := List.eq_nil_of_length_eq_zero h0
    subst hl0
    have e : (num ([] : List UInt8).length ++ ([] : List UInt8)).take ((num ([] : List UInt8).length).length + ([] : List UInt8).length - 1) = [] := by decide
    rw [e]
    rfl
  · have e : (num l.length ++ l).take ((num l.length).length + l.length - 1) = num l.length ++ l.take (l.length - 1) := by
      rw [List.take_append, List.take_of_length_le (by omega)]
      congr 2
      omega
    have hg := get_num l.length (by omega) (l.take (l.length - 1))
    rw [e]
    unfold text
    rw [hg, if_pos rfl, if_pos (by simp only [List.length_append, List.length_take]; omega)]
theorem nums_append' (a b : List UInt8) : nums .u8 (ints (a ++ b)) = nums .u8 (ints a) ++ nums .u8 (ints b) := by rw [ints_append, nums_append]
theorem bytes_append {base n₀ : Nat} {w : World} {ty : TypeId} {v : Value} {xs ys : List UInt8} (h : Row w base v xs) (A : Option Addr) (m c : Nat) (hm : m = ys.length) (hb : Bytes w n₀ A ys) (hs : xs.length + m ≤ 1000000) (hbase : base ≤ w.heap.size) :
    ∃ v' w', (Builtin.append_ #[22, 22] ty #[v, .slice A m c]).run Try.prog w = .ok v' w' ∧ Row w' base v' (xs ++ ys) ∧ w.grownBy w' v.ownBlock := by
  obtain ⟨i0, hi, hz0, hz1, hz2⟩ := info_parts info5
  subst hm
  have hlx : (ints xs).length = xs.length := ints_length xs
  cases A with
  | none =>
    have hy : ys = [] := by
      cases ys with
      | nil => rfl
      | cons y ys => obtain ⟨_, _, e, _⟩ := hb.2 (by simp); cases e
    subst hy
    obtain ⟨A0, c0, e, hle, _⟩ := h.bytes
    refine ⟨v, w, ?_, by rw [List.append_nil]; exact h, World.grownBy.refl w _⟩
    subst e
    cases A0 <;> simp [Builtin.append_, run_underlying under22, sizeOf, typeInfo, hi, Builtin.lenOf, Builtin.firstCells, hle, storeCells]
  | some ad =>
    have hcells : ∀ j u, (nums .u8 (ints ys))[j]? = some u → w.cell? (ad.add j) = some u := by
      intro j u hu
      obtain ⟨ad', e, hc⟩ := bytes_src hb (by have := (List.getElem?_eq_some_iff.1 hu).1; omega)
      cases e
      exact hc j u hu
    obtain ⟨v', w', hr, ho, hg, _⟩ := run_append_own (P := Try.prog) w base 22 ty 5 i0 (.int .u8 0) 1 1 under22 hi hz0 hz1 hz2 rfl (by decide) v (ints xs).length (nums .u8 (ints xs)) h ad ys.length c (nums .u8 (ints ys)) (by rw [nums_length, ints_length, Nat.mul_one]) hcells (nums_one ys) (by unfold maxLen; omega) (by omega) hbase
    refine ⟨v', w', hr, ?_, hg⟩
    unfold Row
    rw [nums_append', ints_append, List.length_append, ints_length ys]
    exact ho
theorem step_bytes {ops : Array Oper} {o : Oper} {a : Act} {w : World} {K' : Act → World → Prop} {Q : Exit → Act → World → Prop} {E : Prop} {base n₀ : Nat} {v : Value} {xs ys : List UInt8}
    (hg : o.guard = none) (s x : Operand) (hop : o.op = .call { callee := .builtin .append, args := #[s, x], argTypes := #[22, 22] }) (hs : a.eval s = v) (h : Row w base v xs)
    (A : Option Addr) (m c : Nat) (hx : a.eval x = .slice A m c) (hm : m = ys.length) (hb : Bytes w n₀ A ys) (hl : xs.length + m ≤ 1000000) (hbase : base ≤ w.heap.size)
    (hK : ∀ v' w', Row w' base v' (xs ++ ys) → w.grownBy w' v.ownBlock → K' (a.put o.dst v') w') :
    if Region.wanted o (yielded ops a.tmps) = true then Oper.wp Try.prog o a w K' Q else E := by
  have hw : Region.wanted o (yielded ops a.tmps) = true := by simp [Region.wanted, hg]
  rw [if_pos hw]
  obtain ⟨v', w', hrun, r1, r2⟩ := bytes_append (ty := o.type) h A m c hm hb hl hbase
  unfold Oper.wp
  simp [execOp, hop, resolve, invoke, builtin, hs, hx, hrun, Result.andThen]
  exact hK v' w' r1 r2
theorem Bytes.drop {w : World} {n₀ b off : Nat} {bs : List UInt8} (h : Bytes w n₀ (some ⟨b, off, none⟩) bs) (t : Nat) : Bytes w n₀ (some ⟨b, off + t, none⟩) (bs.drop t) :=
  ⟨by have := h.1; rw [List.length_drop]; omega, fun hp => by
    rw [List.length_drop] at hp
    obtain ⟨b', off', e, hlt, hc⟩ := h.2 (by omega)
    obtain ⟨rfl, rfl⟩ : b = b' ∧ off = off' := by simpa using e
    refine ⟨b, off + t, rfl, hlt, fun j hj => ?_⟩
    rw [List.length_drop] at hj
    rw [Nat.add_assoc, hc (t + j) (by omega), List.getElem_drop]⟩
theorem Row.lt {w : World} {base : Nat} {v : Value} {bs : List UInt8} (h : Row w base v bs) : ∀ k, v.ownBlock = some k → base ≤ k := fun k hk => (World.ownsRow.lt h k hk).1
end Go.Proofs.Ytmfmampcgadjhaa
