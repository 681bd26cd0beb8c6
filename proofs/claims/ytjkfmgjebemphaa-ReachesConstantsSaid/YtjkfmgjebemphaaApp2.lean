/- Appending bounds, more: in a row of operations; what lies behind, and ahead; those between two variables. -/
import Derived.Test.YtjkfmgjebemphaaApp
import Derived.WalkKit
namespace Go.Proofs.Ytjkfmgjebemphaa
open Go.RowKit
theorem wpList_own {ops : Array Oper} {rest : List Oper} {o : Oper} {a : Act} {w : World} {Q : Exit → Act → World → Prop} {base : Nat} {v : Value} {K L : List Bd}
    (hg : o.guard = none) (s x : Operand) (hop : o.op = .call { callee := .builtin .append, args := #[s, x], argTypes := #[22, 22] }) (hs : a.eval s = v) (h : Own base w v K)
    (ad : Option Addr) (m cap : Nat) (hx : a.eval x = .slice ad m cap) (hm : m = L.length) (hL : Bds w ad L) (ha : ad = none → v = .slice none 0 0 ∧ cap = 0) (hl : K.length + L.length ≤ 1000) (hb : base ≤ w.heap.size)
    (hk : ∀ v' w', Own base w' v' (K ++ L) → w.grownBy w' v.ownBlock → wpList Try.prog ops Q rest (a.put o.dst v') w') : wpList Try.prog ops Q (o :: rest) a w :=
  wpList_plain hg fun K' hK => by
    subst hm
    obtain ⟨v', w', hrun, r1, r2⟩ := own_append (ty := o.type) h ad cap hL ha hl hb
    unfold Oper.wp
    simp [execOp, hop, resolve, invoke, builtin, hs, hx, hrun, Result.andThen]
    exact hK _ _ (hk v' w' r1 r2)
theorem Bds.drop {w : World} {b o : Nat} {L : List Bd} (h : Bds w (some ⟨b, o, none⟩) L) (k : Nat) : Bds w (some ⟨b, o + k * 4, none⟩) (L.drop k) := by
  intro j hj
  rw [List.length_drop] at hj
  obtain ⟨b', o', e, h0⟩ := h (k + j) (by omega)
  obtain ⟨rfl, rfl⟩ : b = b' ∧ o = o' := by simpa using e
  rw [List.getElem_drop]
  refine ⟨b, o + k * 4, rfl, ?_⟩
  rw [show o + k * 4 + j * 4 = o + (k + j) * 4 by omega]
  exact h0
theorem Bds.take {w : World} {a : Option Addr} {L : List Bd} (h : Bds w a L) (k : Nat) : Bds w a (L.take k) := by
  intro j hj
  rw [List.length_take] at hj
  rw [List.getElem_take]
  exact h j (by omega)
/-- the bounds between two variables. -/
def filt (L : List Bd) : List Bd := L.filter fun b => b.av && b.bv
theorem filt_take (L : List Bd) (k : Nat) (hk : k < L.length) : filt (L.take (k + 1)) = filt (L.take k) ++ (if L[k].av && L[k].bv then [L[k]] else []) := by
  rw [List.take_succ_eq_append_getElem hk]
  unfold filt
  rw [List.filter_append]
  congr 1
  by_cases h : (L[k].av && L[k].bv) = true
  · simp [h]
  · simp [h]
theorem filt_length (L : List Bd) : (filt L).length ≤ L.length := List.length_filter_le _ _
end Go.Proofs.Ytjkfmgjebemphaa
