/- The last loop of reaches.Of: lists of bools, one a round, filled out of the matrix. -/
import Derived.Test.YtappaokjlnpbnaaDoorReaMat
import Derived.Laws.IdiomCopy
namespace Go.Proofs.YtappaokjlnpbnaaDoor.Rea
open Go.RowKit
theorem blk_setCells_other {b k : Nat} (hk : k ≠ b) : ∀ (vs : List Value) (o : Nat) (w : World), (w.setCells b o vs).heap[k]? = w.heap[k]?
  | [], _, _ => rfl
  | v :: r, o, w => by
    rw [World.setCells, blk_setCells_other hk r (o + 1) _]
    exact Deep.blk_setCell_other _ _ _ _ hk
theorem below_setCells' {w0 : World} {R : Nat} (hR : w0.heap.size ≤ R) : ∀ (vs : List Value) (o : Nat) (W : World), Below w0.heap.size w0 W → Below w0.heap.size w0 (W.setCells R o vs)
  | [], _, _, h => h
  | v :: r, o, _, h => below_setCells' hR r (o + 1) _ (h.setCell hR v)
/-- the lists that are there behind i rounds. -/
def Outs (w : World) (O n i : Nat) (M : Nat → Nat → Bool) : Prop :=
  ∃ g : Nat → Nat, w.rowIs O 82 n (fun x => if x < i then .slice (some ⟨g x, 0, none⟩) n n else .slice none 0 0) ∧ ∀ x, x < i → g x ≠ O ∧ w.rowIs (g x) 4 n (fun j => .bool (M x j))
theorem out_step {w0 wr : World} {R O n i : Nat} {M : Nat → Nat → Bool} (_hi : i < n) (hT : Mat wr R n M) (hB : Below w0.heap.size w0 wr) (hR : w0.heap.size ≤ R) (hRO : R < O) (H : Outs wr O n i M) :
    Mat ((((wr.alloc (.cells (madeCells #[.bool false] n) 4)).setCell ⟨O, i, none⟩ (.slice (some ⟨wr.heap.size, 0, none⟩) n n)).drew).setCells wr.heap.size 0 (bl n (M i))) R n M ∧
    Below w0.heap.size w0 ((((wr.alloc (.cells (madeCells #[.bool false] n) 4)).setCell ⟨O, i, none⟩ (.slice (some ⟨wr.heap.size, 0, none⟩) n n)).drew).setCells wr.heap.size 0 (bl n (M i))) ∧
    Outs ((((wr.alloc (.cells (madeCells #[.bool false] n) 4)).setCell ⟨O, i, none⟩ (.slice (some ⟨wr.heap.size, 0, none⟩) n n)).drew).setCells wr.heap.size 0 (bl n (M i))) O n (i + 1) M := by
  obtain ⟨g, h1, h2⟩ := H
  have hO := h1.lt
  have hs : w0.heap.size ≤ wr.heap.size := hB.size
  have hRl := hT.lt
  refine ⟨?_, ?_, ?_⟩
  · refine hT.of_block ?_
    rw [blk_setCells_other (by omega)]
    show ((wr.alloc _).setCell _ _).heap[R]? = _
    rw [Deep.blk_setCell_other _ _ _ _ (by show R ≠ O; omega)]
    exact Below.heap_alloc _ _ _ hRl
  · refine below_setCells' hs _ _ _ (Below.drew ?_)
    exact (hB.alloc hs _).setCell (by show w0.heap.size ≤ O; omega) _
  · refine ⟨fun x => if x = i then wr.heap.size else g x, ?_, ?_⟩
    · have a1 := ((h1.alloc (.cells (madeCells #[.bool false] n) 4)).set i (.slice (some ⟨wr.heap.size, 0, none⟩) n n)).drew
      refine (a1.of_block (blk_setCells_other (by omega) _ _ _)).congr ?_
      intro x _
      dsimp only
      by_cases e : x = i
      · rw [if_pos e, if_pos (by omega), if_pos e]
      · rw [if_neg e]
        by_cases e2 : x < i
        · rw [if_pos e2, if_pos (by omega), if_neg e]
        · rw [if_neg e2, if_neg (by omega)]
    · intro x hx
      dsimp only
      by_cases e : x = i
      · subst e
        rw [if_pos rfl]
        refine ⟨by omega, ?_⟩
        have a1 := ((World.rowIs_made wr (.bool false) n 4).setOther (a := ⟨O, x, none⟩) (by show wr.heap.size ≠ O; omega) (.slice (some ⟨wr.heap.size, 0, none⟩) n n)).drew
        refine (rowIs_setCells (bl n (M x)) 0 _ _ a1).congr ?_
        intro j hj
        rw [if_pos (Nat.zero_le _), Nat.sub_zero, bl_get _ _ _ hj]
        rfl
      · rw [if_neg e]
        obtain ⟨k1, k2⟩ := h2 x (by omega)
        have k3 := k2.lt
        refine ⟨k1, ?_⟩
        have a1 := ((k2.alloc (.cells (madeCells #[.bool false] n) 4)).setOther (a := ⟨O, i, none⟩) k1 (.slice (some ⟨wr.heap.size, 0, none⟩) n n)).drew
        exact a1.of_block (blk_setCells_other (by omega) _ _ _)
/-- copy, as one step of a region that draws. -/
theorem step_copy {ops : Array Oper} {o : Oper} {a : Act} {w : World} {K : Act → World → Prop} {Q : Exit → Act → World → Prop} {E : Prop}
    (hg : o.guard = none) (d s : Operand) (hop : o.op = Op.call { callee := Callee.builtin Builtin.copy, args := #[d, s], argTypes := #[82, 82] })
    (b m dc : Nat) (ad : Addr) (sc : Nat) (cs : List Value) (hd : a.eval d = .slice (some ⟨b, 0, none⟩) m dc) (hs : a.eval s = .slice (some ad) m sc) (hu : Tryd.prog.underlying 82 = some (.slice 4)) (hl : cs.length = m)
    (hsrc : ∀ j v, cs[j]? = some v → w.cell? (ad.add j) = some v) (hc : ∀ j, j < cs.length → (w.cell? ⟨b, 0 + j, none⟩).isSome = true) (hf : ∀ j, j < cs.length → w.frozen? ⟨b, 0 + j, none⟩ = false) (h1 : ∀ v ∈ cs, v.oneCell' = true)
    (hK : K (a.put o.dst (goInt cs.length)) (w.setCells b 0 cs)) :
    if Region.wanted o (yielded ops a.tmps) = true then Oper.wp Tryd.prog o a w K Q else E := by
  have hw : Region.wanted o (yielded ops a.tmps) = true := by simp [Region.wanted, hg]
  rw [if_pos hw]
  have hrun := run_copy_cells (P := Tryd.prog) w 82 82 o.type 4 b 0 m dc ad m sc cs hu info4 (by rw [hl]; exact (Nat.min_self m).symm) hsrc hc hf h1
  unfold Oper.wp
  simp [execOp, hop, resolve, invoke, builtin, hd, hs, hrun, Result.andThen]
  exact hK
end Go.Proofs.YtappaokjlnpbnaaDoor.Rea
