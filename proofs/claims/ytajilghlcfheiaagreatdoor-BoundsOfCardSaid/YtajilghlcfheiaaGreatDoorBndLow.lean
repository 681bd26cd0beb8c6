/- What is alive of lattices; a lattice that the laws make. -/
import Derived.Test.YtajilghlcfheiaaGreatDoorBndLatA
namespace Go.Proofs.YtajilghlcfheiaaGreatDoor.Bnd
set_option maxRecDepth 20000
open Go.RowKit Go.Proofs.YtajilghlcfheiaaGreatDoorW.PrintWords
theorem nums_block {w : World} {B : Nat} {bs : List Nat} {y : Int} (h : w.heap[B]? = some (.cells (nums .u64 (intsN bs ++ [y])).toArray 66 (0, 0))) (hx : ∀ x ∈ bs, x < 18446744073709551616) : Nums w (some ⟨B, 0, none⟩) bs := by
  refine ⟨hx, fun _ => ⟨B, 0, rfl, ?_, fun j hj => ?_⟩⟩
  · exact (Array.getElem?_eq_some_iff.1 h).1
  · rw [Nat.zero_add, blk_nums h j (by rw [List.length_append, intsN_length]; simp; omega), rd_append _ _ _ (by rw [intsN_length]; exact hj)]
    simp [rd, intsN, hj]
theorem nums_cells {w : World} {B : Nat} {bs : List Nat} (h : w.heap[B]? = some (.cells (nums .u64 (intsN bs)).toArray 66 (0, 0))) (hx : ∀ x ∈ bs, x < 18446744073709551616) : Nums w (some ⟨B, 0, none⟩) bs := by
  refine ⟨hx, fun _ => ⟨B, 0, rfl, ?_, fun j hj => ?_⟩⟩
  · exact (Array.getElem?_eq_some_iff.1 h).1
  · rw [Nat.zero_add, blk_nums h j (by rw [intsN_length]; exact hj)]
    simp [rd, intsN, hj]
theorem nums_lit (W : World) (bs : List Nat) (hx : ∀ x ∈ bs, x < 18446744073709551616) : Nums (W.alloc (.cells (nums .u64 (intsN bs)).toArray 66)) (some ⟨W.heap.size, 0, none⟩) bs := nums_cells (heap_alloc_new W _) hx
theorem blk_below {w w' : World} {B : Nat} {o : Obj} (h : w.heap[B]? = some o) (hb : Below w.heap.size w w') : w'.heap[B]? = some o := by
  rw [← h]
  exact hb.block B (Array.getElem?_eq_some_iff.1 h).1
theorem nat_u64 {a : Int} (h : (Lit.int .u64 a).wf = true) : ∃ x : Nat, a = (x : Int) ∧ x < 18446744073709551616 := nat_of_u64r h
theorem lit_below (w : World) (o : Obj) : Below w.heap.size w (w.alloc o) := (Below.refl _ w).alloc (Nat.le_refl _) _
theorem lit_on {w w' : World} {o : Obj} (h : Below (w.alloc o).heap.size (w.alloc o) w') : Below w.heap.size w w' := on (lit_below w o) h
end Go.Proofs.YtajilghlcfheiaaGreatDoor.Bnd
