/- A row of 64 with another one (reaches.row.and): its contract; and what a bound's side is (reaches.none). -/
import Derived.Test.YtappaokjlnpbnaaDoorByt
import Derived.Test.YtappaokjlnpbnaaDoorReaClo
import Derived.WalkKit
import Derived.Outline
import Derived.Lib.Hide
import Derived.KernelRfl
import Derived.WalkSpells
import Derived.WalkLawsBesides
import Derived.Laws.Rows
import Derived.Laws.Tables
import Derived.Laws.CopyOwn
import Derived.Laws.EntriesVeiled
import Derived.Deep.MidRow
import Derived.Deep.OwnRows
namespace Go.Proofs.YtappaokjlnpbnaaDoor.Rea
open Go.RowKit
theorem ret_bool {b c : Bool} (h : b = c) : Ending.returned (.bool b) = .returned (.bool c) := by rw [h]
/-- one call's world behind another one's. -/
theorem on {a b c : World} (h : Below a.heap.size a b) (k : Below b.heap.size b c) : Below a.heap.size a c := h.trans (k.mono h.size)
theorem alloc_size (w : World) (o : Obj) : (w.alloc o).heap.size = w.heap.size + 1 := Array.size_push ..
/-- so many bools, as cells. -/
def bl (n : Nat) (f : Nat → Bool) : List Value := (List.range n).map fun j => .bool (f j)
theorem bl_length (n : Nat) (f : Nat → Bool) : (bl n f).length = n := by simp [bl]
theorem bl_get (n : Nat) (f : Nat → Bool) (j : Nat) (hj : j < n) : (bl n f)[j]? = some (.bool (f j)) := by simp [bl, hj]
def row (f : Nat → Bool) : Array Value := (bl 64 f).toArray
theorem row_size (f : Nat → Bool) : (row f).size = 64 := by simp [row, bl_length]
theorem row_get (f : Nat → Bool) (j : Nat) (hj : j < 64) : (row f)[j]? = some (.bool (f j)) := by simp [row, bl_get _ f j hj]
def zr : Array Value := Array.replicate 64 (.bool false)
theorem zr_size : zr.size = 64 := by simp [zr]
theorem zero41 (w : World) : (zeroValue 101).run Tryd.prog w = .ok (.agg zr) w := by kernel_rfl
theorem size41 : (Tryd.prog.info? 101).map (·.size) = some 64 := by kernel_rfl
theorem under41 : Tryd.prog.underlying 101 = some (.array 64 4) := by kernel_rfl
theorem row_one (f : Nat → Bool) : (row f).all (·.oneCell') = true := all_oneCell_toArray (by intro v hv; simp [bl] at hv; obtain ⟨a, _, rfl⟩ := hv; rfl)
theorem row_is {w : World} {g : Nat} {f : Nat → Bool} (h : w.heap[g]? = some (.cells (row f) 101 (0, 0))) : w.rowIs g 101 64 (fun j => .bool (f j)) := ⟨row f, h, row_size f, fun i hi => row_get f i hi⟩
theorem is_row {w : World} {g : Nat} {f : Nat → Bool} (h : w.rowIs g 101 64 (fun j => .bool (f j))) : w.heap[g]? = some (.cells (row f) 101 (0, 0)) := by
  obtain ⟨c, h1, h2, h3⟩ := h
  rw [h1]
  congr 2
  apply Array.ext_getElem?
  intro i
  by_cases hi : i < 64
  · rw [h3 i hi, row_get f i hi]
  · rw [Array.getElem?_eq_none (by omega), Array.getElem?_eq_none (by rw [row_size]; omega)]
theorem info4 : (Tryd.prog.info? 4).map (·.size) = some 1 := by kernel_rfl
theorem under4 : Tryd.prog.underlying 4 = some .bool := by kernel_rfl
theorem index_row {w : World} {cs : Array Value} {k : Nat} {b : Bool} (hk : k < 64) (h : cs[k]? = some (.bool b)) : (Instr.index 101 (.agg cs) (.int .i64 (k : Int))).run Tryd.prog w = .ok (.bool b) w := by
  obtain ⟨i, hi, hs⟩ := Option.map_eq_some_iff.1 info4
  have h1 : (0 : Int) ≤ (k : Int) ∧ (k : Int) < ((64 : Nat) : Int) := ⟨by omega, by omega⟩
  simp [Instr.index, run_underlying under41, asIntOf, h1, sizeOf, typeInfo, hi, hs, part, isAgg, run_underlying under4, h, go_sem]
  intro hc
  omega
theorem step_row {w : World} {g k : Nat} {f h : Nat → Bool} {b : Bool} (H : w.rowIs g 101 64 (fun j => .bool (if j < k then f j || h j else f j))) (hb : (f k || h k) = b) : (w.setCell ⟨g, k, none⟩ (.bool b)).rowIs g 101 64 (fun j => .bool (if j < k + 1 then f j || h j else f j)) :=
  (H.set k (.bool b)).congr (by
    intro j _
    by_cases e : j = k
    · subst e
      simp [hb]
    · rw [if_neg e]
      by_cases e2 : j < k
      · rw [if_pos e2, if_pos (by omega)]
      · rw [if_neg e2, if_neg (by omega)])
theorem other_set {w : World} {g b o : Nat} {t : TypeId} {v : Value} (h : ∃ c : Array Value, w.heap[g]? = some (.cells c t (0, 0)) ∧ c.size = 64) (hg : g ≠ b) : ∃ c : Array Value, (w.setCell ⟨b, o, none⟩ v).heap[g]? = some (.cells c t (0, 0)) ∧ c.size = 64 := by
  obtain ⟨c, h1, h2⟩ := h
  exact ⟨c, (Deep.blk_setCell_other _ _ _ _ hg).trans h1, h2⟩
theorem second (w : World) (a b c : Obj) : (((w.alloc a).alloc b).alloc c).heap[w.heap.size + 1]? = some b := by
  rw [Below.heap_alloc _ _ _ (by rw [alloc_size, alloc_size]; omega), ← alloc_size w a]
  exact heap_alloc_new _ _
theorem first_ (w : World) (a b c : Obj) : (((w.alloc a).alloc b).alloc c).heap[w.heap.size]? = some a := by
  rw [Below.heap_alloc _ _ _ (by rw [alloc_size, alloc_size]; omega), Below.heap_alloc _ _ _ (by rw [alloc_size]; omega)]
  exact heap_alloc_new _ _
theorem third (w : World) (a b c : Obj) : (((w.alloc a).alloc b).alloc c).heap[w.heap.size + 1 + 1]? = some c := by
  rw [← alloc_size w a, ← alloc_size (w.alloc a) b]
  exact heap_alloc_new _ _
theorem below3 (w : World) (a b c : Obj) : Below w.heap.size w (((w.alloc a).alloc b).alloc c) :=
  (((Below.refl _ w).alloc (Nat.le_refl _) _).alloc (by rw [alloc_size]; omega) _).alloc (by rw [alloc_size, alloc_size]; omega) _
set_option maxRecDepth 100000 in
set_option maxHeartbeats 1000000 in
theorem and_any (f g : Nat → Bool) (w : World) : Calls Tryd.prog 66 #[.agg (row f), .agg (row g)] w fun e w' => e = .returned (.agg (row fun j => f j || g j)) ∧ Below w.heap.size w w' := by
  obtain ⟨x, hx⟩ : ∃ x, x = row f := ⟨_, rfl⟩
  obtain ⟨y, hy⟩ : ∃ y, y = row g := ⟨_, rfl⟩
  have SZ := Lib.hid (show (Tryd.prog.info? 101).map (·.size) = some x.size by rw [hx, row_size]; exact size41)
  have SY := Lib.hid (show (Tryd.prog.info? 101).map (·.size) = some y.size by rw [hy, row_size]; exact size41)
  have ON := Lib.hid (show x.all (·.oneCell') = true by rw [hx]; exact row_one f)
  rw [← hx, ← hy]
  have HX := Lib.hid hx
  have HY := Lib.hid hy
  clear hx hy
  go_enter Tryd.func66, Tryd.ntmps66
  go_wp2_with (refine wpList_load_row rfl 101 _ rfl (w.heap.size + 1) rfl 101 y (0, 0) _ (second w _ _ _) under41 rfl SY.out ?_)
  generalize hw1 : (((w.alloc _).alloc _).alloc _) = w1
  have H1 := Lib.hid (show w1.rowIs w.heap.size 101 64 (fun j => .bool (f j)) by rw [← hw1]; exact row_is (by rw [first_, HX.out]))
  have H3 := Lib.hid (show ∃ o : Array Value, w1.heap[w.heap.size + 1 + 1]? = some (.cells o 101 (0, 0)) ∧ o.size = 64 by rw [← hw1]; exact ⟨_, third _ _ _ _, rfl⟩)
  have HB := Lib.hid (show Below w.heap.size w w1 by rw [← hw1]; exact below3 _ _ _ _)
  clear hw1
  go_loopw [8] (fun i wr => ∃ k : Nat, k ≤ 64 ∧ i = .int .i64 k ∧ Hid (wr.rowIs w.heap.size 101 64 (fun j => .bool (if j < k then f j || g j else f j))) ∧ Hid (∃ o : Array Value, wr.heap[w.heap.size + 1 + 1]? = some (.cells o 101 (0, 0)) ∧ o.size = 64) ∧ Hid (Below w.heap.size w wr)) (fun i _ => 64 - (intOf i).toNat)
  case atStart => exact ⟨0, by omega, rfl, H1.out.congr (by intro i _; simp), H3.out, HB.out⟩
  case round =>
    clear H1 H3 HB
    obtain ⟨k, hk, rfl, H1, H3, HB⟩ := hrel
    by_cases hlt : k < 64
    · have c1 : wr.cell? ⟨w.heap.size, k, none⟩ = some (.bool (f k)) := by have := H1.out.cell hlt; simpa using this
      have f1 := H1.out.frozen k
      have yk : y[k]? = some (.bool (g k)) := by rw [HY.out]; exact row_get g k hlt
      have yi := fun w => index_row (w := w) hlt yk
      obtain ⟨p, hp⟩ : ∃ p, p = f k := ⟨_, rfl⟩
      obtain ⟨q, hq⟩ : ∃ q, q = g k := ⟨_, rfl⟩
      rw [← hp] at c1
      rw [← hq] at yk yi
      have HP := Lib.hid hp
      have HQ := Lib.hid hq
      clear hp hq
      cases p with
      | false =>
        go_wp2
        go_roundw
        case rel => exact ⟨k + 1, by omega, by go_num, step_row H1.out (by rw [← HP.out, ← HQ.out]; rfl), other_set H3.out (by omega), HB.out.setCell (Nat.le_refl _) _⟩
        case measure => simp [intOf]; omega
      | true =>
        go_wp2
        go_roundw
        case rel => exact ⟨k + 1, by omega, by go_num, step_row H1.out (by rw [← HP.out]; rfl), other_set H3.out (by omega), HB.out.setCell (Nat.le_refl _) _⟩
        case measure => simp [intOf]; omega
    · obtain rfl : k = 64 := by omega
      obtain ⟨r, hr⟩ : ∃ r, r = row (fun j => f j || g j) := ⟨_, rfl⟩
      have HR := Lib.hid (show wr.heap[w.heap.size]? = some (.cells r 101 (0, 0)) by rw [hr]; exact is_row (H1.out.congr (by intro i hi; simp [hi])))
      have SR := Lib.hid (show (Tryd.prog.info? 101).map (·.size) = some r.size by rw [hr, row_size]; exact size41)
      have OR := Lib.hid (show r.all (·.oneCell') = true by rw [hr]; exact row_one _)
      obtain ⟨o, ho, so⟩ := H3.out
      have HO := Lib.hid ho
      have SO := Lib.hid (show o.size = r.size by rw [hr, row_size, so])
      have HRR := Lib.hid hr
      clear hr ho so
      go_wp2_with (first | (refine wpList_load_row rfl 101 _ rfl w.heap.size rfl 101 r (0, 0) _ HR.out under41 rfl SR.out ?_) | (refine wpList_store_row rfl 101 _ _ rfl (w.heap.size + 1 + 1) r rfl rfl 101 o HO.out SR.out SO.out OR.out ?_))
      refine bodyPost_ret_by (v := .agg r) ?_ rfl ?_
      · exact results_cell_row (p := 4) (ty := 101) rfl _ _ (w.heap.size + 1 + 1) 101 r (0, 0) _ rfl (setRow_heap _ _ _ _ _ _ HO.out) under41 rfl SR.out
      · exact ⟨by rw [HRR.out], below_setRow HB.out (by omega) _⟩
end Go.Proofs.YtappaokjlnpbnaaDoor.Rea
