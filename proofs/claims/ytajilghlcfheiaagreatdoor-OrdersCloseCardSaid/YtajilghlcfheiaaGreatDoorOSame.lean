/- orders.Close in the Book's seat: whatever n; the same numbers. -/
import Derived.Test.YtajilghlcfheiaaGreatDoorOClose
namespace Go.Proofs.YtajilghlcfheiaaGreatDoor.Ord
open Go.RowKit Go.Proofs.YtajilghlcfheiaaGreatDoorW.PrintWords
theorem intsN_length (bs : List Nat) : (intsN bs).length = bs.length := by simp [intsN]
theorem blk_nums {w : World} {g : Nat} {e : TypeId} {k : IntKind} {xs : List Int} (h : w.heap[g]? = some (.cells (nums k xs).toArray e (0, 0))) (j : Nat) (hj : j < xs.length) : w.cell? ⟨g, j, none⟩ = some (.int k (rd xs (j : Int))) := by
  rw [blk_cell h]
  simp [nums, rd, hj]
theorem same_head {n k : Nat} {xs ys : List Nat} (hx : n = xs.length) (hy : n = ys.length) (h : ∀ j, j < k → xs[j]? = ys[j]?) (hk : k = n) : decide (xs = ys) = true := by
  rw [decide_eq_true_eq]
  apply List.ext_getElem?
  intro i
  by_cases hi : i < n
  · exact h i (by omega)
  · rw [List.getElem?_eq_none (by omega), List.getElem?_eq_none (by omega)]
theorem same_not {k : Nat} {xs ys : List Nat} (hk : xs[k]? ≠ ys[k]?) : decide (xs = ys) = false := by
  rw [decide_eq_false_iff_not]
  intro e
  exact hk (by rw [e])
set_option maxRecDepth 20000 in
set_option maxHeartbeats 1000000 in
theorem same_nums (A : Option Addr) (n c : Nat) (A2 : Option Addr) (m c2 : Nat) (xs ys : List Nat) (hn : n = xs.length) (hm : m = ys.length) (hnm : n ≤ 9223372036854775807) (hmm : m ≤ 9223372036854775807) (w : World) (h1 : Nums w A xs) (h2 : Nums w A2 ys) :
    Calls Tryz.prog 16 #[.slice A n c, .slice A2 m c2] w fun e w' => e = .returned (.bool (decide (xs = ys))) ∧ Below w.heap.size w w' := by
  have HN := Lib.hid hn
  have HM := Lib.hid hm
  have H1 := Lib.hid h1
  have H2 := Lib.hid h2
  clear h1 h2
  by_cases hnm2 : n = m
  · have HE := Lib.hid (fun h => same_head (xs := xs) (ys := ys) (n := n) (k := n) hn (by rw [← hm, ← hnm2]) h rfl)
    have HF := Lib.hid (fun k => same_not (xs := xs) (ys := ys) (k := k))
    obtain ⟨q, hq⟩ : ∃ q, q = decide (xs = ys) := ⟨_, rfl⟩
    rw [← hq] at HE HF ⊢
    subst hnm2
    clear hn hm hq
    have d1 : ((n : Int) != (n : Int)) = false := by simp
    go_enter Tryz.func16, Tryz.ntmps16
    go_wp2
    go_loopw [5] (fun i wr => ∃ k : Nat, k ≤ n ∧ i = .int .i64 k ∧ Hid (∀ j, j < k → xs[j]? = ys[j]?) ∧ ∃ q, wr = w.drewN q) (fun i _ => n - (intOf i).toNat)
    case atStart => exact ⟨0, by omega, rfl, fun j h => by omega, 0, rfl⟩
    case round =>
      obtain ⟨k, hk, rfl, HH, qd, rfl⟩ := hrel
      by_cases hlt : k < n
      · have hkl : k < xs.length := by rw [← HN.out]; exact hlt
        have hkl2 : k < ys.length := by rw [← HM.out]; exact hlt
        obtain ⟨b, off, rfl, _, hc⟩ := H1.out.2 (by omega)
        obtain ⟨b2, off2, rfl, _, hc2⟩ := H2.out.2 (by omega)
        have hx := hc k hkl
        have hx2 := hc2 k hkl2
        have HX : Hid (xs[k]? = some xs[k]) := Lib.hid (List.getElem?_eq_getElem hkl)
        have HY : Hid (ys[k]? = some ys[k]) := Lib.hid (List.getElem?_eq_getElem hkl2)
        generalize xs[k] = X at hx HX
        generalize ys[k] = Y at hx2 HY
        have i1 : (0 : Int) ≤ (k : Int) := by omega
        have i2 : (k : Int) < (n : Int) := by omega
        clear hc hc2
        by_cases hXY : X = Y
        · subst hXY
          have dX : ((X : Int) != (X : Int)) = false := by simp
          go_wp2
          go_quiet (fail)
          go_wp2
          go_roundw
          case rel => exact ⟨k + 1, by omega, by go_num, fun j hj => by
            by_cases e : j = k
            · subst e
              rw [HX.out, HY.out]
            · exact HH.out j (by omega), _, rfl⟩
          case measure => simp [intOf]; omega
        · have dX : ((X : Int) != (Y : Int)) = true := by simp; omega
          have HR := Lib.hid (HF.out k (by rw [HX.out, HY.out]; intro e; exact hXY (Option.some.inj e)))
          go_wp2
          go_quiet (fail)
          go_wp2
          go_ret
          exact ⟨by rw [HR.out]; rfl, pw_below_drewN (pw_below_drewN (Below.refl _ _) _) _⟩
      · obtain rfl : k = n := by omega
        have HR := Lib.hid (HE.out HH.out)
        go_wp2
        go_ret
        exact ⟨by rw [HR.out]; rfl, pw_below_drewN (Below.refl _ _) _⟩
  · have HR := Lib.hid (show decide (xs = ys) = false by
      rw [decide_eq_false_iff_not]
      intro e
      exact hnm2 (by rw [hn, hm, e]))
    clear hn hm
    have d1 : ((n : Int) != (m : Int)) = true := by simp; omega
    go_enter Tryz.func16, Tryz.ntmps16
    go_wp2
    go_ret
    exact ⟨by rw [HR.out]; rfl, Below.refl _ _⟩
theorem nums_cells {w : World} {B : Nat} {bs : List Nat} (h : w.heap[B]? = some (.cells (nums .u64 (intsN bs)).toArray 66 (0, 0))) (hx : ∀ x ∈ bs, x < 18446744073709551616) : Nums w (some ⟨B, 0, none⟩) bs := by
  refine ⟨hx, fun _ => ⟨B, 0, rfl, ?_, fun j hj => ?_⟩⟩
  · exact (Array.getElem?_eq_some_iff.1 h).1
  · rw [Nat.zero_add, blk_nums h j (by rw [intsN_length]; exact hj)]
    simp [rd, intsN, hj]
theorem nums_lit (W : World) (bs : List Nat) (hx : ∀ x ∈ bs, x < 18446744073709551616) : Nums (W.alloc (.cells (nums .u64 (intsN bs)).toArray 66)) (some ⟨W.heap.size, 0, none⟩) bs := nums_cells (heap_alloc_new W _) hx
theorem blk_below2 {w w' : World} {B : Nat} {o : Obj} (h : w.heap[B]? = some o) (hb : Below w.heap.size w w') : w'.heap[B]? = some o := by
  rw [← h]
  exact hb.block B (Array.getElem?_eq_some_iff.1 h).1
theorem lit_below (w : World) (o : Obj) : Below w.heap.size w (w.alloc o) := (Below.refl _ w).alloc (Nat.le_refl _) _
theorem lit_on {w w' : World} {o : Obj} (h : Below (w.alloc o).heap.size (w.alloc o) w') : Below w.heap.size w w' := on (lit_below w o) h
theorem close_out (n : Int) (h : n < 1 ∨ 64 < n) (A : Option Addr) (m c : Nat) (ps : List (Int × Int)) (w : World) : Calls Tryz.prog 35 #[.int .i64 n, .slice A m c] w (CloseSays n ps w) := by
  by_cases h1 : n < 1
  · have d1 : decide (n < 1) = true := by simpa using h1
    go_enter Tryz.func35, Tryz.ntmps35
    go_wp2
    refine wp_scope_jumps2 0 (fun _ _ => False) (fun _ _ => 0) rfl (fun _ _ h => h.elim) (fun _ => ?_)
    go_wp2
    simp only [Exit.jump]
    go_ret2
    exact ⟨Below.refl _ _, .inl ⟨.inl h1, rfl⟩⟩
  · have h2 : 64 < n := by omega
    have d1 : decide (n < 1) = false := by simpa using h1
    have d2 : decide (64 < n) = true := by simpa using h2
    go_enter Tryz.func35, Tryz.ntmps35
    go_wp2
    refine wp_scope_jumps2 0 (fun _ _ => False) (fun _ _ => 0) rfl (fun _ _ h => h.elim) (fun _ => ?_)
    go_wp2
    simp only [Exit.jump]
    go_ret2
    exact ⟨Below.refl _ _, .inl ⟨.inr (.inl h2), rfl⟩⟩
theorem close_all (n : Int) (A : Option Addr) (m c : Nat) (ps : List (Int × Int)) (hm : m = ps.length) (hmm : m ≤ 1000000) (w : World) (hP : Prs w A ps) : Calls Tryz.prog 35 #[.int .i64 n, .slice A m c] w (CloseSays n ps w) := by
  by_cases h : n < 1 ∨ 64 < n
  · exact close_out n h A m c ps w
  · obtain ⟨k, rfl⟩ := Int.eq_ofNat_of_zero_le (show 0 ≤ n by omega)
    exact close_any k A m c ps hm hmm (by omega) (by omega) w hP
end Go.Proofs.YtajilghlcfheiaaGreatDoor.Ord
