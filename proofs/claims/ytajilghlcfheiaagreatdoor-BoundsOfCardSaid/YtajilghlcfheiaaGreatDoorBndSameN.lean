/- The same numbers (SameNums); numbers that are written out. -/
import Derived.Test.YtajilghlcfheiaaGreatDoorBndSort
import Derived.Test.YtajilghlcfheiaaGreatDoorBndLim
import Derived.Test.YtajilghlcfheiaaGreatDoorRea
namespace Go.Proofs.YtajilghlcfheiaaGreatDoor.Bnd
set_option maxRecDepth 20000
open Go.RowKit Go.Proofs.YtajilghlcfheiaaGreatDoorW.PrintWords
set_option linter.unusedVariables false
theorem same_head {n k : Nat} {xs ys : List Nat} (hx : n = xs.length) (hy : n = ys.length) (h : ∀ j, j < k → xs[j]? = ys[j]?) (hk : k = n) : decide (xs = ys) = true := by
  rw [decide_eq_true_eq]
  apply List.ext_getElem?
  intro i
  by_cases hi : i < n
  · exact h i (by omega)
  · rw [List.getElem?_eq_none (by omega), List.getElem?_eq_none (by omega)]
theorem same_not {k : Nat} {xs ys : List Nat} (hk : xs[k]? ≠ ys[k]?) : decide (xs = ys) = false := by
  rw [decide_eq_false_iff_not]
  intro e
  exact hk (by rw [e])
set_option maxRecDepth 20000 in
set_option maxHeartbeats 1000000 in
theorem same_nums (A : Option Addr) (n c : Nat) (A2 : Option Addr) (m c2 : Nat) (xs ys : List Nat) (hn : n = xs.length) (hm : m = ys.length) (hnm : n ≤ 9223372036854775807) (hmm : m ≤ 9223372036854775807) (w : World) (h1 : Nums w A xs) (h2 : Nums w A2 ys) :
    Calls Tryz.prog 16 #[.slice A n c, .slice A2 m c2] w fun e w' => e = .returned (.bool (decide (xs = ys))) ∧ Below w.heap.size w w' := by
  have HN := Lib.hid hn
  have HM := Lib.hid hm
  have H1 := Lib.hid h1
  have H2 := Lib.hid h2
  clear h1 h2
  by_cases hnm2 : n = m
  · have HE := Lib.hid (fun h => same_head (xs := xs) (ys := ys) (n := n) (k := n) hn (by rw [← hm, ← hnm2]) h rfl)
    have HF := Lib.hid (fun k => same_not (xs := xs) (ys := ys) (k := k))
    obtain ⟨q, hq⟩ : ∃ q, q = decide (xs = ys) := ⟨_, rfl⟩
    rw [← hq] at HE HF ⊢
    subst hnm2
    clear hn hm hq
    have d1 : ((n : Int) != (n : Int)) = false := by simp
    go_enter Tryz.func16, Tryz.ntmps16
    go_wp2
    go_loopw [5] (fun i wr => ∃ k : Nat, k ≤ n ∧ i = .int .i64 k ∧ Hid (∀ j, j < k → xs[j]? = ys[j]?) ∧ ∃ q, wr = w.drewN q) (fun i _ => n - (intOf i).toNat)
    case atStart => exact ⟨0, by omega, rfl, fun j h => by omega, 0, rfl⟩
    case round =>
      obtain ⟨k, hk, rfl, HH, qd, rfl⟩ := hrel
      by_cases hlt : k < n
      · have hkl : k < xs.length := by rw [← HN.out]; exact hlt
        have hkl2 : k < ys.length := by rw [← HM.out]; exact hlt
        obtain ⟨b, off, rfl, _, hc⟩ := H1.out.2 (by omega)
        obtain ⟨b2, off2, rfl, _, hc2⟩ := H2.out.2 (by omega)
        have hx := hc k hkl
        have hx2 := hc2 k hkl2
        have HX : Hid (xs[k]? = some xs[k]) := Lib.hid (List.getElem?_eq_getElem hkl)
        have HY : Hid (ys[k]? = some ys[k]) := Lib.hid (List.getElem?_eq_getElem hkl2)
        generalize xs[k] = X at hx HX
        generalize ys[k] = Y at hx2 HY
        have i1 : (0 : Int) ≤ (k : Int) := by omega
        have i2 : (k : Int) < (n : Int) := by omega
        clear hc hc2
        by_cases hXY : X = Y
        · subst hXY
          have dX : ((X : Int) != (X : Int)) = false := by simp
          go_wp2
          go_quiet (fail)
          go_wp2
          go_roundw
          case rel => exact ⟨k + 1, by omega, by go_num, fun j hj => by
            by_cases e : j = k
            · subst e
              rw [HX.out, HY.out]
            · exact HH.out j (by omega), _, rfl⟩
          case measure => simp [intOf]; omega
        · have dX : ((X : Int) != (Y : Int)) = true := by simp; omega
          have HR := Lib.hid (HF.out k (by rw [HX.out, HY.out]; intro e; exact hXY (Option.some.inj e)))
          go_wp2
          go_quiet (fail)
          go_wp2
          go_ret
          exact ⟨by rw [HR.out]; rfl, pw_below_drewN (pw_below_drewN (Below.refl _ _) _) _⟩
      · obtain rfl : k = n := by omega
        have HR := Lib.hid (HE.out HH.out)
        go_wp2
        go_ret
        exact ⟨by rw [HR.out]; rfl, pw_below_drewN (Below.refl _ _) _⟩
  · have HR := Lib.hid (show decide (xs = ys) = false by
      rw [decide_eq_false_iff_not]
      intro e
      exact hnm2 (by rw [hn, hm, e]))
    clear hn hm
    have d1 : ((n : Int) != (m : Int)) = true := by simp; omega
    go_enter Tryz.func16, Tryz.ntmps16
    go_wp2
    go_ret
    exact ⟨by rw [HR.out]; rfl, Below.refl _ _⟩
theorem bds0 (w : World) (A : Option Addr) : Rea.Bds w A [] := fun k hk => absurd hk (Nat.not_lt_zero k)
theorem bds1 (W : World) (av : Bool) (an : Nat) (bv : Bool) (bn : Nat) (h1 : an < 18446744073709551616) (h2 : bn < 18446744073709551616) : Rea.Bds (W.alloc (.cells #[.bool av, .int .u64 (an : Int), .bool bv, .int .u64 (bn : Int)] 99)) (some ⟨W.heap.size, 0, none⟩) [⟨av, an, bv, bn⟩] := by
  have k := heap_alloc_new W (.cells #[.bool av, .int .u64 (an : Int), .bool bv, .int .u64 (bn : Int)] 99)
  intro i hi
  obtain rfl : i = 0 := by simp at hi; omega
  refine ⟨W.heap.size, 0, rfl, ?_, ?_, ?_, ?_, h1, h2⟩ <;> (rw [cell_of_row _ _ _ _ _ _ k]; rfl)
theorem bds2 (W : World) (av : Bool) (an : Nat) (bv : Bool) (bn : Nat) (h1 : an < 18446744073709551616) (h2 : bn < 18446744073709551616) (av' : Bool) (an' : Nat) (bv' : Bool) (bn' : Nat) (h1' : an' < 18446744073709551616) (h2' : bn' < 18446744073709551616) : Rea.Bds (W.alloc (.cells #[.bool av, .int .u64 (an : Int), .bool bv, .int .u64 (bn : Int), .bool av', .int .u64 (an' : Int), .bool bv', .int .u64 (bn' : Int)] 99)) (some ⟨W.heap.size, 0, none⟩) [⟨av, an, bv, bn⟩, ⟨av', an', bv', bn'⟩] := by
  have k := heap_alloc_new W (.cells #[.bool av, .int .u64 (an : Int), .bool bv, .int .u64 (bn : Int), .bool av', .int .u64 (an' : Int), .bool bv', .int .u64 (bn' : Int)] 99)
  intro i hi
  have : i = 0 ∨ i = 1 := by simp at hi; omega
  rcases this with rfl | rfl
  · refine ⟨W.heap.size, 0, rfl, ?_, ?_, ?_, ?_, h1, h2⟩ <;> (rw [cell_of_row _ _ _ _ _ _ k]; rfl)
  · refine ⟨W.heap.size, 0, rfl, ?_, ?_, ?_, ?_, h1', h2'⟩ <;> (rw [cell_of_row _ _ _ _ _ _ k]; rfl)
/-- the sort that is asked for first. -/
theorem fine3 : checkR [7, 6, 4] = 0 := by decide
theorem sort3 : sortS [7, 6, 4] false 0 = latS [7, 6, 4] := by
  unfold sortS
  rw [if_neg (by decide), if_pos fine3]
theorem full3 : Full (latS [7, 6, 4]) := lat_full ((check_zero (by decide)).1 fine3)
def la1 : List Rea.Bd := [⟨false, 1, true, 0⟩, ⟨true, 0, true, 1⟩]
def la2 : List Rea.Bd := [⟨false, 2, true, 0⟩, ⟨true, 0, false, 1⟩]
def la3 : List Rea.Bd := [⟨true, 1, true, 0⟩]
def la4 : List Rea.Bd := [⟨false, 3, false, 3⟩]
theorem a1 {w w' : World} {e : Ending} (h : SolvedI (latS [7, 6, 4]) 2 la1 w e w') : Below w.heap.size w w' ∧ ∃ Bl Bh, e = .returned (.tuple #[.slice (some ⟨Bl, 0, none⟩) 2 2, .slice (some ⟨Bh, 0, none⟩) 2 2, .int .i64 0]) ∧ Nums w' (some ⟨Bl, 0, none⟩) [1, 1] ∧ Nums w' (some ⟨Bh, 0, none⟩) [2, 2] := by
  have hc : chkF (latS [7, 6, 4]) 2 la1 = 0 := by decide
  have s1 : Sol (latS [7, 6, 4]) 2 la1 (fun _ => 1) := ⟨by decide, by decide⟩
  have s2 : Sol (latS [7, 6, 4]) 2 la1 (fun _ => 2) := ⟨by decide, by decide⟩
  obtain ⟨hb, ⟨h, _⟩ | ⟨_, h, _⟩ | ⟨_, f, g, Bl, Bh, hf, hg, rfl, _, _, r1, r2⟩⟩ := h
  · exact absurd hc h
  · exact absurd ⟨_, s1⟩ h
  · have t1 := hf.1.2 ⟨false, 1, true, 0⟩ (by simp [la1])
    have t2 := hf.1.2 ⟨true, 0, true, 1⟩ (by simp [la1])
    simp only [tv_true, tv_false] at t1 t2
    have f0 := full3.anti _ _ (hf.2 _ s1 0 (by decide)) t1
    have f1 := full3.anti _ _ (hf.2 _ s1 1 (by decide)) (full3.trans _ _ _ t1 t2)
    have T : ∀ x, (latS [7, 6, 4]).has x = true → (latS [7, 6, 4]).below x 2 = true := fun x hx => (by decide : ∀ x, x < 3 → (latS [7, 6, 4]).below x 2 = true) x (by simpa [latS] using hx)
    have g0 := full3.anti _ _ (hg.2 _ s2 0 (by decide)) (T _ (hg.1.1 0 (by decide)))
    have g1 := full3.anti _ _ (hg.2 _ s2 1 (by decide)) (T _ (hg.1.1 1 (by decide)))
    have e1 : lst 2 f = [1, 1] := by show [f 0, f 1] = _; rw [f0, f1]
    have e2 : lst 2 g = [2, 2] := by show [g 0, g 1] = _; rw [← g0, ← g1]
    have n1 := RowN.nums r1 (fun i hi => full3.lt _ (hf.1.1 i hi))
    have n2 := RowN.nums r2 (fun i hi => full3.lt _ (hg.1.1 i hi))
    exact ⟨hb, Bl, Bh, rfl, e1 ▸ n1, e2 ▸ n2⟩
theorem a2 {w w' : World} {e : Ending} (h : SolvedI (latS [7, 6, 4]) 1 la2 w e w') : Below w.heap.size w w' ∧ e = .returned (.tuple #[.slice none 0 0, .slice none 0 0, .int .i64 10]) := by
  have hc : chkF (latS [7, 6, 4]) 1 la2 = 0 := by decide
  obtain ⟨hb, ⟨h, _⟩ | ⟨_, h, e⟩ | ⟨_, f, g, Bl, Bh, hf, hg, rfl, _, _, r1, r2⟩⟩ := h
  · exact absurd hc h
  · exact ⟨hb, e⟩
  · have t1 := hf.1.2 ⟨false, 2, true, 0⟩ (by simp [la2])
    have t2 := hf.1.2 ⟨true, 0, false, 1⟩ (by simp [la2])
    simp only [tv_true, tv_false] at t1 t2
    exact absurd (full3.trans _ _ _ t1 t2) (by decide)
theorem aN {w w' : World} {e : Ending} {L : List Rea.Bd} {vars : Int} {k : Nat} (hc : chkF (latS [7, 6, 4]) vars L = k) (hk : k ≠ 0) (h : SolvedI (latS [7, 6, 4]) vars L w e w') : Below w.heap.size w w' ∧ e = .returned (.tuple #[.slice none 0 0, .slice none 0 0, .int .i64 (k : Int)]) := by
  obtain ⟨hb, ⟨_, e⟩ | ⟨h, _⟩ | ⟨h, _⟩⟩ := h
  · exact ⟨hb, by rw [e, hc]⟩
  · exact absurd (hc.symm.trans h) hk
  · exact absurd (hc.symm.trans h) hk
end Go.Proofs.YtajilghlcfheiaaGreatDoor.Bnd
