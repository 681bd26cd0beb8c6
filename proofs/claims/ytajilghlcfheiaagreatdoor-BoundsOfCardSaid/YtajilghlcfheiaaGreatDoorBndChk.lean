/- bounds.Check. -/
import Derived.Test.YtajilghlcfheiaaGreatDoorBndHold
namespace Go.Proofs.YtajilghlcfheiaaGreatDoor.Bnd
set_option maxRecDepth 20000
open Go.RowKit Go.Proofs.YtajilghlcfheiaaGreatDoorW.PrintWords
/-- may a term be? -/
def okT (S : SI) (vars : Nat) (v : Bool) (n : Nat) : Bool := if v then decide (n < vars) else S.has n
def okB (S : SI) (vars : Nat) (b : Rea.Bd) : Bool := okT S vars b.av b.an && okT S vars b.bv b.bn
/-- what Check tells. -/
def chkF (S : SI) (vars : Int) (L : List Rea.Bd) : Nat := if vars < 0 ∨ 64 < vars ∨ 256 < L.length then 3 else if L.all (okB S vars.toNat) = true then 0 else 1
theorem chk_bad {S : SI} {n : Nat} {L : List Rea.Bd} (h1 : n ≤ 64) (h2 : L.length ≤ 256) {k : Nat} (hk : k < L.length) (h : okB S n L[k] = false) : chkF S (n : Int) L = 1 := by
  unfold chkF
  rw [if_neg (by omega), if_neg]
  intro ha
  have := List.all_eq_true.1 ha _ (List.getElem_mem hk)
  rw [Int.toNat_natCast, h] at this
  cases this
theorem chk_ok {S : SI} {n : Nat} {L : List Rea.Bd} (h1 : n ≤ 64) (h2 : L.length ≤ 256) (h : ∀ k (hk : k < L.length), okB S n L[k] = true) : chkF S (n : Int) L = 0 := by
  unfold chkF
  rw [if_neg (by omega), if_pos]
  rw [List.all_eq_true]
  intro b hb
  obtain ⟨k, hk, rfl⟩ := List.getElem_of_mem hb
  exact h k hk
theorem four_cells (W : World) (c0 c1 c2 c3 : Value) (e : TypeId) : (W.alloc (.cells #[c0, c1, c2, c3] e)).cell? ⟨W.heap.size, 0, none⟩ = some c0 ∧ (W.alloc (.cells #[c0, c1, c2, c3] e)).cell? ⟨W.heap.size, 1, none⟩ = some c1 ∧ (W.alloc (.cells #[c0, c1, c2, c3] e)).cell? ⟨W.heap.size, 2, none⟩ = some c2 ∧ (W.alloc (.cells #[c0, c1, c2, c3] e)).cell? ⟨W.heap.size, 3, none⟩ = some c3 := four_on (Below.refl _ _)
theorem index0 (a b c d : Value) (w : World) : (Instr.index 111 (.agg #[a, b, c, d]) (.int .i64 0)).run Tryz.prog w = .ok (.agg #[a, b]) w := by kernel_rfl
theorem index1 (a b c d : Value) (w : World) : (Instr.index 111 (.agg #[a, b, c, d]) (.int .i64 1)).run Tryz.prog w = .ok (.agg #[c, d]) w := by kernel_rfl
set_option maxRecDepth 20000 in
set_option maxHeartbeats 2000000 in
theorem check_in (v : Value) (S : SI) (n : Nat) (h64 : n ≤ 64) (A2 : Option Addr) (m c2 : Nat) (L : List Rea.Bd) (hm : m = L.length) (hmm : m ≤ 256) (w : World) (hS : SortN w v S) (hL : Rea.Bds w A2 L) : Calls Tryz.prog 14 #[v, .int .i64 (n : Int), .slice A2 m c2] w fun e w' => e = .returned (.int .i64 ((chkF S (n : Int) L : Nat) : Int)) ∧ Below w.heap.size w w' := by
  have HL := Lib.hid hL
  have HM := Lib.hid hm
  have HTH := Lib.hid (there_any v S w hS)
  have HNO := Lib.hid (fun k hk h => chk_bad (S := S) (L := L) h64 (by rw [← hm]; exact hmm) (k := k) hk h)
  have HYE := Lib.hid (fun h => chk_ok (S := S) (L := L) h64 (by rw [← hm]; exact hmm) h)
  generalize chkF S (n : Int) L = r at HNO HYE ⊢
  have d1 : decide ((n : Int) < 0) = false := by simp
  have d2 : decide (64 < (n : Int)) = false := by simp; omega
  have d3 : decide (256 < (m : Int)) = false := by simp; omega
  have x0 := index0
  have x1 := index1
  clear hL hm hS
  go_enter Tryz.func14, Tryz.ntmps14
  go_wp2_with fail
  refine HTH.out.mono ?_
  rintro e w1 ⟨⟨t, p, rfl, hs⟩, rfl⟩
  obtain ⟨fh, ih, ch⟩ := hs.has
  have hmeth := ih.meth
  have hcall := ih.call
  have HCH := Lib.hid ch
  clear hs ih ch HTH
  go_wp2_with fail
  go_loopw [26] (fun x wr => ∃ i : Nat, i ≤ m ∧ x = .int .i64 i ∧ Hid (∀ j (hj : j < L.length), j < i → okB S n L[j] = true) ∧ Hid (Below w.heap.size w wr)) (fun x _ => m - (intOf x).toNat)
  case atStart => exact ⟨0, by omega, rfl, fun j _ h => by omega, Below.refl _ _⟩
  case round =>
    obtain ⟨i, hi, rfl, HH, HB⟩ := hrel
    by_cases him : i < m
    · have hil : i < L.length := by rw [← HM.out]; exact him
      obtain ⟨b, o, rfl, hrest⟩ := HL.out i hil
      clear hrest
      obtain ⟨d, hd⟩ : ∃ d, L[i] = d := ⟨_, rfl⟩
      obtain ⟨⟨c0, c1⟩, ⟨c2, c3⟩, l1, l2⟩ := bd_at (HL.out.below HB.out) hil hd
      have HNI := Lib.hid (HNO.out i hil)
      have HST := Lib.hid (fun (h : okB S n d = true) => (show ∀ j (hj : j < L.length), j < i + 1 → okB S n L[j] = true from fun j hj hji => by
        by_cases e : j = i
        · subst e
          rw [hd]
          exact h
        · exact HH.out j hj (by omega)))
      rw [hd] at HNI
      obtain ⟨av, an, bv, bn⟩ := d
      simp only at c0 c1 c2 c3 l1 l2
      have HO := Lib.hid (show okB S n ⟨av, an, bv, bn⟩ = (okT S n av an && okT S n bv bn) from rfl)
      generalize okB S n ⟨av, an, bv, bn⟩ = q at HNI HST HO
      have HB1 := Lib.hid (HB.out.alloc HB.out.size (.cells #[.bool av, .int .u64 (an : Int), .bool bv, .int .u64 (bn : Int)] 99))
      have i1 : (0 : Int) ≤ (i : Int) := by omega
      have i2 : (i : Int) < (m : Int) := by omega
      clear hd HB
      obtain ⟨z0, z1, z2, z3⟩ := four_cells wr (.bool av) (.int .u64 (an : Int)) (.bool bv) (.int .u64 (bn : Int)) 99
      go_wp2_with fail
      have HBO := HB1
      clear HB1 c0 c1 c2 c3 z0 z1 z2 z3
      go_loopw [35] (fun x wq => ∃ j : Nat, j ≤ 2 ∧ x = .int .i64 j ∧ Hid ((1 ≤ j → okT S n av an = true) ∧ (2 ≤ j → okT S n bv bn = true)) ∧ Hid (Below w.heap.size w wq)) (fun x _ => 2 - (intOf x).toNat)
      case atStart => exact ⟨0, by omega, rfl, ⟨fun h => by omega, fun h => by omega⟩, HBO⟩
      case round =>
        clear HBO
        obtain ⟨j, hj, rfl, HJ, HB⟩ := hrel
        by_cases h2 : j < 2
        · have hj2 : j = 0 ∨ j = 1 := by omega
          rcases hj2 with rfl | rfl
          · clear h2 hj
            have HA := Lib.hid (HB.out.alloc HB.out.size (.cells #[.bool av, .int .u64 (an : Int)] 97))
            cases av with
            | true =>
              by_cases hlt : an < n
              · have HT1 := Lib.hid (show okT S n true an = true by unfold okT; simp [hlt])
                have g1 : decide ((n : Int) ≤ (an : Int)) = false := by simp; omega
                have g2 : decide (n ≤ an) = false := by simp; omega
                go_wp2
                go_roundw
                case rel => exact ⟨1, by omega, rfl, ⟨fun _ => HT1.out, fun h => by omega⟩, HA.out⟩
                case measure => simp [intOf]
              · have HT1 := Lib.hid (show okT S n true an = false by unfold okT; simp; omega)
                have g1 : decide ((n : Int) ≤ (an : Int)) = true := by simp; omega
                have g2 : decide (n ≤ an) = true := by simp; omega
                have HR := Lib.hid (HNI.out (by rw [HO.out, HT1.out]; simp))
                go_wp2
                go_ret
                exact ⟨by rw [HR.out]; rfl, HA.out⟩
            | false =>
              have HHAS := Lib.hid (fun W (h : Below w.heap.size w W) => HCH.out W an h (by omega))
              have HT0 := Lib.hid (show okT S n false an = S.has an from rfl)
              generalize S.has an = qh at HHAS HT0
              go_wp2_with fail
              refine (HHAS.out _ HA.out).mono ?_
              rintro e w4 ⟨rfl, hb4⟩
              have HB4 := Lib.hid (on HA.out hb4)
              clear hb4
              cases qh with
              | true =>
                have HT1 := HT0
                go_wp2
                go_roundw
                case rel => exact ⟨1, by omega, rfl, ⟨fun _ => HT1.out, fun h => by omega⟩, HB4.out⟩
                case measure => simp [intOf]
              | false =>
                have HR := Lib.hid (HNI.out (by rw [HO.out, HT0.out]; simp))
                go_wp2
                go_ret
                exact ⟨by rw [HR.out]; rfl, HB4.out⟩
          · clear h2 hj
            have HA := Lib.hid (HB.out.alloc HB.out.size (.cells #[.bool bv, .int .u64 (bn : Int)] 97))
            cases bv with
            | true =>
              by_cases hlt : bn < n
              · have HT1 := Lib.hid (show okT S n true bn = true by unfold okT; simp [hlt])
                have g1 : decide ((n : Int) ≤ (bn : Int)) = false := by simp; omega
                have g2 : decide (n ≤ bn) = false := by simp; omega
                go_wp2
                go_roundw
                case rel => exact ⟨2, by omega, rfl, ⟨fun _ => HJ.out.1 (by omega), fun _ => HT1.out⟩, HA.out⟩
                case measure => simp [intOf]
              · have HT1 := Lib.hid (show okT S n true bn = false by unfold okT; simp; omega)
                have g1 : decide ((n : Int) ≤ (bn : Int)) = true := by simp; omega
                have g2 : decide (n ≤ bn) = true := by simp; omega
                have HR := Lib.hid (HNI.out (by rw [HO.out, HT1.out]; simp))
                go_wp2
                go_ret
                exact ⟨by rw [HR.out]; rfl, HA.out⟩
            | false =>
              have HHAS := Lib.hid (fun W (h : Below w.heap.size w W) => HCH.out W bn h (by omega))
              have HT0 := Lib.hid (show okT S n false bn = S.has bn from rfl)
              generalize S.has bn = qh at HHAS HT0
              go_wp2_with fail
              refine (HHAS.out _ HA.out).mono ?_
              rintro e w4 ⟨rfl, hb4⟩
              have HB4 := Lib.hid (on HA.out hb4)
              clear hb4
              cases qh with
              | true =>
                have HT1 := HT0
                go_wp2
                go_roundw
                case rel => exact ⟨2, by omega, rfl, ⟨fun _ => HJ.out.1 (by omega), fun _ => HT1.out⟩, HB4.out⟩
                case measure => simp [intOf]
              | false =>
                have HR := Lib.hid (HNI.out (by rw [HO.out, HT0.out]; simp))
                go_wp2
                go_ret
                exact ⟨by rw [HR.out]; rfl, HB4.out⟩
        · obtain rfl : j = 2 := by omega
          have HR := Lib.hid (HST.out (by rw [HO.out, HJ.out.1 (by omega), HJ.out.2 (by omega)]; rfl))
          go_wp2
          go_roundw
          case rel => exact ⟨i + 1, by omega, by go_num, HR.out, HB⟩
          case measure => simp [intOf]; omega
    · obtain rfl : i = m := by omega
      have HR := Lib.hid (HYE.out (fun j hj => HH.out j hj (by rw [HM.out]; exact hj)))
      go_wp2
      go_ret
      exact ⟨by rw [HR.out]; rfl, HB.out⟩
end Go.Proofs.YtajilghlcfheiaaGreatDoor.Bnd
