/- bounds.Hold. -/
import Derived.Test.YtajilghlcfheiaaGreatDoorBndSrt
import Derived.Test.YtajilghlcfheiaaGreatDoorRea
namespace Go.Proofs.YtajilghlcfheiaaGreatDoor.Bnd
set_option maxRecDepth 20000
open Go.RowKit Go.Proofs.YtajilghlcfheiaaGreatDoorW.PrintWords
/-- does one bound hold of values? -/
def oneH (S : SI) (vals : List Nat) (b : Rea.Bd) : Bool := ((valF vals b.av b.an).2 && (valF vals b.bv b.bn).2) && S.below (valF vals b.av b.an).1 (valF vals b.bv b.bn).1
def holdF (S : SI) (vals : List Nat) (L : List Rea.Bd) : Bool := L.all (oneH S vals)
theorem hold_no {S : SI} {vals : List Nat} {L : List Rea.Bd} {k : Nat} (hk : k < L.length) (h : oneH S vals L[k] = false) : holdF S vals L = false := by
  unfold holdF
  rw [List.all_eq_false]
  exact ⟨L[k], List.getElem_mem hk, by rw [h]; simp⟩
theorem hold_yes {S : SI} {vals : List Nat} {L : List Rea.Bd} (h : ∀ k (hk : k < L.length), oneH S vals L[k] = true) : holdF S vals L = true := by
  unfold holdF
  rw [List.all_eq_true]
  intro b hb
  obtain ⟨k, hk, rfl⟩ := List.getElem_of_mem hb
  exact h k hk
theorem val_lt {vals : List Nat} (h : ∀ x ∈ vals, x < 18446744073709551616) (v : Bool) (n : Nat) (hn : n < 18446744073709551616) : (valF vals v n).1 < 18446744073709551616 := by
  unfold valF
  split
  · exact hn
  · split
    · next hl =>
      show vals.getD n 0 < _
      rw [show vals.getD n 0 = vals[n] by simp [List.getD, hl]]
      exact h _ (List.getElem_mem hl)
    · exact (by decide : (0 : Nat) < 18446744073709551616)
theorem bd_at {w : World} {b o : Nat} {L : List Rea.Bd} (h : Rea.Bds w (some ⟨b, o, none⟩) L) {k : Nat} (hk : k < L.length) {d : Rea.Bd} (e : L[k] = d) : (w.cell? ⟨b, o + k * 4, none⟩ = some (.bool d.av) ∧ w.cell? ⟨b, o + k * 4 + 1, none⟩ = some (.int .u64 (d.an : Int))) ∧ (w.cell? ⟨b, o + k * 4 + 2, none⟩ = some (.bool d.bv) ∧ w.cell? ⟨b, o + k * 4 + 3, none⟩ = some (.int .u64 (d.bn : Int))) ∧ d.an < 18446744073709551616 ∧ d.bn < 18446744073709551616 := by
  obtain ⟨b', o', e', c0, c1, c2, c3, l1, l2⟩ := h k hk
  obtain ⟨rfl, rfl⟩ : b = b' ∧ o = o' := by simpa using e'
  rw [e] at c0 c1 c2 c3 l1 l2
  exact ⟨⟨c0, c1⟩, ⟨c2, c3⟩, l1, l2⟩
theorem four_on {W w' : World} {c0 c1 c2 c3 : Value} {e : TypeId} (hb : Below (W.alloc (.cells #[c0, c1, c2, c3] e)).heap.size (W.alloc (.cells #[c0, c1, c2, c3] e)) w') : w'.cell? ⟨W.heap.size, 0, none⟩ = some c0 ∧ w'.cell? ⟨W.heap.size, 1, none⟩ = some c1 ∧ w'.cell? ⟨W.heap.size, 2, none⟩ = some c2 ∧ w'.cell? ⟨W.heap.size, 3, none⟩ = some c3 := by
  have hB := blk_below (heap_alloc_new W (.cells #[c0, c1, c2, c3] e)) hb
  exact ⟨by rw [cell_of_row _ _ _ _ _ _ hB]; rfl, by rw [cell_of_row _ _ _ _ _ _ hB]; rfl, by rw [cell_of_row _ _ _ _ _ _ hB]; rfl, by rw [cell_of_row _ _ _ _ _ _ hB]; rfl⟩
set_option maxRecDepth 20000 in
set_option maxHeartbeats 2000000 in
theorem hold_any (v : Value) (S : SI) (A : Option Addr) (k c : Nat) (vals : List Nat) (hk : k = vals.length) (hmax : k ≤ 9223372036854775807) (A2 : Option Addr) (m c2 : Nat) (L : List Rea.Bd) (hm : m = L.length) (hmm : m ≤ 9223372036854775807) (w : World) (hS : SortN w v S) (hI : Nums w A vals) (hL : Rea.Bds w A2 L) : Calls Tryz.prog 17 #[v, .slice A k c, .slice A2 m c2] w fun e w' => e = .returned (.bool (holdF S vals L)) ∧ Below w.heap.size w w' := by
  have HI := Lib.hid hI
  have HL := Lib.hid hL
  have HK := Lib.hid hk
  have HM := Lib.hid hm
  have HTH := Lib.hid (there_any v S w hS)
  have HNO := Lib.hid (fun k hk h => hold_no (S := S) (vals := vals) (L := L) (k := k) hk h)
  have HYE := Lib.hid (fun h => hold_yes (S := S) (vals := vals) (L := L) h)
  generalize holdF S vals L = r at HNO HYE ⊢
  clear hI hL hk hm hS
  go_enter Tryz.func17, Tryz.ntmps17
  go_wp2_with fail
  refine HTH.out.mono ?_
  rintro e w1 ⟨⟨t, p, rfl, hs⟩, rfl⟩
  obtain ⟨fb, ib, cb⟩ := hs.below
  have hmeth := ib.meth
  have hcall := ib.call
  have HCB := Lib.hid cb
  clear hs ib cb HTH
  go_wp2_with fail
  go_loopw [17] (fun x wr => ∃ i : Nat, i ≤ m ∧ x = .int .i64 i ∧ Hid (∀ j (hj : j < L.length), j < i → oneH S vals L[j] = true) ∧ Hid (Below w.heap.size w wr)) (fun x _ => m - (intOf x).toNat)
  case atStart => exact ⟨0, by omega, rfl, fun j _ h => by omega, Below.refl _ _⟩
  case round =>
    obtain ⟨i, hi, rfl, HH, HB⟩ := hrel
    by_cases him : i < m
    · have hil : i < L.length := by rw [← HM.out]; exact him
      obtain ⟨b, o, rfl, hrest⟩ := HL.out i hil
      clear hrest
      obtain ⟨d, hd⟩ : ∃ d, L[i] = d := ⟨_, rfl⟩
      obtain ⟨⟨c0, c1⟩, ⟨c2, c3⟩, l1, l2⟩ := bd_at (HL.out.below HB.out) hil hd
      have HNI := Lib.hid (HNO.out i hil)
      have HST := Lib.hid (fun (h : oneH S vals d = true) => (show ∀ j (hj : j < L.length), j < i + 1 → oneH S vals L[j] = true from fun j hj hji => by
        by_cases e : j = i
        · subst e
          rw [hd]
          exact h
        · exact HH.out j hj (by omega)))
      rw [hd] at HNI
      have HO := Lib.hid (show oneH S vals d = (((valF vals d.av d.an).2 && (valF vals d.bv d.bn).2) && S.below (valF vals d.av d.an).1 (valF vals d.bv d.bn).1) from rfl)
      have HV1 := Lib.hid (fun W (h : Below w.heap.size w W) => value_any A k c vals HK.out hmax d.av d.an l1 W (HI.out.below h))
      have HV2 := Lib.hid (fun W (h : Below w.heap.size w W) => value_any A k c vals HK.out hmax d.bv d.bn l2 W (HI.out.below h))
      have HX1 := val_lt HI.out.1 d.av d.an l1
      have HX2 := val_lt HI.out.1 d.bv d.bn l2
      generalize oneH S vals d = q at HNI HST HO
      generalize valF vals d.av d.an = x at HV1 HX1 HO
      generalize valF vals d.bv d.bn = y at HV2 HX2 HO
      obtain ⟨x, p1⟩ := x
      obtain ⟨y, p2⟩ := y
      simp only at HX1 HX2
      obtain ⟨av, an, bv, bn⟩ := d
      simp only at c0 c1 c2 c3 l1 l2
      have HBE := Lib.hid (fun W (h : Below w.heap.size w W) => HCB.out W x y h HX1 HX2)
      have HO2 := Lib.hid (show q = ((p1 && p2) && S.below x y) from HO.out)
      generalize S.below x y = p3 at HBE HO2
      have HB1 := Lib.hid (HB.out.alloc HB.out.size (.cells #[.bool av, .int .u64 (an : Int), .bool bv, .int .u64 (bn : Int)] 99))
      have i1 : (0 : Int) ≤ (i : Int) := by omega
      have i2 : (i : Int) < (m : Int) := by omega
      clear hd HO
      go_wp2_with fail
      refine (HV1.out _ HB1.out).mono ?_
      rintro e w2 ⟨rfl, hb2⟩
      obtain ⟨c0', c1', c2', c3'⟩ := four_on hb2
      have HB2 := Lib.hid (on HB1.out hb2)
      clear hb2 c0 c1 c2 c3 HB1 HB
      go_wp2_with fail
      refine (HV2.out _ HB2.out).mono ?_
      rintro e w3 ⟨rfl, hb3⟩
      have HB3 := Lib.hid (on HB2.out hb3)
      clear hb3 HB2 c0' c1' c2' c3'
      cases p1 with
      | false =>
        have HR := Lib.hid (HNI.out HO2.out)
        go_wp2
        go_ret
        exact ⟨by rw [HR.out]; rfl, HB3.out⟩
      | true =>
        cases p2 with
        | false =>
          have HR := Lib.hid (HNI.out HO2.out)
          go_wp2
          go_ret
          exact ⟨by rw [HR.out]; rfl, HB3.out⟩
        | true =>
          go_wp2_with fail
          refine (HBE.out _ HB3.out).mono ?_
          rintro e w4 ⟨rfl, hb4⟩
          have HB4 := Lib.hid (on HB3.out hb4)
          clear hb4 HB3
          cases p3 with
          | false =>
            have HR := Lib.hid (HNI.out HO2.out)
            go_wp2
            go_ret
            exact ⟨by rw [HR.out]; rfl, HB4.out⟩
          | true =>
            have HR := Lib.hid (HST.out HO2.out)
            go_wp2
            go_roundw
            case rel => exact ⟨i + 1, by omega, by go_num, HR.out, HB4.out⟩
            case measure => simp [intOf]; omega
    · obtain rfl : i = m := by omega
      have HR := Lib.hid (HYE.out (fun j hj => HH.out j hj (by rw [HM.out]; exact hj)))
      go_wp2
      go_ret
      exact ⟨by rw [HR.out]; rfl, HB.out⟩
end Go.Proofs.YtajilghlcfheiaaGreatDoor.Bnd
