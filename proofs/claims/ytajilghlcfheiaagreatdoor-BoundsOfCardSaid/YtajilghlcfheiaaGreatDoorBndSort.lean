/- great, and sort. -/
import Derived.Test.YtajilghlcfheiaaGreatDoorBndFullt
import Derived.Test.YtajilghlcfheiaaGreatDoorBndFlds
namespace Go.Proofs.YtajilghlcfheiaaGreatDoor.Bnd
set_option maxRecDepth 20000
open Go.RowKit Go.Proofs.YtajilghlcfheiaaGreatDoorW.PrintWords
set_option linter.unusedVariables false
def greatB (n m k : Nat) : Bool := decide (64 < n ∨ 300 < m ∨ 200 < k)
theorem six_cells (w : World) (a b c d e f : Value) (ty : TypeId) : (w.alloc (.cells #[a, b, c, d, e, f] ty)).cell? ⟨w.heap.size, 0, none⟩ = some a ∧ (w.alloc (.cells #[a, b, c, d, e, f] ty)).cell? ⟨w.heap.size, 1, none⟩ = some b ∧ (w.alloc (.cells #[a, b, c, d, e, f] ty)).cell? ⟨w.heap.size, 2, none⟩ = some c ∧ (w.alloc (.cells #[a, b, c, d, e, f] ty)).cell? ⟨w.heap.size, 3, none⟩ = some d ∧ (w.alloc (.cells #[a, b, c, d, e, f] ty)).cell? ⟨w.heap.size, 4, none⟩ = some e ∧ (w.alloc (.cells #[a, b, c, d, e, f] ty)).cell? ⟨w.heap.size, 5, none⟩ = some f := by
  have k : (w.alloc (.cells #[a, b, c, d, e, f] ty)).heap[w.heap.size]? = some (.cells #[a, b, c, d, e, f] ty (0, 0)) := heap_alloc_new _ _
  refine ⟨?_, ?_, ?_, ?_, ?_, ?_⟩ <;> (rw [cell_of_row _ _ _ _ _ _ k]; rfl)
section
set_option maxRecDepth 20000
set_option maxHeartbeats 2000000
variable (A1 : Option Addr) (n1 c1 : Nat) (s : Bool) (ef vr : Int) (A2 : Option Addr) (m c2 : Nat) (A3 : Option Addr) (k c3 : Nat)
theorem great_any (w : World) : Calls Tryz.prog 7 #[.agg #[.slice A1 n1 c1, .bool s, .int .i64 ef, .int .i64 vr, .slice A2 m c2, .slice A3 k c3]] w fun e w' => e = .returned (.bool (greatB n1 m k)) ∧ Below w.heap.size w w' := by
  obtain ⟨z0, z1, z2, z3, z4, z5⟩ := six_cells w (.slice A1 n1 c1) (.bool s) (.int .i64 ef) (.int .i64 vr) (.slice A2 m c2) (.slice A3 k c3) 25
  have HB := Lib.hid (lit_below w (.cells #[.slice A1 n1 c1, .bool s, .int .i64 ef, .int .i64 vr, .slice A2 m c2, .slice A3 k c3] 25))
  obtain ⟨r, hr⟩ : ∃ r, greatB n1 m k = r := ⟨_, rfl⟩
  have HR := Lib.hid hr
  clear hr
  by_cases h1 : 64 < n1
  · have HE := Lib.hid (show greatB n1 m k = true by unfold greatB; simp; omega)
    have d1 : decide ((n1 : Int) > 64) = true := by simp; omega
    go_enter Tryz.func7, Tryz.ntmps7
    go_wp2
    go_ret
    exact ⟨by rw [HE.out]; rfl, HB.out⟩
  · have d1 : decide ((n1 : Int) > 64) = false := by simp; omega
    by_cases h2 : 300 < m
    · have HE := Lib.hid (show greatB n1 m k = true by unfold greatB; simp; omega)
      have d2 : decide ((m : Int) > 300) = true := by simp; omega
      go_enter Tryz.func7, Tryz.ntmps7
      go_wp2
      go_ret
      exact ⟨by rw [HE.out]; rfl, HB.out⟩
    · have d2 : decide ((m : Int) > 300) = false := by simp; omega
      by_cases h3 : 200 < k
      · have HE := Lib.hid (show greatB n1 m k = true by unfold greatB; simp; omega)
        have d3 : decide ((k : Int) > 200) = true := by simp; omega
        go_enter Tryz.func7, Tryz.ntmps7
        go_wp2
        go_ret
        exact ⟨by rw [HE.out]; rfl, HB.out⟩
      · have HE := Lib.hid (show greatB n1 m k = false by unfold greatB; simp; omega)
        have d3 : decide ((k : Int) > 200) = false := by simp; omega
        go_enter Tryz.func7, Tryz.ntmps7
        go_wp2
        go_ret
        exact ⟨by rw [HE.out]; rfl, HB.out⟩
/-- which sort is asked for. -/
def sortS (rows : List Nat) (s : Bool) (ef : Int) : SI := if s = true then (if ef < 0 ∨ 64 < ef then voidS else effB (Eff.full ef.toNat)) else if checkR rows = 0 then latS rows else voidS
theorem sort_any (rows : List Nat) (hn : n1 = rows.length) (hmax : n1 ≤ 9223372036854775807) (w : World) (hI : Nums w A1 rows) (hT : Tab w) : Calls Tryz.prog 8 #[.agg #[.slice A1 n1 c1, .bool s, .int .i64 ef, .int .i64 vr, .slice A2 m c2, .slice A3 k c3]] w fun e w' => (∃ v, e = .returned v ∧ v ≠ .nilIface ∧ Sorted w' v (sortS rows s ef)) ∧ Below w.heap.size w w' := by
  obtain ⟨z0, z1, z2, z3, z4, z5⟩ := six_cells w (.slice A1 n1 c1) (.bool s) (.int .i64 ef) (.int .i64 vr) (.slice A2 m c2) (.slice A3 k c3) 25
  have HB := Lib.hid (lit_below w (.cells #[.slice A1 n1 c1, .bool s, .int .i64 ef, .int .i64 vr, .slice A2 m c2, .slice A3 k c3] 25))
  have HNN := Lib.hid hn
  have HI := Lib.hid (hI.below HB.out)
  have HT := Lib.hid (hT.below HB.out)
  have HIX := Lib.hid hI.1
  have HMX := Lib.hid hmax
  clear hn hI hT hmax
  cases s with
  | true =>
    by_cases h : ef < 0 ∨ 64 < ef
    · have HN := Lib.hid (fun W => Eff.new_no ef h W)
      have HS := Lib.hid (show sortS rows true ef = voidS by unfold sortS; rw [if_pos rfl, if_pos h])
      clear h
      go_enter Tryz.func8, Tryz.ntmps8
      go_wp2_with fail
      refine (HN.out _).mono ?_
      rintro e w1 ⟨rfl, hb1⟩
      have HB1 := Lib.hid (on HB.out hb1)
      clear hb1
      go_wp2_with fail
      go_ret
      exact ⟨⟨_, rfl, by simp, 88, .pointer none, rfl, by rw [HS.out]; exact eff_sort0 (.not (.inl rfl)), .inr HS.out⟩, HB1.out⟩
    · obtain ⟨x, rfl⟩ : ∃ x : Nat, ef = x := ⟨ef.toNat, by omega⟩
      have hx : x ≤ 64 := by omega
      have HN := Lib.hid (fun W => Eff.new_yes x hx W)
      have HS := Lib.hid (show sortS rows true (x : Int) = effB (Eff.full x) by unfold sortS; rw [if_pos rfl, if_neg h, Int.toNat_natCast])
      have hlt := Eff.full_lt x hx
      clear h
      go_enter Tryz.func8, Tryz.ntmps8
      go_wp2_with fail
      refine (HN.out _).mono ?_
      rintro e w1 ⟨rfl, hw1⟩
      obtain ⟨wz, hwz⟩ : ∃ wz, wz = w.alloc (.cells #[.slice A1 n1 c1, .bool true, .int .i64 (x : Int), .int .i64 vr, .slice A2 m c2, .slice A3 k c3] 25) := ⟨_, rfl⟩
      rw [← hwz] at HB HI HT hw1 z0 z1 z2 z3 z4 z5 ⊢
      have kk : w1.heap[wz.heap.size]? = some (.cells #[.bool true, .int .u64 ((Eff.full x : Nat) : Int)] 129 (0, 0)) := by
        rw [hw1]
        exact heap_alloc_new _ _
      have HTH := Lib.hid (show Eff.There w1 wz.heap.size 0 (Eff.full x) from ⟨by rw [cell_of_row _ _ _ _ _ _ kk]; rfl, by rw [cell_of_row _ _ _ _ _ _ kk]; rfl⟩)
      have HB1 := Lib.hid (on HB.out (show Below wz.heap.size wz w1 by rw [hw1]; exact lit_below _ _))
      clear hw1 kk hwz z0 z1 z2 z3 z4 z5
      go_wp2_with fail
      go_ret
      exact ⟨⟨_, rfl, by simp, 88, _, rfl, by rw [HS.out]; exact eff_sortB hlt (.there hlt HTH.out), .inl (by rw [HS.out]; exact eff_full hlt)⟩, HB1.out⟩
  | false =>
    have HN := Lib.hid (new_any A1 n1 c1 rows HNN.out HMX.out _ HI.out HT.out)
    have HS := Lib.hid (show sortS rows false ef = if checkR rows = 0 then latS rows else voidS by unfold sortS; rw [if_neg (by simp)])
    go_enter Tryz.func8, Tryz.ntmps8
    go_wp2_with fail
    refine HN.out.mono ?_
    rintro e w1 ⟨hb1, ⟨hc, rfl⟩ | ⟨hf, B, rfl, hB, hl⟩⟩
    · have HE := Lib.hid (show sortS rows false ef = voidS by rw [HS.out, if_neg hc])
      have HB1 := Lib.hid (on HB.out hb1)
      have HT1 := Lib.hid (HT.out.below hb1)
      clear hb1 hc HN z0 z1 z2 z3 z4 z5
      go_wp2_with fail
      go_ret
      exact ⟨⟨_, rfl, by simp, 91, .pointer none, rfl, by rw [HE.out]; exact lat_sort0 (.inl ⟨rfl, rfl⟩) HT1.out, .inr HE.out⟩, HB1.out⟩
    · have HE := Lib.hid (show sortS rows false ef = latS rows by rw [HS.out, if_pos ((check_zero HIX.out).2 hf)])
      have HB1 := Lib.hid (on HB.out hb1)
      have HT1 := Lib.hid (HT.out.below hb1)
      have HF := Lib.hid hf
      have HL := Lib.hid hl
      clear hb1 hf hl hB HN z0 z1 z2 z3 z4 z5
      go_wp2_with fail
      go_ret
      exact ⟨⟨_, rfl, by simp, 91, _, rfl, by rw [HE.out]; exact lat_sort (.inr ⟨B, rfl, HL.out⟩) HT1.out, .inl (by rw [HE.out]; exact lat_full HF.out)⟩, HB1.out⟩
end
end Go.Proofs.YtajilghlcfheiaaGreatDoor.Bnd
