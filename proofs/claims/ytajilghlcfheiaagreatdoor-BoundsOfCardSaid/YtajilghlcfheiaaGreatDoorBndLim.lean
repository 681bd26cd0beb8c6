/- Check, Solve where there are too many. -/
import Derived.Test.YtajilghlcfheiaaGreatDoorBndSol
namespace Go.Proofs.YtajilghlcfheiaaGreatDoor.Bnd
set_option maxRecDepth 20000
open Go.RowKit Go.Proofs.YtajilghlcfheiaaGreatDoorW.PrintWords
set_option linter.unusedVariables false
set_option maxRecDepth 20000
set_option maxHeartbeats 2000000
def Lim (vars : Int) (m : Nat) : Prop := vars < 0 ∨ 64 < vars ∨ 256 < m
theorem lim_chk {S : SI} {vars : Int} {m : Nat} {L : List Rea.Bd} (hm : m = L.length) (h : Lim vars m) : chkF S vars L = 3 := by
  unfold chkF
  rw [if_pos]
  rw [← hm]
  exact h
theorem check_lim (v : Value) (S : SI) (vars : Int) (A2 : Option Addr) (m c2 : Nat) (h : Lim vars m) (w : World) (hS : SortN w v S) : Calls Tryz.prog 14 #[v, .int .i64 vars, .slice A2 m c2] w fun e w' => e = .returned (.int .i64 3) ∧ Below w.heap.size w w' := by
  have HTH := Lib.hid (there_any v S w hS)
  clear hS
  by_cases h1 : vars < 0
  · have d1 : decide (vars < 0) = true := by simp; omega
    clear h h1
    go_enter Tryz.func14, Tryz.ntmps14
    go_wp2_with fail
    refine HTH.out.mono ?_
    rintro e w1 ⟨⟨t, p, rfl, hs⟩, rfl⟩
    clear hs HTH
    go_wp2_with fail
    go_ret
    exact ⟨rfl, Below.refl _ _⟩
  · have d1 : decide (vars < 0) = false := by simp; omega
    by_cases h2 : 64 < vars
    · have d2 : decide (vars > 64) = true := by simp; omega
      clear h h1 h2
      go_enter Tryz.func14, Tryz.ntmps14
      go_wp2_with fail
      refine HTH.out.mono ?_
      rintro e w1 ⟨⟨t, p, rfl, hs⟩, rfl⟩
      clear hs HTH
      go_wp2_with fail
      go_ret
      exact ⟨rfl, Below.refl _ _⟩
    · have d2 : decide (vars > 64) = false := by simp; omega
      have d3 : decide ((m : Int) > 256) = true := by
        simp
        rcases h with h | h | h <;> omega
      clear h h1 h2
      go_enter Tryz.func14, Tryz.ntmps14
      go_wp2_with fail
      refine HTH.out.mono ?_
      rintro e w1 ⟨⟨t, p, rfl, hs⟩, rfl⟩
      clear hs HTH
      go_wp2_with fail
      go_ret
      exact ⟨rfl, Below.refl _ _⟩
theorem solve_lim (v : Value) (S : SI) (vars : Int) (A2 : Option Addr) (m c2 : Nat) (h : Lim vars m) (w : World) (hS : SortN w v S) : Calls Tryz.prog 12 #[v, .int .i64 vars, .slice A2 m c2] w fun e w' => e = .returned (.tuple #[.slice none 0 0, .slice none 0 0, .int .i64 3]) ∧ Below w.heap.size w w' := by
  have HTH := Lib.hid (there_any v S w hS)
  have HCK := Lib.hid (fun (t : TypeId) (p : Value) (hs : SortC w t p S) => check_lim (.iface t p) S vars A2 m c2 h w (.inr ⟨t, p, rfl, hs⟩))
  clear hS h
  go_enter Tryz.func12, Tryz.ntmps12
  go_wp2_with fail
  refine HTH.out.mono ?_
  rintro e w1 ⟨⟨t, p, rfl, hs⟩, rfl⟩
  have HC := Lib.hid (HCK.out t p hs)
  clear hs HTH HCK
  go_wp2_with fail
  refine HC.out.mono ?_
  rintro e w1 ⟨rfl, hb1⟩
  have HB1 := Lib.hid hb1
  clear hb1 HC
  go_wp2_with fail
  go_ret3
  exact ⟨rfl, HB1.out⟩
/-- what Solve tells, whatever is asked. -/
def SolvedI (S : SI) (vars : Int) (L : List Rea.Bd) (w : World) (e : Ending) (w' : World) : Prop :=
  Below w.heap.size w w' ∧
    ((chkF S vars L ≠ 0 ∧ e = .returned (.tuple #[.slice none 0 0, .slice none 0 0, .int .i64 ((chkF S vars L : Nat) : Int)])) ∨
      (chkF S vars L = 0 ∧ (¬ ∃ f, Sol S vars.toNat L f) ∧ e = .returned (.tuple #[.slice none 0 0, .slice none 0 0, .int .i64 10])) ∨
      (chkF S vars L = 0 ∧ ∃ f g Bl Bh, Low S vars.toNat L f ∧ High S vars.toNat L g ∧ e = .returned (.tuple #[.slice (some ⟨Bl, 0, none⟩) vars.toNat vars.toNat, .slice (some ⟨Bh, 0, none⟩) vars.toNat vars.toNat, .int .i64 0]) ∧ w.heap.size ≤ Bl ∧ (w.heap.size ≤ Bh ∧ Bl ≠ Bh) ∧ RowN w' Bl vars.toNat f ∧ RowN w' Bh vars.toNat g))
theorem solved_all (v : Value) (S : SI) (hFN : Full S ∨ None S) (vars : Int) (A2 : Option Addr) (m c2 : Nat) (L : List Rea.Bd) (hm : m = L.length) (w : World) (hS : SortN w v S) (hL : Rea.Bds w A2 L) :
    Calls Tryz.prog 12 #[v, .int .i64 vars, .slice A2 m c2] w (SolvedI S vars L w) := by
  by_cases h : Lim vars m
  · refine (solve_lim v S vars A2 m c2 h w hS).mono ?_
    rintro e w' ⟨rfl, hb⟩
    have := lim_chk (S := S) hm h
    exact ⟨hb, .inl ⟨by rw [this]; decide, by rw [this]; rfl⟩⟩
  · unfold Lim at h
    obtain ⟨N, rfl⟩ : ∃ N : Nat, vars = N := ⟨vars.toNat, by omega⟩
    refine (solved_any v S hFN N (by omega) A2 m c2 L hm (by omega) w hS hL).mono ?_
    intro e w' h
    unfold SolvedI
    rw [Int.toNat_natCast]
    exact h
theorem check_all (v : Value) (S : SI) (vars : Int) (A2 : Option Addr) (m c2 : Nat) (L : List Rea.Bd) (hm : m = L.length) (w : World) (hS : SortN w v S) (hL : Rea.Bds w A2 L) :
    Calls Tryz.prog 14 #[v, .int .i64 vars, .slice A2 m c2] w fun e w' => e = .returned (.int .i64 ((chkF S vars L : Nat) : Int)) ∧ Below w.heap.size w w' := by
  by_cases h : Lim vars m
  · refine (check_lim v S vars A2 m c2 h w hS).mono ?_
    rintro e w' ⟨rfl, hb⟩
    exact ⟨by rw [lim_chk (S := S) hm h]; rfl, hb⟩
  · unfold Lim at h
    obtain ⟨N, rfl⟩ : ∃ N : Nat, vars = N := ⟨vars.toNat, by omega⟩
    exact check_in v S N (by omega) A2 m c2 L hm (by omega) w hS hL
end Go.Proofs.YtajilghlcfheiaaGreatDoor.Bnd
