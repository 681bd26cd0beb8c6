/- A lattice in memory; Has, both, Below; the label whose row has all of some. -/
import Derived.Test.YtappaokjlnpbnaaDoorFine
import Derived.Deep.QuietTactic
import Derived.BigQuiet
namespace Go.Proofs.YtappaokjlnpbnaaDoor
open Go.RowKit Go.Proofs.YtappaokjlnpbnaaDoorW.PrintWords
/-- a lattice's cells. -/
structure LatAt (w : World) (B : Nat) (rows : List Nat) : Prop where
  many : w.cell? ⟨B, 0, none⟩ = some (.int .i64 (rows.length : Int))
  up : ∀ i, i < rows.length → w.cell? ⟨B, 1 + i, none⟩ = some (.int .u64 ((rows.getD i 0 : Nat) : Int))
  dn : ∀ i, i < rows.length → w.cell? ⟨B, 65 + i, none⟩ = some (.int .u64 (((downs rows).getD i 0 : Nat) : Int))
  ok : rows = [] ∨ Fine rows
/-- a lattice: nil, or one that lies there. -/
def LatV (w : World) (v : Value) (rows : List Nat) : Prop := (v = .pointer none ∧ rows = []) ∨ ∃ B, v = .pointer (some ⟨B, 0, none⟩) ∧ LatAt w B rows
theorem LatAt.below {w w' : World} {B : Nat} {rows : List Nat} (h : LatAt w B rows) (hb : Below w.heap.size w w') : LatAt w' B rows := by
  have hl := World.block_lt_of_cell? w _ h.many
  exact ⟨(hb.cell (p := ⟨B, 0, none⟩) hl).trans h.many, fun i hi => (hb.cell (p := ⟨B, 1 + i, none⟩) hl).trans (h.up i hi), fun i hi => (hb.cell (p := ⟨B, 65 + i, none⟩) hl).trans (h.dn i hi), h.ok⟩
theorem LatV.below {w w' : World} {v : Value} {rows : List Nat} (h : LatV w v rows) (hb : Below w.heap.size w w') : LatV w' v rows := by
  rcases h with h | ⟨B, e, h⟩
  · exact .inl h
  · exact .inr ⟨B, e, h.below hb⟩
theorem LatAt.le {w : World} {B : Nat} {rows : List Nat} (h : LatAt w B rows) : rows.length ≤ 64 := by
  rcases h.ok with rfl | h
  · simp
  · exact h.le
theorem LatAt.lt {w : World} {B : Nat} {rows : List Nat} (h : LatAt w B rows) (i : Nat) : rows.getD i 0 < 18446744073709551616 := by
  rcases h.ok with rfl | hf
  · simp
  · by_cases hi : i < rows.length
    · have := hf.wide i hi
      rw [show 18446744073709551616 = 2 ^ 64 from rfl]
      exact Nat.lt_of_lt_of_le this (Nat.pow_le_pow_right (by omega) hf.le)
    · simp [List.getD, hi]
theorem LatAt.dlt {w : World} {B : Nat} {rows : List Nat} (h : LatAt w B rows) (i : Nat) : (downs rows).getD i 0 < 18446744073709551616 := by
  by_cases hi : i < rows.length
  · rw [show (downs rows).getD i 0 = upBits rows i rows.length by simp [downs, List.getD, hi]]
    have h1 := upBits_lt rows i rows.length
    have h2 : 2 ^ rows.length ≤ 2 ^ 64 := Nat.pow_le_pow_right (by omega) h.le
    rw [show (2 : Nat) ^ 64 = 18446744073709551616 from rfl] at h2
    omega
  · simp [downs, List.getD, hi]
theorem LatV.le {w : World} {v : Value} {rows : List Nat} (h : LatV w v rows) : rows.length ≤ 64 := by
  rcases h with ⟨_, rfl⟩ | ⟨_, _, h⟩
  · simp
  · exact h.le
set_option maxRecDepth 20000 in
theorem has_any (v : Value) (rows : List Nat) (a : Nat) (w : World) (h : LatV w v rows) : Calls Tryd.prog 23 #[v, .int .u64 (a : Int)] w fun e w' => e = .returned (.bool (decide (a < rows.length))) ∧ w = w' := by
  rcases h with ⟨rfl, rfl⟩ | ⟨B, rfl, h⟩
  · go_enter Tryd.func23, Tryd.ntmps23
    go_wp2
    go_ret
    exact ⟨by simp, rfl⟩
  · have c0 := h.many
    have hle := h.le
    generalize rows.length = n at *
    have d1 : decide ((a : Int) < (n : Int)) = decide (a < n) := by rw [decide_eq_decide]; omega
    clear h
    go_enter Tryd.func23, Tryd.ntmps23
    go_wp2
    go_ret
    exact ⟨by simp, rfl⟩
theorem both_any (v : Value) (rows : List Nat) (a b : Nat) (w : World) (h : LatV w v rows) : Calls Tryd.prog 54 #[v, .int .u64 (a : Int), .int .u64 (b : Int)] w fun e w' => e = .returned (.bool (decide (a < rows.length) && decide (b < rows.length))) ∧ w = w' := by
  have H1 := Lib.hid (has_any v rows a w h)
  have H2 := Lib.hid (has_any v rows b w h)
  clear h
  obtain ⟨p, hp⟩ : ∃ p, p = decide (a < rows.length) := ⟨_, rfl⟩
  obtain ⟨q, hq⟩ : ∃ q, q = decide (b < rows.length) := ⟨_, rfl⟩
  rw [← hp] at H1 ⊢
  rw [← hq] at H2 ⊢
  clear hp hq
  cases p with
  | false =>
    go_enter Tryd.func54, Tryd.ntmps54
    go_wp2_with fail
    refine H1.out.mono ?_
    rintro e w1 ⟨rfl, rfl⟩
    go_wp2
    go_ret
    exact ⟨rfl, rfl⟩
  | true =>
    go_enter Tryd.func54, Tryd.ntmps54
    go_wp2_with fail
    refine H1.out.mono ?_
    rintro e w1 ⟨rfl, rfl⟩
    go_wp2_with fail
    refine H2.out.mono ?_
    rintro e w1 ⟨rfl, rfl⟩
    go_wp2
    go_ret
    exact ⟨rfl, rfl⟩
set_option maxRecDepth 20000 in
theorem latbelow_any (v : Value) (rows : List Nat) (a b : Nat) (w : World) (h : LatV w v rows) : Calls Tryd.prog 25 #[v, .int .u64 (a : Int), .int .u64 (b : Int)] w fun e w' => e = .returned (.bool (rowB rows a b)) ∧ w = w' := by
  have H1 := Lib.hid (both_any v rows a b w h)
  by_cases hab : a < rows.length ∧ b < rows.length
  · rw [show (decide (a < rows.length) && decide (b < rows.length)) = true by simp [hab]] at H1
    rcases h with ⟨rfl, rfl⟩ | ⟨B, rfl, h⟩
    · simp at hab
    · have cu := h.up a hab.1
      have hle := h.le
      have hr := h.lt a
      have HR := Lib.hid (rowB_yes (rows := rows) (a := a) (b := b) hab.1 (by omega) hab.2 (by omega))
      rw [show rows[a] = rows.getD a 0 by simp [List.getD, hab.1]] at HR
      generalize rows.getD a 0 = r at *
      have HB := Lib.hid (bit_one r b hr)
      have i1 : (0 : Int) ≤ (a : Int) := by omega
      have i2 : (a : Int) < 64 := by omega
      have i3 : a < 64 := by omega
      have hmin : min b 64 = b := by omega
      clear h hab hle
      go_enter Tryd.func25, Tryd.ntmps25
      go_wp2_with fail
      refine H1.out.mono ?_
      rintro e w1 ⟨rfl, rfl⟩
      go_wp2
      go_ret
      exact ⟨ret_eq (by rw [HR.out, ← HB.out]), rfl⟩
  · rw [show (decide (a < rows.length) && decide (b < rows.length)) = false by simp; omega] at H1
    have HR := Lib.hid (rowB_no (rows := rows) (a := a) (b := b) (by omega))
    clear h hab
    go_enter Tryd.func25, Tryd.ntmps25
    go_wp2_with fail
    refine H1.out.mono ?_
    rintro e w1 ⟨rfl, rfl⟩
    go_wp2
    go_ret
    exact ⟨ret_eq HR.out.symm, rfl⟩
/-- the first of some whose row has all of them; 0: there is none. -/
def firstAll (R : List Nat) (s : Nat) : Nat := ((List.range 64).find? fun j => s.testBit j && (R.getD j 0 &&& s == s)).getD 0
theorem find_first {p : Nat → Bool} {n k : Nat} (hk : k < n) (h : p k = true) (hl : ∀ j, j < k → p j = false) : (List.range n).find? p = some k := by
  rw [List.find?_eq_some_iff_append]
  refine ⟨h, List.range k, (List.range (n - k - 1)).map (k + 1 + ·), ?_, fun j hj => by rw [hl j (List.mem_range.1 hj)]; rfl⟩
  apply List.ext_getElem
  · simp; omega
  · intro i h1 h2
    simp [List.getElem_append, List.getElem_cons]
    split <;> (intro _; omega)
theorem firstAll_at {R : List Nat} {s k : Nat} (hk : k < 64) (h1 : s.testBit k = true) (h2 : R.getD k 0 &&& s = s) (hl : ∀ j, j < k → s.testBit j = true → (R.getD j 0 &&& s) ≠ s) : firstAll R s = k := by
  unfold firstAll
  rw [find_first hk (by rw [h1, h2]; simp) (fun j hj => by
    cases hb : s.testBit j with
    | false => rfl
    | true => simpa using hl j hj hb)]
  rfl
theorem firstAll_no {R : List Nat} {s : Nat} (hl : ∀ j, s.testBit j = true → (R.getD j 0 &&& s) ≠ s) : firstAll R s = 0 := by
  unfold firstAll
  rw [List.find?_eq_none.2]
  · rfl
  · intro j _
    simp only [Bool.and_eq_true, beq_iff_eq, not_and]
    exact hl j
/-- rows that lie in an array of 64. -/
def Arr (w : World) (B off : Nat) (R : List Nat) : Prop := R.length ≤ 64 ∧ ∀ i, i < R.length → w.cell? ⟨B, off + i, none⟩ = some (.int .u64 ((R.getD i 0 : Nat) : Int)) ∧ R.getD i 0 < 18446744073709551616
theorem lowest {x k : Nat} (h0 : x ≠ 0) (hx : x < 18446744073709551616) (e : k = Lib.ctz 64 x) : ∀ j, j < k → x.testBit j = false := by
  intro j hj
  subst e
  obtain ⟨m, hm, hk⟩ := Lib.ctzFrom_spec 64 x (by omega) (by rw [show (2 : Nat) ^ 64 = 18446744073709551616 from rfl]; exact hx)
  have e : Lib.ctz 64 x = Lib.ctzFrom 64 x := by simp [Lib.ctz, h0]
  rw [e] at hj
  generalize Lib.ctzFrom 64 x = k at hm hj
  rw [hm, Nat.testBit_two_pow_mul]
  simp
  omega
set_option maxRecDepth 20000 in
set_option maxHeartbeats 1000000 in
theorem rall_any (B off : Nat) (R : List Nat) (s : Nat) (hs : s < 18446744073709551616) (hsn : ∀ j, s.testBit j = true → j < R.length) (w : World) (hA : Arr w B off R) (hT : Tab w) : Calls Tryd.prog 70 #[.pointer (some ⟨B, off, none⟩), .int .u64 (s : Int)] w fun e w' => e = .returned (.int .u64 ((firstAll R s : Nat) : Int)) ∧ w = w' := by
  have HA := Lib.hid hA
  have HT := Lib.hid hT
  have HSN := Lib.hid hsn
  clear hA hT hsn
  go_enter Tryd.func70, Tryd.ntmps70
  go_wp2
  go_loop [5] (fun v => ∃ x : Nat, v = .int .u64 x ∧ x < 18446744073709551616 ∧ Hid (∀ j, x.testBit j = true → s.testBit j = true) ∧ Hid (∀ j, s.testBit j = true → x.testBit j = true ∨ (R.getD j 0 &&& s) ≠ s)) (fun v => (intOf v).toNat)
  case atStart => exact ⟨s, rfl, hs, fun _ h => h, fun _ h => .inl h⟩
  case round =>
    obtain ⟨x, rfl, hx, H1, H2⟩ := hrel
    by_cases h0 : x = 0
    · subst h0
      have HR := Lib.hid (show firstAll R s = 0 from firstAll_no fun j hj => by
        rcases H2.out j hj with h | h
        · simp at h
        · exact h)
      go_wp2
      go_ret
      exact ⟨by rw [HR.out]; rfl, rfl⟩
    · have d1 : ((x : Int) != 0) = true := by simp; omega
      obtain ⟨k1, k2, k3, k4⟩ := clear_low x h0 hx
      have HZ := Lib.hid (tz_any x h0 hx w HT.out)
      have HLOW := Lib.hid (lowest h0 hx rfl)
      generalize Lib.ctz 64 x = k at k1 k2 k3 HZ HLOW
      have hsk := H1.out k k2
      have hkn := HSN.out k hsk
      obtain ⟨hck, hr⟩ := HA.out.2 k hkn
      have HGD := Lib.hid (rfl : R.getD k 0 = R.getD k 0)
      have HNF := Lib.hid (fun h2 => firstAll_at (R := R) k1 hsk h2 (fun j hj hb => by
        rcases H2.out j hb with h | h
        · rw [HLOW.out j hj] at h; cases h
        · exact h))
      have HX20 := Lib.hid (fun (hne : R.getD k 0 &&& s ≠ s) => (show ∀ j, s.testBit j = true → (x &&& (x - 1)).testBit j = true ∨ (R.getD j 0 &&& s) ≠ s from fun j hj => by
          by_cases hjk : j = k
          · subst hjk
            exact .inr hne
          · rcases H2.out j hj with h | h
            · left
              rw [k3, h]
              simpa using hjk
            · exact .inr h))
      obtain ⟨r, hr'⟩ : ∃ r, r = R.getD k 0 := ⟨_, rfl⟩
      rw [← hr'] at hck hr HNF HX20
      clear hr' HGD
      have ha := and_nat r s hr hs
      have ha2 := and_nat x (x - 1) hx (by omega)
      have hsub : (x : Int) - 1 = ((x - 1 : Nat) : Int) := by omega
      rw [← hsub] at ha2
      have i1 : (0 : Int) ≤ (k : Int) := by omega
      have i2 : (k : Int) < 64 := by omega
      have hle : x &&& (x - 1) < 18446744073709551616 := by omega
      have hx1 : 1 ≤ x := by omega
      by_cases hrs : r &&& s = s
      · have d2 : (((r &&& s : Nat) : Int) == (s : Int)) = true := by rw [hrs]; simp
        have HR := Lib.hid (HNF.out hrs)
        rw [hrs] at ha
        clear d2 hrs k3 k4 hle hsub ha2 HNF HX20
        go_wp2_with fail
        refine HZ.out.mono ?_
        rintro e w1 ⟨rfl, rfl⟩
        go_wp2
        go_ret
        exact ⟨by rw [HR.out]; rfl, rfl⟩
      · have HX1 := Lib.hid (show ∀ j, (x &&& (x - 1)).testBit j = true → s.testBit j = true from fun j hj => by
          rw [k3, Bool.and_eq_true] at hj
          exact H1.out j hj.1)
        have HX2 := Lib.hid (HX20.out hrs)
        have d2 : (((r &&& s : Nat) : Int) == (s : Int)) = false := by rw [beq_eq_false_iff_ne]; omega
        generalize r &&& s = rs at *
        have HK4 := Lib.hid k4
        clear hrs k3 hsub k4 HNF HX20
        generalize x &&& (x - 1) = y at *
        go_wp2_with fail
        refine HZ.out.mono ?_
        rintro e w1 ⟨rfl, rfl⟩
        go_wp2
        go_round
        case rel => exact ⟨y, by rfl, hle, HX1, HX2⟩
        case measure => have := HK4.out; simp [intOf]; omega
end Go.Proofs.YtappaokjlnpbnaaDoor
