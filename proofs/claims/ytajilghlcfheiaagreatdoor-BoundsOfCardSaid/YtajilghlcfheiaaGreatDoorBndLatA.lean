/- A lattice in memory; Has, both, Below; the label whose row has all of some. -/
import Derived.Test.YtajilghlcfheiaaGreatDoorBndFine
import Derived.Deep.QuietTactic
import Derived.BigQuiet
import Derived.Deep.Cut
import Derived.Deep.CutRange
namespace Go.Proofs.YtajilghlcfheiaaGreatDoor.Bnd
set_option maxRecDepth 20000
open Go.RowKit Go.Proofs.YtajilghlcfheiaaGreatDoorW.PrintWords
/-- a lattice's cells. -/
structure LatAt (w : World) (B : Nat) (rows : List Nat) : Prop where
  many : w.cell? ⟨B, 0, none⟩ = some (.int .i64 (rows.length : Int))
  up : ∀ i, i < rows.length → w.cell? ⟨B, 1 + i, none⟩ = some (.int .u64 ((rows.getD i 0 : Nat) : Int))
  dn : ∀ i, i < rows.length → w.cell? ⟨B, 65 + i, none⟩ = some (.int .u64 (((downs rows).getD i 0 : Nat) : Int))
  ok : rows = [] ∨ Fine rows
/-- a lattice: nil, or one that lies there. -/
def LatV (w : World) (v : Value) (rows : List Nat) : Prop := (v = .pointer none ∧ rows = []) ∨ ∃ B, v = .pointer (some ⟨B, 0, none⟩) ∧ LatAt w B rows
theorem LatAt.below {w w' : World} {B : Nat} {rows : List Nat} (h : LatAt w B rows) (hb : Below w.heap.size w w') : LatAt w' B rows := by
  have hl := World.block_lt_of_cell? w _ h.many
  exact ⟨(hb.cell (p := ⟨B, 0, none⟩) hl).trans h.many, fun i hi => (hb.cell (p := ⟨B, 1 + i, none⟩) hl).trans (h.up i hi), fun i hi => (hb.cell (p := ⟨B, 65 + i, none⟩) hl).trans (h.dn i hi), h.ok⟩
theorem LatV.below {w w' : World} {v : Value} {rows : List Nat} (h : LatV w v rows) (hb : Below w.heap.size w w') : LatV w' v rows := by
  rcases h with h | ⟨B, e, h⟩
  · exact .inl h
  · exact .inr ⟨B, e, h.below hb⟩
theorem LatAt.le {w : World} {B : Nat} {rows : List Nat} (h : LatAt w B rows) : rows.length ≤ 64 := by
  rcases h.ok with rfl | h
  · simp
  · exact h.le
theorem LatAt.lt {w : World} {B : Nat} {rows : List Nat} (h : LatAt w B rows) (i : Nat) : rows.getD i 0 < 18446744073709551616 := by
  rcases h.ok with rfl | hf
  · simp
  · by_cases hi : i < rows.length
    · have := hf.wide i hi
      rw [show 18446744073709551616 = 2 ^ 64 from rfl]
      exact Nat.lt_of_lt_of_le this (Nat.pow_le_pow_right (by omega) hf.le)
    · simp [List.getD, hi]
theorem LatAt.dlt {w : World} {B : Nat} {rows : List Nat} (h : LatAt w B rows) (i : Nat) : (downs rows).getD i 0 < 18446744073709551616 := by
  by_cases hi : i < rows.length
  · rw [show (downs rows).getD i 0 = upBits rows i rows.length by simp [downs, List.getD, hi]]
    have h1 := upBits_lt rows i rows.length
    have h2 : 2 ^ rows.length ≤ 2 ^ 64 := Nat.pow_le_pow_right (by omega) h.le
    rw [show (2 : Nat) ^ 64 = 18446744073709551616 from rfl] at h2
    omega
  · simp [downs, List.getD, hi]
theorem LatV.le {w : World} {v : Value} {rows : List Nat} (h : LatV w v rows) : rows.length ≤ 64 := by
  rcases h with ⟨_, rfl⟩ | ⟨_, _, h⟩
  · simp
  · exact h.le
set_option maxRecDepth 20000 in
theorem has_any (v : Value) (rows : List Nat) (a : Nat) (w : World) (h : LatV w v rows) : Calls Tryz.prog 220 #[v, .int .u64 (a : Int)] w fun e w' => e = .returned (.bool (decide (a < rows.length))) ∧ w = w' := by
  rcases h with ⟨rfl, rfl⟩ | ⟨B, rfl, h⟩
  · go_enter Tryz.func220, Tryz.ntmps220
    go_wp2
    go_ret
    exact ⟨by simp, rfl⟩
  · have c0 := h.many
    have hle := h.le
    generalize rows.length = n at *
    have d1 : decide ((a : Int) < (n : Int)) = decide (a < n) := by rw [decide_eq_decide]; omega
    clear h
    go_enter Tryz.func220, Tryz.ntmps220
    go_wp2
    go_ret
    exact ⟨by simp, rfl⟩
theorem both_any (v : Value) (rows : List Nat) (a b : Nat) (w : World) (h : LatV w v rows) : Calls Tryz.prog 224 #[v, .int .u64 (a : Int), .int .u64 (b : Int)] w fun e w' => e = .returned (.bool (decide (a < rows.length) && decide (b < rows.length))) ∧ w = w' := by
  have H1 := Lib.hid (has_any v rows a w h)
  have H2 := Lib.hid (has_any v rows b w h)
  clear h
  obtain ⟨p, hp⟩ : ∃ p, p = decide (a < rows.length) := ⟨_, rfl⟩
  obtain ⟨q, hq⟩ : ∃ q, q = decide (b < rows.length) := ⟨_, rfl⟩
  rw [← hp] at H1 ⊢
  rw [← hq] at H2 ⊢
  clear hp hq
  cases p with
  | false =>
    go_enter Tryz.func224, Tryz.ntmps224
    go_wp2_with fail
    refine H1.out.mono ?_
    rintro e w1 ⟨rfl, rfl⟩
    go_wp2
    go_ret
    exact ⟨rfl, rfl⟩
  | true =>
    go_enter Tryz.func224, Tryz.ntmps224
    go_wp2_with fail
    refine H1.out.mono ?_
    rintro e w1 ⟨rfl, rfl⟩
    go_wp2_with fail
    refine H2.out.mono ?_
    rintro e w1 ⟨rfl, rfl⟩
    go_wp2
    go_ret
    exact ⟨rfl, rfl⟩
set_option maxRecDepth 20000 in
theorem latbelow_any (v : Value) (rows : List Nat) (a b : Nat) (w : World) (h : LatV w v rows) : Calls Tryz.prog 218 #[v, .int .u64 (a : Int), .int .u64 (b : Int)] w fun e w' => e = .returned (.bool (rowB rows a b)) ∧ w = w' := by
  have H1 := Lib.hid (both_any v rows a b w h)
  by_cases hab : a < rows.length ∧ b < rows.length
  · rw [show (decide (a < rows.length) && decide (b < rows.length)) = true by simp [hab]] at H1
    rcases h with ⟨rfl, rfl⟩ | ⟨B, rfl, h⟩
    · simp at hab
    · have cu := h.up a hab.1
      have hle := h.le
      have hr := h.lt a
      have HR := Lib.hid (rowB_yes (rows := rows) (a := a) (b := b) hab.1 (by omega) hab.2 (by omega))
      rw [show rows[a] = rows.getD a 0 by simp [List.getD, hab.1]] at HR
      generalize rows.getD a 0 = r at *
      have HB := Lib.hid (bit_one r b hr)
      have i1 : (0 : Int) ≤ (a : Int) := by omega
      have i2 : (a : Int) < 64 := by omega
      have i3 : a < 64 := by omega
      have hmin : min b 64 = b := by omega
      clear h hab hle
      go_enter Tryz.func218, Tryz.ntmps218
      go_wp2_with fail
      refine H1.out.mono ?_
      rintro e w1 ⟨rfl, rfl⟩
      go_wp2
      go_ret
      exact ⟨ret_eq (by rw [HR.out, ← HB.out]), rfl⟩
  · rw [show (decide (a < rows.length) && decide (b < rows.length)) = false by simp; omega] at H1
    have HR := Lib.hid (rowB_no (rows := rows) (a := a) (b := b) (by omega))
    clear h hab
    go_enter Tryz.func218, Tryz.ntmps218
    go_wp2_with fail
    refine H1.out.mono ?_
    rintro e w1 ⟨rfl, rfl⟩
    go_wp2
    go_ret
    exact ⟨ret_eq HR.out.symm, rfl⟩
/-- the first of some whose row has all of them; 0: there is none. -/
def firstAll (R : List Nat) (s : Nat) : Nat := ((List.range 64).find? fun j => s.testBit j && (R.getD j 0 &&& s == s)).getD 0
theorem find_first {p : Nat → Bool} {n k : Nat} (hk : k < n) (h : p k = true) (hl : ∀ j, j < k → p j = false) : (List.range n).find? p = some k := by
  rw [List.find?_eq_some_iff_append]
  refine ⟨h, List.range k, (List.range (n - k - 1)).map (k + 1 + ·), ?_, fun j hj => by rw [hl j (List.mem_range.1 hj)]; rfl⟩
  apply List.ext_getElem
  · simp; omega
  · intro i h1 h2
    simp [List.getElem_append, List.getElem_cons]
    split <;> (intro _; omega)
theorem firstAll_at {R : List Nat} {s k : Nat} (hk : k < 64) (h1 : s.testBit k = true) (h2 : R.getD k 0 &&& s = s) (hl : ∀ j, j < k → s.testBit j = true → (R.getD j 0 &&& s) ≠ s) : firstAll R s = k := by
  unfold firstAll
  rw [find_first hk (by rw [h1, h2]; simp) (fun j hj => by
    cases hb : s.testBit j with
    | false => rfl
    | true => simpa using hl j hj hb)]
  rfl
theorem firstAll_no {R : List Nat} {s : Nat} (hl : ∀ j, s.testBit j = true → (R.getD j 0 &&& s) ≠ s) : firstAll R s = 0 := by
  unfold firstAll
  rw [List.find?_eq_none.2]
  · rfl
  · intro j _
    simp only [Bool.and_eq_true, beq_iff_eq, not_and]
    exact hl j
/-- rows that lie in an array of 64. -/
def Arr (w : World) (B off : Nat) (R : List Nat) : Prop := R.length ≤ 64 ∧ ∀ i, i < R.length → w.cell? ⟨B, off + i, none⟩ = some (.int .u64 ((R.getD i 0 : Nat) : Int)) ∧ R.getD i 0 < 18446744073709551616
theorem lowest {x k : Nat} (h0 : x ≠ 0) (hx : x < 18446744073709551616) (e : k = Lib.ctz 64 x) : ∀ j, j < k → x.testBit j = false := by
  intro j hj
  subst e
  obtain ⟨m, hm, hk⟩ := Lib.ctzFrom_spec 64 x (by omega) (by rw [show (2 : Nat) ^ 64 = 18446744073709551616 from rfl]; exact hx)
  have e : Lib.ctz 64 x = Lib.ctzFrom 64 x := by simp [Lib.ctz, h0]
  rw [e] at hj
  generalize Lib.ctzFrom 64 x = k at hm hj
  rw [hm, Nat.testBit_two_pow_mul]
  simp
  omega
set_option maxRecDepth 20000 in
set_option maxHeartbeats 1000000 in
theorem rall_any (B off : Nat) (R : List Nat) (s : Nat) (hs : s < 18446744073709551616) (hsn : ∀ j, s.testBit j = true → j < R.length) (w : World) (hA : Arr w B off R) (hT : Tab w) : Calls Tryz.prog 229 #[.pointer (some ⟨B, off, none⟩), .int .u64 (s : Int)] w fun e w' => e = .returned (.int .u64 ((firstAll R s : Nat) : Int)) ∧ w = w' := by
  have HA := Lib.hid hA
  have HT := Lib.hid hT
  have HSN := Lib.hid hsn
  clear hA hT hsn
  go_enter Tryz.func229, Tryz.ntmps229
  go_wp2
  go_loop [5] (fun v => ∃ x : Nat, v = .int .u64 x ∧ x < 18446744073709551616 ∧ Hid (∀ j, x.testBit j = true → s.testBit j = true) ∧ Hid (∀ j, s.testBit j = true → x.testBit j = true ∨ (R.getD j 0 &&& s) ≠ s)) (fun v => (intOf v).toNat)
  case atStart => exact ⟨s, rfl, hs, fun _ h => h, fun _ h => .inl h⟩
  case round =>
    obtain ⟨x, rfl, hx, H1, H2⟩ := hrel
    by_cases h0 : x = 0
    · subst h0
      have HR := Lib.hid (show firstAll R s = 0 from firstAll_no fun j hj => by
        rcases H2.out j hj with h | h
        · simp at h
        · exact h)
      go_wp2
      go_ret
      exact ⟨by rw [HR.out]; rfl, rfl⟩
    · have d1 : ((x : Int) != 0) = true := by simp; omega
      obtain ⟨k1, k2, k3, k4⟩ := clear_low x h0 hx
      have HZ := Lib.hid (tz_any x h0 hx w HT.out)
      have HLOW := Lib.hid (lowest h0 hx rfl)
      generalize Lib.ctz 64 x = k at k1 k2 k3 HZ HLOW
      have hsk := H1.out k k2
      have hkn := HSN.out k hsk
      obtain ⟨hck, hr⟩ := HA.out.2 k hkn
      have HGD := Lib.hid (rfl : R.getD k 0 = R.getD k 0)
      have HNF := Lib.hid (fun h2 => firstAll_at (R := R) k1 hsk h2 (fun j hj hb => by
        rcases H2.out j hb with h | h
        · rw [HLOW.out j hj] at h; cases h
        · exact h))
      have HX20 := Lib.hid (fun (hne : R.getD k 0 &&& s ≠ s) => (show ∀ j, s.testBit j = true → (x &&& (x - 1)).testBit j = true ∨ (R.getD j 0 &&& s) ≠ s from fun j hj => by
          by_cases hjk : j = k
          · subst hjk
            exact .inr hne
          · rcases H2.out j hj with h | h
            · left
              rw [k3, h]
              simpa using hjk
            · exact .inr h))
      obtain ⟨r, hr'⟩ : ∃ r, r = R.getD k 0 := ⟨_, rfl⟩
      rw [← hr'] at hck hr HNF HX20
      clear hr' HGD
      have ha := and_nat r s hr hs
      have ha2 := and_nat x (x - 1) hx (by omega)
      have hsub : (x : Int) - 1 = ((x - 1 : Nat) : Int) := by omega
      rw [← hsub] at ha2
      have i1 : (0 : Int) ≤ (k : Int) := by omega
      have i2 : (k : Int) < 64 := by omega
      have hle : x &&& (x - 1) < 18446744073709551616 := by omega
      have hx1 : 1 ≤ x := by omega
      by_cases hrs : r &&& s = s
      · have d2 : (((r &&& s : Nat) : Int) == (s : Int)) = true := by rw [hrs]; simp
        have HR := Lib.hid (HNF.out hrs)
        rw [hrs] at ha
        clear d2 hrs k3 k4 hle hsub ha2 HNF HX20
        go_wp2_with fail
        refine HZ.out.mono ?_
        rintro e w1 ⟨rfl, rfl⟩
        go_wp2
        go_ret
        exact ⟨by rw [HR.out]; rfl, rfl⟩
      · have HX1 := Lib.hid (show ∀ j, (x &&& (x - 1)).testBit j = true → s.testBit j = true from fun j hj => by
          rw [k3, Bool.and_eq_true] at hj
          exact H1.out j hj.1)
        have HX2 := Lib.hid (HX20.out hrs)
        have d2 : (((r &&& s : Nat) : Int) == (s : Int)) = false := by rw [beq_eq_false_iff_ne]; omega
        generalize r &&& s = rs at *
        have HK4 := Lib.hid k4
        clear hrs k3 hsub k4 HNF HX20
        generalize x &&& (x - 1) = y at *
        go_wp2_with fail
        refine HZ.out.mono ?_
        rintro e w1 ⟨rfl, rfl⟩
        go_wp2
        go_round
        case rel => exact ⟨y, by rfl, hle, HX1, HX2⟩
        case measure => have := HK4.out; simp [intOf]; omega
end Go.Proofs.YtajilghlcfheiaaGreatDoor.Bnd
/- Join, Meet, Bottom, Top of a lattice. -/
namespace Go.Proofs.YtajilghlcfheiaaGreatDoor.Bnd
set_option maxRecDepth 20000
open Go.RowKit Go.Proofs.YtajilghlcfheiaaGreatDoorW.PrintWords
def pickF (R : List Nat) (a b : Nat) : Nat := if a < R.length ∧ b < R.length then firstAll R (R.getD a 0 &&& R.getD b 0) else 0
def endF (R : List Nat) : Nat := if R.length = 0 then 0 else firstAll R (2 ^ R.length - 1)
def joinF (rows : List Nat) (a b : Nat) : Nat := pickF rows a b
def meetF (rows : List Nat) (a b : Nat) : Nat := pickF (downs rows) a b
def botF (rows : List Nat) : Nat := endF rows
def topF (rows : List Nat) : Nat := endF (downs rows)
theorem above_fn (B : Nat) (w : World) : Calls Tryz.prog 226 #[.pointer (some ⟨B, 0, none⟩)] w fun e w' => e = .returned (.pointer (some ⟨B, 1, none⟩)) ∧ w = w' := by
  go_enter Tryz.func226, Tryz.ntmps226
  go_wp2
  go_ret
  exact ⟨rfl, rfl⟩
theorem below_fn (B : Nat) (w : World) : Calls Tryz.prog 228 #[.pointer (some ⟨B, 0, none⟩)] w fun e w' => e = .returned (.pointer (some ⟨B, 65, none⟩)) ∧ w = w' := by
  go_enter Tryz.func228, Tryz.ntmps228
  go_wp2
  go_ret
  exact ⟨rfl, rfl⟩
theorem drewN_zero (w : World) : w.drewN 0 = w := rfl
theorem LatAt.drewN {w : World} {B : Nat} {rows : List Nat} (h : LatAt w B rows) (q : Nat) : LatAt (w.drewN q) B rows := h.below (pw_below_drewN (Below.refl _ _) q)
theorem Arr.drewN {w : World} {B off : Nat} {R : List Nat} (h : Arr w B off R) (q : Nat) : Arr (w.drewN q) B off R := h
theorem Tab.drewN {w : World} (h : Tab w) (q : Nat) : Tab (w.drewN q) := h
theorem bits_up {rows : List Nat} (h : rows = [] ∨ Fine rows) (i j : Nat) (hb : (rows.getD i 0).testBit j = true) : j < rows.length := by
  rcases h with rfl | h
  · simp at hb
  · exact h.fits.bit i j hb
set_option maxRecDepth 20000 in
set_option maxHeartbeats 1000000 in
theorem one_of (g off : Nat) (R : List Nat) (v : Value) (rows : List Nat) (a b : Nat) (w : World) (h : LatV w v rows) (hl : R.length = rows.length) (hA : ∀ B, v = .pointer (some ⟨B, 0, none⟩) → Arr w B off R) (hR : ∀ i j, (R.getD i 0).testBit j = true → j < R.length)
    (hg : ∀ B W, Calls Tryz.prog g #[.pointer (some ⟨B, 0, none⟩)] W fun e w' => e = .returned (.pointer (some ⟨B, off, none⟩)) ∧ W = w') (hT : Tab w) (hgn : g = 226 ∨ g = 228) :
    Calls Tryz.prog 227 #[v, .func (.func g) #[] #[], .int .u64 (a : Int), .int .u64 (b : Int)] w fun e w' => e = .returned (.int .u64 ((pickF R a b : Nat) : Int)) ∧ Below w.heap.size w w' := by
  have H1 := Lib.hid (both_any v rows a b w h)
  have HT := Lib.hid hT
  rw [← hl] at H1
  by_cases hab : a < R.length ∧ b < R.length
  · rw [show (decide (a < R.length) && decide (b < R.length)) = true by simp [hab]] at H1
    rcases h with ⟨rfl, rfl⟩ | ⟨B, rfl, h⟩
    · rw [hl] at hab
      simp at hab
    · have HG := Lib.hid (hg B)
      have HA := Lib.hid (hA B rfl)
      have HP := Lib.hid (show pickF R a b = firstAll R (R.getD a 0 &&& R.getD b 0) by unfold pickF; rw [if_pos hab])
      obtain ⟨ca, la⟩ := HA.out.2 a hab.1
      obtain ⟨cb, lb⟩ := HA.out.2 b hab.2
      have HS := Lib.hid (show ∀ j, (R.getD a 0 &&& R.getD b 0).testBit j = true → j < R.length from fun j hj => by
        rw [Nat.testBit_and, Bool.and_eq_true] at hj
        exact hR a j hj.1)
      have h64 := HA.out.1
      have hal : a < 64 := by omega
      have hbl : b < 64 := by omega
      obtain ⟨x, hx⟩ : ∃ x, x = R.getD a 0 := ⟨_, rfl⟩
      obtain ⟨y, hy⟩ : ∃ x, x = R.getD b 0 := ⟨_, rfl⟩
      rw [← hx] at ca la HS HP
      rw [← hy] at cb lb HS HP
      have hand := and_nat x y la lb
      have hle : x &&& y < 18446744073709551616 := Nat.lt_of_le_of_lt Nat.and_le_left la
      have HC := Lib.hid (fun q => rall_any B off R (x &&& y) hle HS.out (w.drewN q) (HA.out.drewN q) (HT.out.drewN q))
      rw [← HP.out] at HC
      have i1 : (0 : Int) ≤ (a : Int) := by omega
      have i2 : (a : Int) < 64 := by omega
      have i3 : (0 : Int) ≤ (b : Int) := by omega
      have i4 : (b : Int) < 64 := by omega
      clear hx hy hab h hA hg hT hR hl h64
      rcases hgn with rfl | rfl
      all_goals
        go_enter Tryz.func227, Tryz.ntmps227
        go_wp2_with fail
        refine H1.out.mono ?_
        rintro e w1 ⟨rfl, rfl⟩
        go_wp2_with fail
        refine (HG.out w).mono ?_
        rintro e w1 ⟨rfl, rfl⟩
        go_wp2_with fail
        go_quiet ((go_at_call 229; exact Calls.quiet_of_same ((HC.out _).mono (fun e w' h => ⟨h.1, h.2.symm⟩))))
        go_wp2
        go_ret
        exact ⟨rfl, pw_below_drewN (Below.refl _ _) _⟩
  · rw [show (decide (a < R.length) && decide (b < R.length)) = false by simp; omega] at H1
    have HP := Lib.hid (show pickF R a b = 0 by unfold pickF; rw [if_neg hab])
    clear h hA hg hT hR hl hab
    go_enter Tryz.func227, Tryz.ntmps227
    go_wp2_with fail
    refine H1.out.mono ?_
    rintro e w1 ⟨rfl, rfl⟩
    go_wp2
    go_ret
    exact ⟨by rw [HP.out]; rfl, Below.refl _ _⟩
theorem LatAt.arr {w : World} {B : Nat} {rows : List Nat} (h : LatAt w B rows) : Arr w B 1 rows := ⟨h.le, fun i hi => ⟨h.up i hi, h.lt i⟩⟩
theorem LatAt.darr {w : World} {B : Nat} {rows : List Nat} (h : LatAt w B rows) : Arr w B 65 (downs rows) := ⟨by rw [downs_length]; exact h.le, fun i hi => ⟨h.dn i (by rw [downs_length] at hi; exact hi), h.dlt i⟩⟩
theorem LatV.ok {w : World} {v : Value} {rows : List Nat} (h : LatV w v rows) : rows = [] ∨ Fine rows := by
  rcases h with ⟨_, rfl⟩ | ⟨_, _, h⟩
  · exact .inl rfl
  · exact h.ok
theorem LatV.arr {w : World} {v : Value} {rows : List Nat} (h : LatV w v rows) : ∀ B, v = .pointer (some ⟨B, 0, none⟩) → Arr w B 1 rows := by
  rcases h with ⟨rfl, rfl⟩ | ⟨B, rfl, h⟩
  · intro B e
    cases e
  · intro B' e
    cases e
    exact h.arr
theorem LatV.darr {w : World} {v : Value} {rows : List Nat} (h : LatV w v rows) : ∀ B, v = .pointer (some ⟨B, 0, none⟩) → Arr w B 65 (downs rows) := by
  rcases h with ⟨rfl, rfl⟩ | ⟨B, rfl, h⟩
  · intro B e
    cases e
  · intro B' e
    cases e
    exact h.darr
theorem down_bits (rows : List Nat) (i j : Nat) (h : ((downs rows).getD i 0).testBit j = true) : j < (downs rows).length := by rw [downs_length]; exact downs_bits rows i j h
theorem join_any (v : Value) (rows : List Nat) (a b : Nat) (w : World) (h : LatV w v rows) (hT : Tab w) : Calls Tryz.prog 221 #[v, .int .u64 (a : Int), .int .u64 (b : Int)] w fun e w' => e = .returned (.int .u64 ((joinF rows a b : Nat) : Int)) ∧ Below w.heap.size w w' := by
  have HC := Lib.hid (one_of 226 1 rows v rows a b w h rfl h.arr (bits_up h.ok) above_fn hT (.inl rfl))
  clear h hT
  go_enter Tryz.func221, Tryz.ntmps221
  go_wp2_with fail
  refine HC.out.mono ?_
  rintro e w1 ⟨rfl, hb1⟩
  have HB := Lib.hid hb1
  clear hb1
  go_wp2
  go_ret
  exact ⟨rfl, HB.out⟩
theorem meet_any (v : Value) (rows : List Nat) (a b : Nat) (w : World) (h : LatV w v rows) (hT : Tab w) : Calls Tryz.prog 222 #[v, .int .u64 (a : Int), .int .u64 (b : Int)] w fun e w' => e = .returned (.int .u64 ((meetF rows a b : Nat) : Int)) ∧ Below w.heap.size w w' := by
  have HC := Lib.hid (one_of 228 65 (downs rows) v rows a b w h (downs_length rows) h.darr (down_bits rows) below_fn hT (.inr rfl))
  clear h hT
  go_enter Tryz.func222, Tryz.ntmps222
  go_wp2_with fail
  refine HC.out.mono ?_
  rintro e w1 ⟨rfl, hb1⟩
  have HB := Lib.hid hb1
  clear hb1
  go_wp2
  go_ret
  exact ⟨rfl, HB.out⟩
set_option maxRecDepth 20000 in
set_option maxHeartbeats 1000000 in
theorem end_of (g off : Nat) (R : List Nat) (v : Value) (rows : List Nat) (w : World) (h : LatV w v rows) (hl : R.length = rows.length) (hA : ∀ B, v = .pointer (some ⟨B, 0, none⟩) → Arr w B off R)
    (hg : ∀ B W, Calls Tryz.prog g #[.pointer (some ⟨B, 0, none⟩)] W fun e w' => e = .returned (.pointer (some ⟨B, off, none⟩)) ∧ W = w') (hT : Tab w) (hgn : g = 226 ∨ g = 228) :
    Calls Tryz.prog 225 #[v, .func (.func g) #[] #[]] w fun e w' => e = .returned (.int .u64 ((endF R : Nat) : Int)) ∧ Below w.heap.size w w' := by
  have HT := Lib.hid hT
  rcases h with ⟨rfl, rfl⟩ | ⟨B, rfl, h⟩
  · have HP := Lib.hid (show endF R = 0 by unfold endF; rw [if_pos (by simpa using hl)])
    clear hA hg hl
    go_enter Tryz.func225, Tryz.ntmps225
    go_wp2
    go_ret
    exact ⟨by rw [HP.out]; rfl, Below.refl _ _⟩
  · have HG := Lib.hid (hg B)
    have HA := Lib.hid (hA B rfl)
    have c0 := h.many
    have h64 := h.le
    rw [← hl] at c0 h64
    by_cases hz : R.length = 0
    · have HP := Lib.hid (show endF R = 0 by unfold endF; rw [if_pos hz])
      rw [hz] at c0
      clear hA hg hl h h64 hz
      go_enter Tryz.func225, Tryz.ntmps225
      go_wp2
      go_ret
      exact ⟨by rw [HP.out]; rfl, Below.refl _ _⟩
    · have HP := Lib.hid (show endF R = firstAll R (2 ^ R.length - 1) by unfold endF; rw [if_neg hz])
      have HS := Lib.hid (show ∀ j, (2 ^ R.length - 1).testBit j = true → j < R.length from fun j hj => by rw [Nat.testBit_two_pow_sub_one] at hj; simpa using hj)
      generalize hn : R.length = n at *
      have hle := two_pow_lt h64
      have hv : IntKind.u64.wrap (IntKind.u64.wrap (2 ^ n) - 1) = ((2 ^ n - 1 : Nat) : Int) := by
        have hp : 0 < 2 ^ n := Nat.pow_pos (by omega)
        have hle : 2 ^ n ≤ 2 ^ 64 := Nat.pow_le_pow_right (by omega) h64
        rw [show (2 : Nat) ^ 64 = 18446744073709551616 from rfl] at hle
        have e : (2 : Int) ^ n = ((2 ^ n : Nat) : Int) := by push_cast; rfl
        rw [e]
        generalize 2 ^ n = q at *
        rw [IntKind.wrap_u64, IntKind.wrap_u64]
        omega
      have HC := Lib.hid (fun q => rall_any B off R (2 ^ n - 1) hle (by rw [hn]; exact HS.out) (w.drewN q) (HA.out.drewN q) (HT.out.drewN q))
      rw [← HP.out] at HC
      have d0 : ((n : Int) == 0) = false := by rw [beq_eq_false_iff_ne]; omega
      clear hA hg hl h hn
      rcases hgn with rfl | rfl
      all_goals
        go_enter Tryz.func225, Tryz.ntmps225
        go_wp2_with fail
        go_quiet ((first | (go_at_call 229; exact Calls.quiet_of_same ((HC.out _).mono (fun e w' h => ⟨h.1, h.2.symm⟩))) | (go_at_call 226; exact Calls.quiet_of_same ((HG.out _).mono (fun e w' h => ⟨h.1, h.2.symm⟩))) | (go_at_call 228; exact Calls.quiet_of_same ((HG.out _).mono (fun e w' h => ⟨h.1, h.2.symm⟩)))))
        go_wp2
        go_ret
        exact ⟨rfl, pw_below_drewN (Below.refl _ _) _⟩
theorem bottom_any (v : Value) (rows : List Nat) (w : World) (h : LatV w v rows) (hT : Tab w) : Calls Tryz.prog 219 #[v] w fun e w' => e = .returned (.int .u64 ((botF rows : Nat) : Int)) ∧ Below w.heap.size w w' := by
  have HC := Lib.hid (end_of 226 1 rows v rows w h rfl h.arr above_fn hT (.inl rfl))
  clear h hT
  go_enter Tryz.func219, Tryz.ntmps219
  go_wp2_with fail
  refine HC.out.mono ?_
  rintro e w1 ⟨rfl, hb1⟩
  have HB := Lib.hid hb1
  clear hb1
  go_wp2
  go_ret
  exact ⟨rfl, HB.out⟩
theorem top_any (v : Value) (rows : List Nat) (w : World) (h : LatV w v rows) (hT : Tab w) : Calls Tryz.prog 223 #[v] w fun e w' => e = .returned (.int .u64 ((topF rows : Nat) : Int)) ∧ Below w.heap.size w w' := by
  have HC := Lib.hid (end_of 228 65 (downs rows) v rows w h (downs_length rows) h.darr below_fn hT (.inr rfl))
  clear h hT
  go_enter Tryz.func223, Tryz.ntmps223
  go_wp2_with fail
  refine HC.out.mono ?_
  rintro e w1 ⟨rfl, hb1⟩
  have HB := Lib.hid hb1
  clear hb1
  go_wp2
  go_ret
  exact ⟨rfl, HB.out⟩
end Go.Proofs.YtajilghlcfheiaaGreatDoor.Bnd
/- lattices.New. -/
namespace Go.Proofs.YtajilghlcfheiaaGreatDoor.Bnd
set_option maxRecDepth 20000
open Go.RowKit Go.Proofs.YtajilghlcfheiaaGreatDoorW.PrintWords
/-- a lattice's cells under way: u rows above, those below of i rows, and of one more for the first j. -/
def latF (rows : List Nat) (u i j x : Nat) : Value :=
  if x = 0 then .int .i64 (rows.length : Int)
  else if x < 65 then .int .u64 ((if x - 1 < u then rows.getD (x - 1) 0 else 0 : Nat) : Int)
  else .int .u64 ((if x - 65 < j then upBits rows (x - 65) (i + 1) else upBits rows (x - 65) i : Nat) : Int)
theorem zero47 : Tryz.zeroCells134 = #[Value.int .i64 0] ++ Array.replicate 128 (Value.int .u64 0) := by kernel_rfl
theorem lat_made (w : World) (rows : List Nat) (n : Nat) (hn : n = rows.length) : (w.alloc (.cells (Tryz.zeroCells134.setIfInBounds 0 (.int .i64 (n : Int))) 134)).rowIs w.heap.size 134 129 (latF rows 0 0 0) := by
  have hs : (Tryz.zeroCells134.setIfInBounds 0 (.int .i64 (n : Int))).size = 129 := by rw [zero47]; simp
  have h := World.rowIs_alloc w (Tryz.zeroCells134.setIfInBounds 0 (.int .i64 (n : Int))) 134 (latF rows 0 0 0) (fun i hi => by
    rw [hs] at hi
    rw [zero47, Array.getElem?_setIfInBounds]
    by_cases e : i = 0
    · subst e
      simp [latF, hn]
    · rw [if_neg (fun h => e h.symm), Array.getElem?_append_right (by simp; omega)]
      simp [latF, e, upBits]
      rw [Array.getElem?_replicate, if_pos (by omega)])
  rw [hs] at h
  exact h
theorem latF_up {rows : List Nat} {i : Nat} (hi : i < rows.length) (h64 : rows.length ≤ 64) : ∀ x, x < 129 → (if x = 1 + i then Value.int .u64 ((rows.getD i 0 : Nat) : Int) else latF rows i i 0 x) = latF rows (i + 1) i 0 x := by
  intro x _
  unfold latF
  by_cases e : x = 1 + i
  · subst e
    rw [if_pos rfl, if_neg (by omega), if_pos (by omega), show 1 + i - 1 = i by omega, if_pos (by omega)]
  · rw [if_neg e]
    by_cases h0 : x = 0
    · rw [if_pos h0, if_pos h0]
    · rw [if_neg h0, if_neg h0]
      by_cases h1 : x < 65
      · rw [if_pos h1, if_pos h1]
        by_cases h2 : x - 1 < i
        · rw [if_pos h2, if_pos (show x - 1 < i + 1 by omega)]
        · rw [if_neg h2, if_neg (show ¬ x - 1 < i + 1 by omega)]
      · rw [if_neg h1, if_neg h1]
theorem latF_dn {rows : List Nat} {u i j g : Nat} (hj : j < 64) (hg : g = upBits rows j i ||| (if (rows.getD i 0).testBit j then 2 ^ i else 0)) : ∀ x, x < 129 → (if x = 65 + j then Value.int .u64 ((g : Nat) : Int) else latF rows u i j x) = latF rows u i (j + 1) x := by
  intro x _
  unfold latF
  by_cases e : x = 65 + j
  · subst e
    rw [if_pos rfl, if_neg (by omega), if_neg (by omega), show 65 + j - 65 = j by omega, if_pos (by omega), hg, upBits]
  · rw [if_neg e]
    by_cases h0 : x = 0
    · rw [if_pos h0, if_pos h0]
    · rw [if_neg h0, if_neg h0]
      by_cases h1 : x < 65
      · rw [if_pos h1, if_pos h1]
      · rw [if_neg h1, if_neg h1]
        by_cases h2 : x - 65 < j
        · rw [if_pos h2, if_pos (show x - 65 < j + 1 by omega)]
        · rw [if_neg h2, if_neg (show ¬ x - 65 < j + 1 by omega)]
theorem latF_turn {rows : List Nat} {u i : Nat} {w : World} {B : Nat} (h : w.rowIs B 134 129 (latF rows u i rows.length)) (hz : ∀ k, rows.length ≤ k → upBits rows k i = upBits rows k (i + 1)) : w.rowIs B 134 129 (latF rows u (i + 1) 0) :=
  h.congr (fun x _ => by
    unfold latF
    by_cases h0 : x = 0
    · rw [if_pos h0, if_pos h0]
    · rw [if_neg h0, if_neg h0]
      by_cases h1 : x < 65
      · rw [if_pos h1, if_pos h1]
      · rw [if_neg h1, if_neg h1, if_neg (show ¬ x - 65 < 0 by omega)]
        by_cases h2 : x - 65 < rows.length
        · rw [if_pos h2]
        · rw [if_neg h2, hz _ (by omega)])
theorem upBits_out {rows : List Nat} (hf : Fits rows) (k i : Nat) (hk : rows.length ≤ k) : upBits rows k i = upBits rows k (i + 1) := by
  rw [upBits]
  cases hb : (rows.getD i 0).testBit k with
  | false => simp
  | true => exact absurd (hf.bit i k hb) (by omega)
theorem lat_done {w : World} {B : Nat} {rows : List Nat} (hf : Fine rows) (h : w.rowIs B 134 129 (latF rows rows.length rows.length 0)) : LatAt w B rows := by
  have h64 := hf.le
  refine ⟨?_, fun i hi => ?_, fun i hi => ?_, .inr hf⟩
  · rw [h.cell (by omega)]
    simp [latF]
  · rw [h.cell (by omega)]
    unfold latF
    rw [if_neg (by omega), if_pos (by omega), show 1 + i - 1 = i by omega, if_pos hi]
  · rw [h.cell (by omega)]
    unfold latF
    rw [if_neg (by omega), if_neg (by omega), show 65 + i - 65 = i by omega, if_neg (by omega)]
    simp [downs, List.getD, hi]
/-- what New tells. -/
def NewSays (rows : List Nat) (W0 : World) (e : Ending) (w' : World) : Prop :=
  Below W0.heap.size W0 w' ∧ ((checkR rows ≠ 0 ∧ e = .returned (.tuple #[.pointer none, .int .i64 ((checkR rows : Nat) : Int)])) ∨ (Fine rows ∧ ∃ B, e = .returned (.tuple #[.pointer (some ⟨B, 0, none⟩), .int .i64 0]) ∧ W0.heap.size ≤ B ∧ LatAt w' B rows))
set_option maxRecDepth 20000 in
set_option maxHeartbeats 2000000 in
theorem new_any (A : Option Addr) (n c : Nat) (rows : List Nat) (hn : n = rows.length) (hmax : n ≤ 9223372036854775807) (w : World) (hI : Nums w A rows) (hT : Tab w) : Calls Tryz.prog 44 #[.slice A n c] w (NewSays rows w) := by
  have HI := Lib.hid hI
  have HT := Lib.hid hT
  have HN := Lib.hid hn
  have HZ := Lib.hid (check_zero hI.1)
  have HCK := Lib.hid (check_any A n c rows hn hmax w hI hT)
  clear hI hT hn
  obtain ⟨r, hr⟩ : ∃ r, r = checkR rows := ⟨_, rfl⟩
  rw [← hr] at HZ HCK
  have HE := Lib.hid hr
  clear hr
  by_cases hr0 : r = 0
  · have HF := Lib.hid (HZ.out.1 hr0)
    subst hr0
    clear HE
    have h64 : n ≤ 64 := by rw [HN.out]; exact HF.out.le
    clear HZ
    go_enter Tryz.func44, Tryz.ntmps44
    go_wp2_with fail
    refine HCK.out.mono ?_
    rintro e w1 ⟨rfl, hb1⟩
    have HR0 := Lib.hid (lat_made w1 rows n HN.out)
    have HB0 := Lib.hid (hb1.alloc hb1.size (.cells (Tryz.zeroCells134.setIfInBounds 0 (.int .i64 (n : Int))) 134))
    have HBB := Lib.hid hb1.size
    clear hb1
    go_wp2_with fail
    obtain ⟨B, hB⟩ : ∃ B, B = w1.heap.size := ⟨_, rfl⟩
    rw [← hB] at HR0 HBB
    rw [← hB]
    clear hB
    generalize w1.alloc (.cells (Tryz.zeroCells134.setIfInBounds 0 (.int .i64 (n : Int))) 134) = w2 at *
    go_loopw [20] (fun v wr => ∃ i : Nat, i ≤ n ∧ v = .int .i64 i ∧ Hid (wr.rowIs B 134 129 (latF rows i i 0)) ∧ Hid (Below w.heap.size w wr)) (fun v _ => n - (intOf v).toNat)
    case atStart => exact ⟨0, by omega, rfl, HR0, HB0⟩
    case round =>
      clear HR0 HB0
      obtain ⟨i, hi, rfl, HR, HB⟩ := hrel
      by_cases hin : i < n
      · have hil : i < rows.length := by have := HN.out; omega
        obtain ⟨b, off, rfl, _, hc⟩ := HI.out.2 (by omega)
        clear hc
        obtain ⟨b', off', hbo, _, hc⟩ := (HI.out.below HB.out).2 (by omega)
        obtain ⟨rfl, rfl, _⟩ := Addr.mk.inj (Option.some.inj hbo)
        have hck := hc i hil
        have hr := HI.out.1 rows[i] (List.getElem_mem hil)
        have HGD := Lib.hid (show rows.getD i 0 = rows[i] by simp [List.getD, hil])
        generalize rows[i] = r at hck hr HGD
        have i1 : (0 : Int) ≤ (i : Int) := by omega
        have i2 : (i : Int) < (n : Int) := by omega
        have i3 : (i : Int) < 64 := by omega
        have cu := HR.out.cell (i := 1 + i) (by omega)
        have fu := HR.out.frozen (1 + i)
        have HS := Lib.hid ((HR.out.set (1 + i) (.int .u64 (r : Int))).congr (g := latF rows (i + 1) i 0) (fun x hx => by rw [← HGD.out]; exact latF_up hil (by rw [← HN.out]; exact h64) x hx))
        have HB1 := Lib.hid (HB.out.setCell (p := ⟨B, 1 + i, none⟩) HBB.out (.int .u64 (r : Int)))
        clear hc hbo HR HB
        go_wp2_with fail
        generalize wr.setCell ⟨B, 1 + i, none⟩ (.int .u64 (r : Int)) = w3 at *
        go_loopw [33] (fun v wq => ∃ j : Nat, j ≤ n ∧ v = .int .i64 j ∧ Hid (wq.rowIs B 134 129 (latF rows (i + 1) i j)) ∧ Hid (Below w.heap.size w wq)) (fun v _ => n - (intOf v).toNat)
        case atStart => exact ⟨0, by omega, rfl, HS, HB1⟩
        case round =>
          clear HS HB1 cu fu hck
          obtain ⟨j, hj, rfl, HR, HB⟩ := hrel
          by_cases hjn : j < n
          · have cj := HR.out.cell (i := 65 + j) (by omega)
            rw [show latF rows (i + 1) i j (65 + j) = .int .u64 ((upBits rows j i : Nat) : Int) by
              unfold latF
              rw [if_neg (by omega), if_neg (by omega), show 65 + j - 65 = j by omega, if_neg (by omega)]] at cj
            have fj := HR.out.frozen (65 + j)
            have hol := upBits_lt rows j i
            have HG := Lib.hid (fun (g : Nat) hg => (HR.out.set (65 + j) (.int .u64 (g : Int))).congr (g := latF rows (i + 1) i (j + 1)) (latF_dn (rows := rows) (u := i + 1) (i := i) (j := j) (g := g) (by omega) hg))
            have hp : 2 ^ i ≤ 2 ^ 63 := Nat.pow_le_pow_right (by omega) (by omega)
            rw [show (2 : Nat) ^ 63 = 9223372036854775808 from rfl] at hp
            obtain ⟨o, ho⟩ : ∃ o, o = upBits rows j i := ⟨_, rfl⟩
            rw [← ho] at cj hol HG
            rw [HGD.out] at HG
            clear ho
            have ol2 : o < 18446744073709551616 := by omega
            have hba : bits .and .u64 ((r : Int) / 2 ^ j) 1 = if r.testBit j then 1 else 0 := by
              have e : (r : Int) / 2 ^ j = ((r / 2 ^ j : Nat) : Int) := by rw [Int.natCast_ediv, Int.natCast_pow]; rfl
              rw [e, bit_and _ (Nat.lt_of_le_of_lt (Nat.div_le_self _ _) hr), bit_is]
              cases r.testBit j <;> rfl
            have j1 : (0 : Int) ≤ (j : Int) := by omega
            have j2 : (j : Int) < (n : Int) := by omega
            have j3 : (j : Int) < 64 := by omega
            clear hol hp HR
            cases htb : r.testBit j with
            | false =>
              rw [htb] at hba HG
              have hor : bits .or .u64 (o : Int) 0 = (o : Int) := by
                have h := u64_or_nat o 0 ol2 (by decide)
                rwa [Nat.or_zero] at h
              have HS := Lib.hid (HG.out o (by simp))
              have HB2 := Lib.hid (HB.out.setCell (p := ⟨B, 65 + j, none⟩) HBB.out (.int .u64 (o : Int)))
              clear htb HG
              go_wp2_with fail
              go_region
              all_goals
                go_wp2
                go_roundw
                case rel => exact ⟨j + 1, by omega, by go_num, Lib.hid HS.out.drew, Lib.hid HB2.out.drew⟩
                case measure => simp [intOf]; omega
            | true =>
              rw [htb] at hba HG
              have hor : bits .or .u64 (o : Int) (IntKind.u64.wrap (2 ^ i)) = ((o ||| 2 ^ i : Nat) : Int) := by
                have e : (2 : Int) ^ i = ((2 ^ i : Nat) : Int) := by push_cast; rfl
                have hp : 2 ^ i ≤ 2 ^ 63 := Nat.pow_le_pow_right (by omega) (by omega)
                rw [show (2 : Nat) ^ 63 = 9223372036854775808 from rfl] at hp
                rw [e]
                generalize 2 ^ i = q at *
                rw [show IntKind.u64.wrap (q : Int) = (q : Int) by rw [IntKind.wrap_u64]; omega]
                exact u64_or_nat o q (by omega) (by omega)
              have HS := Lib.hid (HG.out (o ||| 2 ^ i) (by simp))
              have HB2 := Lib.hid (HB.out.setCell (p := ⟨B, 65 + j, none⟩) HBB.out (.int .u64 ((o ||| 2 ^ i : Nat) : Int)))
              clear htb HG
              go_wp2_with fail
              go_region
              all_goals
                go_wp2
                go_roundw
                case rel => exact ⟨j + 1, by omega, by go_num, Lib.hid HS.out.drew, Lib.hid HB2.out.drew⟩
                case measure => simp [intOf]; omega
          · obtain rfl : n = j := by omega
            have HT2 := Lib.hid (latF_turn (u := i + 1) (i := i) (by rw [← HN.out]; exact HR.out) (fun k hk => upBits_out HF.out.fits k i hk))
            go_wp2
            go_roundw
            case rel => exact ⟨i + 1, by omega, by go_num, HT2, HB⟩
            case measure => simp [intOf]; omega
      · obtain rfl : n = i := by omega
        have HD := Lib.hid (lat_done HF.out (by rw [← HN.out]; exact HR.out))
        go_wp2
        go_ret2
        exact ⟨HB.out, .inr ⟨HF.out, B, rfl, HBB.out, HD.out⟩⟩
  · have d1 : ((r : Int) != 0) = true := by simp; omega
    go_enter Tryz.func44, Tryz.ntmps44
    go_wp2_with fail
    refine HCK.out.mono ?_
    rintro e w1 ⟨rfl, hb1⟩
    have HB1 := Lib.hid hb1
    clear hb1
    go_wp2
    go_ret2
    exact ⟨HB1.out, .inl ⟨by rw [← HE.out]; exact hr0, by rw [← HE.out]; rfl⟩⟩
end Go.Proofs.YtajilghlcfheiaaGreatDoor.Bnd
/- Joins and meets, of an order in which each two have both: plain. -/
namespace Go.Proofs.YtajilghlcfheiaaGreatDoor.Bnd
set_option maxRecDepth 20000
theorem and_all {r s : Nat} : r &&& s = s ↔ ∀ j, s.testBit j = true → r.testBit j = true := by
  constructor
  · intro h j hj
    rw [← h, Nat.testBit_and, Bool.and_eq_true] at hj
    exact hj.1
  · intro h
    apply Nat.eq_of_testBit_eq
    intro j
    rw [Nat.testBit_and]
    cases hb : s.testBit j with
    | false => simp
    | true => simp [h j hb]
theorem firstAll_has {R : List Nat} {s k : Nat} (hk : k < 64) (h1 : s.testBit k = true) (h2 : R.getD k 0 &&& s = s) : s.testBit (firstAll R s) = true ∧ R.getD (firstAll R s) 0 &&& s = s := by
  unfold firstAll
  cases hf : (List.range 64).find? fun j => s.testBit j && (R.getD j 0 &&& s == s) with
  | none =>
    have := List.find?_eq_none.1 hf k (List.mem_range.2 hk)
    rw [h1, h2] at this
    simp at this
  | some x =>
    have := List.find?_some hf
    simpa using this
theorem Fine.row {rows : List Nat} (h : Fine rows) {i : Nat} (hi : i < rows.length) (j : Nat) : (rows.getD i 0).testBit j = rowB rows i j := (h.fits.at_ i j hi).symm
theorem join_spec {rows : List Nat} (h : Fine rows) {a b : Nat} (ha : a < rows.length) (hb : b < rows.length) : rowB rows a (joinF rows a b) = true ∧ rowB rows b (joinF rows a b) = true ∧ ∀ d, rowB rows a d = true → rowB rows b d = true → rowB rows (joinF rows a b) d = true := by
  obtain ⟨c, h1, h2, h3⟩ := h.up a b ha hb
  have hc := (rowB_lt h1).2
  have e : joinF rows a b = firstAll rows (rows.getD a 0 &&& rows.getD b 0) := by unfold joinF pickF; rw [if_pos ⟨ha, hb⟩]
  have hs : ∀ d, (rows.getD a 0 &&& rows.getD b 0).testBit d = (rowB rows a d && rowB rows b d) := fun d => by rw [Nat.testBit_and, h.row ha, h.row hb]
  obtain ⟨k1, k2⟩ := firstAll_has (R := rows) (s := rows.getD a 0 &&& rows.getD b 0) (k := c) (by have := h.le; omega) (by rw [hs, h1, h2]; rfl) (and_all.2 fun d hd => by
    rw [hs, Bool.and_eq_true] at hd
    rw [h.row hc]
    exact h3 d hd.1 hd.2)
  rw [← e] at k1 k2
  rw [hs, Bool.and_eq_true] at k1
  refine ⟨k1.1, k1.2, fun d h4 h5 => ?_⟩
  rw [← h.row (rowB_lt k1.1).2]
  exact and_all.1 k2 d (by rw [hs, h4, h5]; rfl)
theorem meet_spec {rows : List Nat} (h : Fine rows) {a b : Nat} (ha : a < rows.length) (hb : b < rows.length) : rowB rows (meetF rows a b) a = true ∧ rowB rows (meetF rows a b) b = true ∧ ∀ d, rowB rows d a = true → rowB rows d b = true → rowB rows d (meetF rows a b) = true := by
  obtain ⟨c, h1, h2, h3⟩ := h.dn a b ha hb
  have hc := (rowB_lt h1).1
  have e : meetF rows a b = firstAll (downs rows) ((downs rows).getD a 0 &&& (downs rows).getD b 0) := by unfold meetF pickF; rw [downs_length, if_pos ⟨ha, hb⟩]
  have hs : ∀ d, ((downs rows).getD a 0 &&& (downs rows).getD b 0).testBit d = (rowB rows d a && rowB rows d b) := fun d => by rw [Nat.testBit_and, downs_bit h.fits ha, downs_bit h.fits hb]
  obtain ⟨k1, k2⟩ := firstAll_has (R := downs rows) (s := (downs rows).getD a 0 &&& (downs rows).getD b 0) (k := c) (by have := h.le; omega) (by rw [hs, h1, h2]; rfl) (and_all.2 fun d hd => by
    rw [hs, Bool.and_eq_true] at hd
    rw [downs_bit h.fits hc]
    exact h3 d hd.1 hd.2)
  rw [← e] at k1 k2
  rw [hs, Bool.and_eq_true] at k1
  refine ⟨k1.1, k1.2, fun d h4 h5 => ?_⟩
  rw [← downs_bit h.fits (rowB_lt k1.1).1]
  exact and_all.1 k2 d (by rw [hs, h4, h5]; rfl)
theorem has_bot {rows : List Nat} (h : Fine rows) : ∀ k, 0 < k → k ≤ rows.length → ∃ c, c < rows.length ∧ ∀ d, d < k → rowB rows c d = true := by
  intro k
  induction k with
  | zero => intro h0; omega
  | succ k ih =>
    intro _ hk
    by_cases h0 : k = 0
    · subst h0
      exact ⟨0, h.pos, fun d hd => by obtain rfl : d = 0 := by omega
                                      exact h.ord.refl 0 h.pos⟩
    · obtain ⟨c, hc, H⟩ := ih (by omega) (by omega)
      obtain ⟨h1, h2, _⟩ := meet_spec h hc (show k < rows.length by omega)
      refine ⟨meetF rows c k, (rowB_lt h1).1, fun d hd => ?_⟩
      by_cases e : d = k
      · subst e; exact h2
      · exact h.ord.trans _ _ _ h1 (H d (by omega))
theorem has_top {rows : List Nat} (h : Fine rows) : ∀ k, 0 < k → k ≤ rows.length → ∃ c, c < rows.length ∧ ∀ d, d < k → rowB rows d c = true := by
  intro k
  induction k with
  | zero => intro h0; omega
  | succ k ih =>
    intro _ hk
    by_cases h0 : k = 0
    · subst h0
      exact ⟨0, h.pos, fun d hd => by obtain rfl : d = 0 := by omega
                                      exact h.ord.refl 0 h.pos⟩
    · obtain ⟨c, hc, H⟩ := ih (by omega) (by omega)
      obtain ⟨h1, h2, _⟩ := join_spec h hc (show k < rows.length by omega)
      refine ⟨joinF rows c k, (rowB_lt h1).2, fun d hd => ?_⟩
      by_cases e : d = k
      · subst e; exact h2
      · exact h.ord.trans _ _ _ (H d (by omega)) h1
theorem bot_spec {rows : List Nat} (h : Fine rows) : botF rows < rows.length ∧ ∀ d, d < rows.length → rowB rows (botF rows) d = true := by
  obtain ⟨c, hc, H⟩ := has_bot h rows.length h.pos (Nat.le_refl _)
  have h0 : ¬ rows.length = 0 := by have := h.pos; omega
  have e : botF rows = firstAll rows (2 ^ rows.length - 1) := by unfold botF endF; rw [if_neg h0]
  obtain ⟨k1, k2⟩ := firstAll_has (R := rows) (s := 2 ^ rows.length - 1) (k := c) (by have := h.le; omega) (by rw [Nat.testBit_two_pow_sub_one]; simpa using hc) (and_all.2 fun d hd => by
    rw [Nat.testBit_two_pow_sub_one] at hd
    rw [h.row hc]
    exact H d (by simpa using hd))
  rw [← e] at k1 k2
  rw [Nat.testBit_two_pow_sub_one] at k1
  have hb : botF rows < rows.length := by simpa using k1
  refine ⟨hb, fun d hd => ?_⟩
  rw [← h.row hb]
  exact and_all.1 k2 d (by rw [Nat.testBit_two_pow_sub_one]; simpa using hd)
theorem top_spec {rows : List Nat} (h : Fine rows) : topF rows < rows.length ∧ ∀ d, d < rows.length → rowB rows d (topF rows) = true := by
  obtain ⟨c, hc, H⟩ := has_top h rows.length h.pos (Nat.le_refl _)
  have h0 : ¬ rows.length = 0 := by have := h.pos; omega
  have e : topF rows = firstAll (downs rows) (2 ^ rows.length - 1) := by unfold topF endF; rw [downs_length, if_neg h0]
  obtain ⟨k1, k2⟩ := firstAll_has (R := downs rows) (s := 2 ^ rows.length - 1) (k := c) (by have := h.le; omega) (by rw [Nat.testBit_two_pow_sub_one]; simpa using hc) (and_all.2 fun d hd => by
    rw [Nat.testBit_two_pow_sub_one] at hd
    rw [downs_bit h.fits hc]
    exact H d (by simpa using hd))
  rw [← e] at k1 k2
  rw [Nat.testBit_two_pow_sub_one] at k1
  have hb : topF rows < rows.length := by simpa using k1
  refine ⟨hb, fun d hd => ?_⟩
  rw [← downs_bit h.fits hb]
  exact and_all.1 k2 d (by rw [Nat.testBit_two_pow_sub_one]; simpa using hd)
theorem join_lt {rows : List Nat} (h : Fine rows) {a b : Nat} (ha : a < rows.length) (hb : b < rows.length) : joinF rows a b < rows.length := (rowB_lt (join_spec h ha hb).1).2
theorem meet_lt {rows : List Nat} (h : Fine rows) {a b : Nat} (ha : a < rows.length) (hb : b < rows.length) : meetF rows a b < rows.length := (rowB_lt (meet_spec h ha hb).1).1
theorem join_eq {rows : List Nat} (h : Fine rows) {a b : Nat} (ha : a < rows.length) (hb : b < rows.length) {x : Nat} (h1 : rowB rows a x = true) (h2 : rowB rows b x = true) (h3 : ∀ d, rowB rows a d = true → rowB rows b d = true → rowB rows x d = true) : joinF rows a b = x := by
  obtain ⟨k1, k2, k3⟩ := join_spec h ha hb
  exact h.ord.anti _ _ (k3 x h1 h2) (h3 _ k1 k2)
theorem meet_eq {rows : List Nat} (h : Fine rows) {a b : Nat} (ha : a < rows.length) (hb : b < rows.length) {x : Nat} (h1 : rowB rows x a = true) (h2 : rowB rows x b = true) (h3 : ∀ d, rowB rows d a = true → rowB rows d b = true → rowB rows d x = true) : meetF rows a b = x := by
  obtain ⟨k1, k2, k3⟩ := meet_spec h ha hb
  exact h.ord.anti _ _ (h3 _ k1 k2) (k3 x h1 h2)
theorem join_comm {rows : List Nat} (h : Fine rows) {a b : Nat} (ha : a < rows.length) (hb : b < rows.length) : joinF rows a b = joinF rows b a := by
  obtain ⟨k1, k2, k3⟩ := join_spec h hb ha
  exact join_eq h ha hb k2 k1 (fun d h1 h2 => k3 d h2 h1)
theorem meet_comm {rows : List Nat} (h : Fine rows) {a b : Nat} (ha : a < rows.length) (hb : b < rows.length) : meetF rows a b = meetF rows b a := by
  obtain ⟨k1, k2, k3⟩ := meet_spec h hb ha
  exact meet_eq h ha hb k2 k1 (fun d h1 h2 => k3 d h2 h1)
theorem join_below {rows : List Nat} (h : Fine rows) {a b : Nat} (ha : a < rows.length) (hb : b < rows.length) : rowB rows a b = true ↔ joinF rows a b = b := by
  constructor
  · intro h1
    exact join_eq h ha hb h1 (h.ord.refl b hb) (fun d _ h2 => h2)
  · intro e
    have := (join_spec h ha hb).1
    rwa [e] at this
theorem meet_below {rows : List Nat} (h : Fine rows) {a b : Nat} (ha : a < rows.length) (hb : b < rows.length) : rowB rows a b = true ↔ meetF rows a b = a := by
  constructor
  · intro h1
    exact meet_eq h ha hb (h.ord.refl a ha) h1 (fun d h2 _ => h2)
  · intro e
    have := (meet_spec h ha hb).2.1
    rwa [e] at this
theorem join_abs {rows : List Nat} (h : Fine rows) {a b : Nat} (ha : a < rows.length) (hb : b < rows.length) : joinF rows a (meetF rows a b) = a := by
  obtain ⟨k1, _, _⟩ := meet_spec h ha hb
  exact join_eq h ha (meet_lt h ha hb) (h.ord.refl a ha) k1 (fun d h1 _ => h1)
theorem meet_abs {rows : List Nat} (h : Fine rows) {a b : Nat} (ha : a < rows.length) (hb : b < rows.length) : meetF rows a (joinF rows a b) = a := by
  obtain ⟨k1, _, _⟩ := join_spec h ha hb
  exact meet_eq h ha (join_lt h ha hb) (h.ord.refl a ha) k1 (fun d h1 _ => h1)
theorem join_assoc {rows : List Nat} (h : Fine rows) {a b c : Nat} (ha : a < rows.length) (hb : b < rows.length) (hc : c < rows.length) : joinF rows (joinF rows a b) c = joinF rows a (joinF rows b c) := by
  obtain ⟨p1, p2, p3⟩ := join_spec h hb hc
  obtain ⟨k1, k2, k3⟩ := join_spec h ha (join_lt h hb hc)
  obtain ⟨q1, q2, q3⟩ := join_spec h ha hb
  refine join_eq h (join_lt h ha hb) hc (q3 _ k1 (h.ord.trans _ _ _ p1 k2)) (h.ord.trans _ _ _ p2 k2) (fun d h1 h2 => k3 d (h.ord.trans _ _ _ q1 h1) (p3 d (h.ord.trans _ _ _ q2 h1) h2))
theorem meet_assoc {rows : List Nat} (h : Fine rows) {a b c : Nat} (ha : a < rows.length) (hb : b < rows.length) (hc : c < rows.length) : meetF rows (meetF rows a b) c = meetF rows a (meetF rows b c) := by
  obtain ⟨p1, p2, p3⟩ := meet_spec h hb hc
  obtain ⟨k1, k2, k3⟩ := meet_spec h ha (meet_lt h hb hc)
  obtain ⟨q1, q2, q3⟩ := meet_spec h ha hb
  refine meet_eq h (meet_lt h ha hb) hc (q3 _ k1 (h.ord.trans _ _ _ k2 p1)) (h.ord.trans _ _ _ k2 p2) (fun d h1 h2 => k3 d (h.ord.trans _ _ _ h1 q1) (p3 d (h.ord.trans _ _ _ h1 q2) h2))
theorem join_under {rows : List Nat} (h : Fine rows) {a b : Nat} (ha : a < rows.length) (hb : b < rows.length) (c : Nat) : (rowB rows a c && rowB rows b c) = rowB rows (joinF rows a b) c := by
  obtain ⟨k1, k2, k3⟩ := join_spec h ha hb
  rw [Bool.eq_iff_iff, Bool.and_eq_true]
  exact ⟨fun ⟨h1, h2⟩ => k3 c h1 h2, fun h1 => ⟨h.ord.trans _ _ _ k1 h1, h.ord.trans _ _ _ k2 h1⟩⟩
theorem meet_over {rows : List Nat} (h : Fine rows) {a b : Nat} (ha : a < rows.length) (hb : b < rows.length) (c : Nat) : (rowB rows c a && rowB rows c b) = rowB rows c (meetF rows a b) := by
  obtain ⟨k1, k2, k3⟩ := meet_spec h ha hb
  rw [Bool.eq_iff_iff, Bool.and_eq_true]
  exact ⟨fun ⟨h1, h2⟩ => k3 c h1 h2, fun h1 => ⟨h.ord.trans _ _ _ h1 k1, h.ord.trans _ _ _ h1 k2⟩⟩
theorem join_self {rows : List Nat} (h : Fine rows) {a : Nat} (ha : a < rows.length) : joinF rows a a = a := (join_below h ha ha).1 (h.ord.refl a ha)
theorem meet_self {rows : List Nat} (h : Fine rows) {a : Nat} (ha : a < rows.length) : meetF rows a a = a := (meet_below h ha ha).1 (h.ord.refl a ha)
end Go.Proofs.YtajilghlcfheiaaGreatDoor.Bnd
