/- orders.all, orders.ordered. -/
import Derived.Test.YtappaokjlnpbnaaDoorOne
namespace Go.Proofs.YtappaokjlnpbnaaDoor
open Go.RowKit Go.Proofs.YtappaokjlnpbnaaDoorW.PrintWords
theorem all_any (n : Nat) (hn : n ≤ 64) (w : World) : Calls Tryd.prog 71 #[.int .i64 (n : Int)] w fun e w' => e = .returned (.int .u64 ((2 ^ n - 1 : Nat) : Int)) ∧ w = w' := by
  have hv : IntKind.u64.wrap (IntKind.u64.wrap (2 ^ n) - 1) = ((2 ^ n - 1 : Nat) : Int) := by
    have hp : 0 < 2 ^ n := Nat.pow_pos (by omega)
    have hle : 2 ^ n ≤ 2 ^ 64 := Nat.pow_le_pow_right (by omega) hn
    rw [show (2 : Nat) ^ 64 = 18446744073709551616 from rfl] at hle
    have e : (2 : Int) ^ n = ((2 ^ n : Nat) : Int) := by push_cast; rfl
    rw [e]
    generalize 2 ^ n = q at *
    rw [IntKind.wrap_u64, IntKind.wrap_u64]
    omega
  go_enter Tryd.func71, Tryd.ntmps71
  go_wp2
  go_ret
  exact ⟨rfl, rfl⟩
def diff (o r : Nat) : Nat := o &&& (18446744073709551615 - r)
def bad (rows : List Nat) (i j : Nat) : Bool := (j != i) && (rows.getD i 0).testBit j && ((rows.getD j 0).testBit i || (diff (rows.getD j 0) (rows.getD i 0) != 0))
def ordB (rows : List Nat) : Bool := (List.range rows.length).all fun i => (rows.getD i 0).testBit i && (List.range rows.length).all fun j => !bad rows i j
set_option maxRecDepth 20000 in
set_option maxHeartbeats 2000000 in
theorem ordered_any (A : Option Addr) (n c : Nat) (rows : List Nat) (hn : n = rows.length) (hmax : n ≤ 64) (w : World) (hI : Nums w A rows) : Calls Tryd.prog 72 #[.slice A n c] w fun e w' => e = .returned (.bool (ordB rows)) ∧ w = w' := by
  have HI := Lib.hid hI
  have HN := Lib.hid hn
  clear hI hn
  go_enter Tryd.func72, Tryd.ntmps72
  go_wp2
  go_loop [9] (fun v => ∃ i : Nat, i ≤ n ∧ v = .int .i64 i ∧ Hid (∀ i', i' < i → (rows.getD i' 0).testBit i' = true ∧ ∀ j, j < n → bad rows i' j = false)) (fun v => n - (intOf v).toNat)
  case atStart => exact ⟨0, by omega, rfl, fun i' h => by omega⟩
  case round =>
    obtain ⟨i, hi, rfl, H1⟩ := hrel
    by_cases hin : i < n
    · have hil : i < rows.length := by have := HN.out; omega
      obtain ⟨b, off, rfl, _, hc⟩ := HI.out.2 (by omega)
      have hck := hc i hil
      have hr := HI.out.1 rows[i] (List.getElem_mem hil)
      have hgd : rows.getD i 0 = rows[i] := by simp [List.getD, hil]
      generalize rows[i] = r at hck hr hgd
      have hbz := bit_zero r i hr
      have i1 : (0 : Int) ≤ (i : Int) := by omega
      have i2 : (i : Int) < (n : Int) := by omega
      have HC := Lib.hid hc
      have HGD := Lib.hid hgd
      clear hc hgd
      cases hb : r.testBit i with
      | false =>
        rw [hb] at hbz
        have HR := Lib.hid (show ordB rows = false by
          unfold ordB
          rw [List.all_eq_false]
          exact ⟨i, List.mem_range.2 hil, by rw [HGD.out, hb]; simp⟩)
        clear hb
        go_wp2
        go_ret
        exact ⟨ret_eq HR.out.symm, rfl⟩
      | true =>
        rw [hb] at hbz
        have HB := Lib.hid hb
        clear hb
        go_wp2
        go_loop [21] (fun v => ∃ j : Nat, j ≤ n ∧ v = .int .i64 j ∧ Hid (∀ j', j' < j → bad rows i j' = false)) (fun v => n - (intOf v).toNat)
        case atStart => exact ⟨0, by omega, rfl, fun j' h => by omega⟩
        case round =>
          obtain ⟨j, hj, rfl, H2⟩ := hrel
          by_cases hjn : j < n
          · have hjl : j < rows.length := by have := HN.out; omega
            have hcj := HC.out j hjl
            have ho := HI.out.1 rows[j] (List.getElem_mem hjl)
            have hgj : rows.getD j 0 = rows[j] := by simp [List.getD, hjl]
            generalize rows[j] = o at hcj ho hgj
            have hb1 := bit_one r j hr
            have hb2 := bit_one o i ho
            have hdf : bits .andNot .u64 (o : Int) (r : Int) = ((diff o r : Nat) : Int) := u64_andNot_nat o r ho hr
            have HBAD := Lib.hid (show bad rows i j = ((j != i) && r.testBit j && (o.testBit i || (diff o r != 0))) by unfold bad; rw [hgj, HGD.out])
            obtain ⟨q, hq⟩ : ∃ q, q = diff o r := ⟨_, rfl⟩
            rw [← hq] at hdf HBAD
            have j1 : (0 : Int) ≤ (j : Int) := by omega
            have j2 : (j : Int) < (n : Int) := by omega
            have e1 : ((j : Int) != (i : Int)) = (j != i) := by
              rw [Bool.eq_iff_iff]
              simp
              omega
            have e2 : ((q : Int) != 0) = (q != 0) := by
              rw [Bool.eq_iff_iff]
              simp
            obtain ⟨p1, hp1⟩ : ∃ p, p = (j != i) := ⟨_, rfl⟩
            obtain ⟨p2, hp2⟩ : ∃ p, p = r.testBit j := ⟨_, rfl⟩
            obtain ⟨p3, hp3⟩ : ∃ p, p = o.testBit i := ⟨_, rfl⟩
            obtain ⟨p4, hp4⟩ : ∃ p, p = (q != 0) := ⟨_, rfl⟩
            rw [← hp1] at e1 HBAD
            rw [← hp2] at hb1 HBAD
            rw [← hp3] at hb2 HBAD
            rw [← hp4] at e2 HBAD
            clear hp1 hp2 hp3 hp4 hgj hq
            cases p1 <;> cases p2 <;> cases p3 <;> cases p4
            all_goals
              go_wp2
              first
                | (go_round
                   case rel => exact ⟨j + 1, by omega, by go_num, fun j' h => by
                     by_cases e : j' = j
                     · subst e
                       rw [HBAD.out]
                       rfl
                     · exact H2.out j' (by omega)⟩
                   case measure => simp [intOf]; omega)
                | (go_ret
                   refine ⟨ret_eq ?_, rfl⟩
                   unfold ordB
                   symm
                   rw [List.all_eq_false]
                   refine ⟨i, List.mem_range.2 hil, ?_⟩
                   rw [Bool.and_eq_true, not_and]
                   intro _ h
                   have h2 := List.all_eq_true.1 h j (List.mem_range.2 hjl)
                   rw [HBAD.out] at h2
                   simp at h2)
          · obtain rfl : j = n := by omega
            go_wp2
            go_round
            case rel => exact ⟨i + 1, by omega, by go_num, fun i' h => by
              by_cases e : i' = i
              · subst e
                exact ⟨by rw [HGD.out]; exact HB.out, fun j' hj' => H2.out j' hj'⟩
              · exact H1.out i' (by omega)⟩
            case measure => simp [intOf]; omega
    · obtain rfl : i = n := by omega
      have HR := Lib.hid (show ordB rows = true by
        unfold ordB
        rw [List.all_eq_true]
        intro i' hi'
        obtain ⟨h1, h2⟩ := H1.out i' (by rw [HN.out]; exact List.mem_range.1 hi')
        rw [h1, Bool.true_and, List.all_eq_true]
        intro j' hj'
        rw [h2 j' (by rw [HN.out]; exact List.mem_range.1 hj')]
        rfl)
      go_wp2
      go_ret
      exact ⟨ret_eq HR.out.symm, rfl⟩
end Go.Proofs.YtappaokjlnpbnaaDoor
