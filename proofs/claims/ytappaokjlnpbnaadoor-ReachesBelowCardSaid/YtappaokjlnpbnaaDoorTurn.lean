/- orders.turned. -/
import Derived.Test.YtappaokjlnpbnaaDoorOrd
import Derived.Deep.OwnRows
import Derived.Deep.RegionHeld3
namespace Go.Proofs.YtappaokjlnpbnaaDoor
open Go.RowKit Go.Proofs.YtappaokjlnpbnaaDoorW.PrintWords
/-- those of the first i rows that have j, as bits. -/
def upBits (rows : List Nat) (j : Nat) : Nat → Nat
  | 0 => 0
  | i + 1 => upBits rows j i ||| (if (rows.getD i 0).testBit j then 2 ^ i else 0)
theorem upBits_lt (rows : List Nat) (j : Nat) : ∀ i, upBits rows j i < 2 ^ i
  | 0 => by simp [upBits]
  | i + 1 => by
    have h := upBits_lt rows j i
    have h1 : (if (rows.getD i 0).testBit j then 2 ^ i else 0) < 2 ^ (i + 1) := by
      have : 2 ^ i < 2 ^ (i + 1) := Nat.pow_lt_pow_right (by omega) (by omega)
      split <;> omega
    rw [upBits]
    exact Nat.or_lt_two_pow (Nat.lt_of_lt_of_le h (Nat.pow_le_pow_right (by omega) (by omega))) h1
theorem info23 : (Tryd.prog.info? 25).map (fun i => (i.zero, i.size, i.bytes)) = some (some (.int .u64 0), 1, 8) := by kernel_rfl
theorem under22 : Tryd.prog.underlying 22 = some (.slice 25) := by kernel_rfl
set_option maxRecDepth 20000 in
set_option maxHeartbeats 2000000 in
theorem turned_any (A : Option Addr) (n c : Nat) (rows : List Nat) (hn : n = rows.length) (hmax : n ≤ 64) (w : World) (hI : Nums w A rows) : Calls Tryd.prog 73 #[.slice A n c] w fun e w' => e = .returned (.slice (some ⟨w.heap.size, 0, none⟩) n n) ∧ w'.rowIs w.heap.size 25 n (fun j => .int .u64 ((upBits rows j n : Nat) : Int)) ∧ Below w.heap.size w w' := by
  have mk1 := run_make_row' (P := Tryd.prog) 22 25 (.int .u64 0) 8 under22 info23 rfl .i64 .i64 n (by omega) (by omega)
  have HI := Lib.hid hI
  have HN := Lib.hid hn
  clear hI hn
  have HR0 := Lib.hid (World.rowIs_made w (.int .u64 0) n 25)
  have HB0 := Lib.hid ((Below.refl w.heap.size w).alloc (Nat.le_refl _) (.cells (madeCells #[.int .u64 0] n) 25))
  go_enter Tryd.func73, Tryd.ntmps73
  go_wp2
  obtain ⟨B, hB⟩ : ∃ B, B = w.heap.size := ⟨_, rfl⟩
  rw [← hB] at HR0
  rw [← hB]
  have HBB := Lib.hid hB
  clear hB
  generalize w.alloc (.cells (madeCells #[.int .u64 0] n) 25) = w0 at *
  go_loopw [12] (fun v wr => ∃ i : Nat, i ≤ n ∧ v = .int .i64 i ∧ Hid (wr.rowIs B 25 n (fun j => .int .u64 ((upBits rows j i : Nat) : Int))) ∧ Hid (Below w.heap.size w wr)) (fun v _ => n - (intOf v).toNat)
  case atStart => exact ⟨0, by omega, rfl, HR0, HB0⟩
  case round =>
    obtain ⟨i, hi, rfl, HR, HB⟩ := hrel
    by_cases hin : i < n
    · have hil : i < rows.length := by have := HN.out; omega
      obtain ⟨b, off, rfl, _, hc⟩ := (HI.out.below HB.out).2 (by omega)
      have hck := hc i hil
      have hr := HI.out.1 rows[i] (List.getElem_mem hil)
      have hgd : rows.getD i 0 = rows[i] := by simp [List.getD, hil]
      generalize rows[i] = r at hck hr hgd
      have i1 : (0 : Int) ≤ (i : Int) := by omega
      have i2 : (i : Int) < (n : Int) := by omega
      have HGD := Lib.hid hgd
      have HBO := HB
      have HRO := HR
      clear hc hgd HB HR
      go_wp2
      go_loopw [19] (fun v wq => ∃ j : Nat, j ≤ n ∧ v = .int .i64 j ∧ Hid (wq.rowIs B 25 n (fun j' => .int .u64 ((if j' < j then upBits rows j' (i + 1) else upBits rows j' i : Nat) : Int))) ∧ Hid (Below w.heap.size w wq)) (fun v _ => n - (intOf v).toNat)
      case atStart => exact ⟨0, by omega, rfl, HRO.out.congr (fun j' _ => by rw [if_neg (by omega)]), HBO⟩
      case round =>
        clear HRO HBO hck
        obtain ⟨j, hj, rfl, HR, HB⟩ := hrel
        by_cases hjn : j < n
        · have hcj := HR.out.cell hjn
          rw [if_neg (by omega)] at hcj
          have hfj := HR.out.frozen j
          have hol := upBits_lt rows j i
          have hup : upBits rows j (i + 1) = upBits rows j i ||| (if r.testBit j then 2 ^ i else 0) := by rw [upBits, HGD.out]
          obtain ⟨o, ho⟩ : ∃ o, o = upBits rows j i := ⟨_, rfl⟩
          rw [← ho] at hcj hol hup
          clear ho
          have hp : 2 ^ i ≤ 2 ^ 63 := Nat.pow_le_pow_right (by omega) (by omega)
          rw [show (2 : Nat) ^ 63 = 9223372036854775808 from rfl] at hp
          have hba : bits .and .u64 ((r : Int) / 2 ^ j) 1 = if r.testBit j then 1 else 0 := by
            have e : (r : Int) / 2 ^ j = ((r / 2 ^ j : Nat) : Int) := by rw [Int.natCast_ediv, Int.natCast_pow]; rfl
            rw [e, bit_and _ (Nat.lt_of_le_of_lt (Nat.div_le_self _ _) hr), bit_is]
            cases r.testBit j <;> rfl
          have hor1 : bits .or .u64 (o : Int) (IntKind.u64.wrap (2 ^ i)) = ((o ||| 2 ^ i : Nat) : Int) := by
            have e : (2 : Int) ^ i = ((2 ^ i : Nat) : Int) := by push_cast; rfl
            rw [e]
            generalize 2 ^ i = q at *
            rw [show IntKind.u64.wrap (q : Int) = (q : Int) by rw [IntKind.wrap_u64]; omega]
            exact u64_or_nat o q (by omega) (by omega)
          have hor0 : bits .or .u64 (o : Int) 0 = (o : Int) := by
            generalize 2 ^ i = q at *
            have h := u64_or_nat o 0 (by omega) (by decide)
            rwa [Nat.or_zero] at h
          have j1 : (0 : Int) ≤ (j : Int) := by omega
          have j2 : (j : Int) < (n : Int) := by omega
          have HUP := Lib.hid hup
          have HBS := Lib.hid (show w.heap.size ≤ B by rw [HBB.out]; exact Nat.le_refl _)
          clear hup hol hp
          cases htb : r.testBit j with
          | false =>
            rw [htb] at hba HUP
            have HS := Lib.hid (HR.out.set j (.int .u64 (o : Int)))
            clear htb hor1
            go_wp2
            go_region
            all_goals
              go_wp2
              go_roundw
              case rel => exact ⟨j + 1, by omega, by go_num, Lib.hid ((HS.out.drew).congr (fun j' hj' => by
                by_cases e : j' = j
                · subst e
                  rw [if_pos rfl, if_pos (by omega), HUP.out]
                  simp
                · rw [if_neg e]
                  by_cases e2 : j' < j
                  · rw [if_pos e2, if_pos (by omega)]
                  · rw [if_neg e2, if_neg (by omega)])), Lib.hid ((HB.out.setCell (p := ⟨B, j, none⟩) HBS.out _).drew)⟩
              case measure => simp [intOf]; omega
          | true =>
            rw [htb] at hba HUP
            have HS := Lib.hid (HR.out.set j (.int .u64 ((o ||| 2 ^ i : Nat) : Int)))
            clear htb hor0
            go_wp2
            go_region
            all_goals
              go_wp2
              go_roundw
              case rel => exact ⟨j + 1, by omega, by go_num, Lib.hid ((HS.out.drew).congr (fun j' hj' => by
                by_cases e : j' = j
                · subst e
                  rw [if_pos rfl, if_pos (by omega), HUP.out]
                  simp
                · rw [if_neg e]
                  by_cases e2 : j' < j
                  · rw [if_pos e2, if_pos (by omega)]
                  · rw [if_neg e2, if_neg (by omega)])), Lib.hid ((HB.out.setCell (p := ⟨B, j, none⟩) HBS.out _).drew)⟩
              case measure => simp [intOf]; omega
        · obtain rfl : j = n := by omega
          go_wp2
          go_roundw
          case rel => exact ⟨i + 1, by omega, by go_num, HR.out.congr (fun j' hj' => by rw [if_pos hj']), HB⟩
          case measure => simp [intOf]; omega
    · obtain rfl : i = n := by omega
      go_wp2
      go_ret
      exact ⟨by rw [← HBB.out]; rfl, by rw [← HBB.out]; exact HR.out, HB.out⟩
end Go.Proofs.YtappaokjlnpbnaaDoor
