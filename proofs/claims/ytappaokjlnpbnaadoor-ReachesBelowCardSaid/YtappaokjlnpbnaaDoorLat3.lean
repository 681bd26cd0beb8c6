/- lattices.New. -/
import Derived.Test.YtappaokjlnpbnaaDoorLat2
namespace Go.Proofs.YtappaokjlnpbnaaDoor
open Go.RowKit Go.Proofs.YtappaokjlnpbnaaDoorW.PrintWords
/-- a lattice's cells under way: u rows above, those below of i rows, and of one more for the first j. -/
def latF (rows : List Nat) (u i j x : Nat) : Value :=
  if x = 0 then .int .i64 (rows.length : Int)
  else if x < 65 then .int .u64 ((if x - 1 < u then rows.getD (x - 1) 0 else 0 : Nat) : Int)
  else .int .u64 ((if x - 65 < j then upBits rows (x - 65) (i + 1) else upBits rows (x - 65) i : Nat) : Int)
theorem zero47 : Tryd.zeroCells47 = #[Value.int .i64 0] ++ Array.replicate 128 (Value.int .u64 0) := by kernel_rfl
theorem lat_made (w : World) (rows : List Nat) (n : Nat) (hn : n = rows.length) : (w.alloc (.cells (Tryd.zeroCells47.setIfInBounds 0 (.int .i64 (n : Int))) 47)).rowIs w.heap.size 47 129 (latF rows 0 0 0) := by
  have hs : (Tryd.zeroCells47.setIfInBounds 0 (.int .i64 (n : Int))).size = 129 := by rw [zero47]; simp
  have h := World.rowIs_alloc w (Tryd.zeroCells47.setIfInBounds 0 (.int .i64 (n : Int))) 47 (latF rows 0 0 0) (fun i hi => by
    rw [hs] at hi
    rw [zero47, Array.getElem?_setIfInBounds]
    by_cases e : i = 0
    · subst e
      simp [latF, hn]
    · rw [if_neg (fun h => e h.symm), Array.getElem?_append_right (by simp; omega)]
      simp [latF, e, upBits]
      rw [Array.getElem?_replicate, if_pos (by omega)])
  rw [hs] at h
  exact h
theorem latF_up {rows : List Nat} {i : Nat} (hi : i < rows.length) (h64 : rows.length ≤ 64) : ∀ x, x < 129 → (if x = 1 + i then Value.int .u64 ((rows.getD i 0 : Nat) : Int) else latF rows i i 0 x) = latF rows (i + 1) i 0 x := by
  intro x _
  unfold latF
  by_cases e : x = 1 + i
  · subst e
    rw [if_pos rfl, if_neg (by omega), if_pos (by omega), show 1 + i - 1 = i by omega, if_pos (by omega)]
  · rw [if_neg e]
    by_cases h0 : x = 0
    · rw [if_pos h0, if_pos h0]
    · rw [if_neg h0, if_neg h0]
      by_cases h1 : x < 65
      · rw [if_pos h1, if_pos h1]
        by_cases h2 : x - 1 < i
        · rw [if_pos h2, if_pos (show x - 1 < i + 1 by omega)]
        · rw [if_neg h2, if_neg (show ¬ x - 1 < i + 1 by omega)]
      · rw [if_neg h1, if_neg h1]
theorem latF_dn {rows : List Nat} {u i j g : Nat} (hj : j < 64) (hg : g = upBits rows j i ||| (if (rows.getD i 0).testBit j then 2 ^ i else 0)) : ∀ x, x < 129 → (if x = 65 + j then Value.int .u64 ((g : Nat) : Int) else latF rows u i j x) = latF rows u i (j + 1) x := by
  intro x _
  unfold latF
  by_cases e : x = 65 + j
  · subst e
    rw [if_pos rfl, if_neg (by omega), if_neg (by omega), show 65 + j - 65 = j by omega, if_pos (by omega), hg, upBits]
  · rw [if_neg e]
    by_cases h0 : x = 0
    · rw [if_pos h0, if_pos h0]
    · rw [if_neg h0, if_neg h0]
      by_cases h1 : x < 65
      · rw [if_pos h1, if_pos h1]
      · rw [if_neg h1, if_neg h1]
        by_cases h2 : x - 65 < j
        · rw [if_pos h2, if_pos (show x - 65 < j + 1 by omega)]
        · rw [if_neg h2, if_neg (show ¬ x - 65 < j + 1 by omega)]
theorem latF_turn {rows : List Nat} {u i : Nat} {w : World} {B : Nat} (h : w.rowIs B 47 129 (latF rows u i rows.length)) (hz : ∀ k, rows.length ≤ k → upBits rows k i = upBits rows k (i + 1)) : w.rowIs B 47 129 (latF rows u (i + 1) 0) :=
  h.congr (fun x _ => by
    unfold latF
    by_cases h0 : x = 0
    · rw [if_pos h0, if_pos h0]
    · rw [if_neg h0, if_neg h0]
      by_cases h1 : x < 65
      · rw [if_pos h1, if_pos h1]
      · rw [if_neg h1, if_neg h1, if_neg (show ¬ x - 65 < 0 by omega)]
        by_cases h2 : x - 65 < rows.length
        · rw [if_pos h2]
        · rw [if_neg h2, hz _ (by omega)])
theorem upBits_out {rows : List Nat} (hf : Fits rows) (k i : Nat) (hk : rows.length ≤ k) : upBits rows k i = upBits rows k (i + 1) := by
  rw [upBits]
  cases hb : (rows.getD i 0).testBit k with
  | false => simp
  | true => exact absurd (hf.bit i k hb) (by omega)
theorem lat_done {w : World} {B : Nat} {rows : List Nat} (hf : Fine rows) (h : w.rowIs B 47 129 (latF rows rows.length rows.length 0)) : LatAt w B rows := by
  have h64 := hf.le
  refine ⟨?_, fun i hi => ?_, fun i hi => ?_, .inr hf⟩
  · rw [h.cell (by omega)]
    simp [latF]
  · rw [h.cell (by omega)]
    unfold latF
    rw [if_neg (by omega), if_pos (by omega), show 1 + i - 1 = i by omega, if_pos hi]
  · rw [h.cell (by omega)]
    unfold latF
    rw [if_neg (by omega), if_neg (by omega), show 65 + i - 65 = i by omega, if_neg (by omega)]
    simp [downs, List.getD, hi]
/-- what New tells. -/
def NewSays (rows : List Nat) (W0 : World) (e : Ending) (w' : World) : Prop :=
  Below W0.heap.size W0 w' ∧ ((checkR rows ≠ 0 ∧ e = .returned (.tuple #[.pointer none, .int .i64 ((checkR rows : Nat) : Int)])) ∨ (Fine rows ∧ ∃ B, e = .returned (.tuple #[.pointer (some ⟨B, 0, none⟩), .int .i64 0]) ∧ W0.heap.size ≤ B ∧ LatAt w' B rows))
set_option maxRecDepth 20000 in
set_option maxHeartbeats 2000000 in
theorem new_any (A : Option Addr) (n c : Nat) (rows : List Nat) (hn : n = rows.length) (hmax : n ≤ 9223372036854775807) (w : World) (hI : Nums w A rows) (hT : Tab w) : Calls Tryd.prog 20 #[.slice A n c] w (NewSays rows w) := by
  have HI := Lib.hid hI
  have HT := Lib.hid hT
  have HN := Lib.hid hn
  have HZ := Lib.hid (check_zero hI.1)
  have HCK := Lib.hid (check_any A n c rows hn hmax w hI hT)
  clear hI hT hn
  obtain ⟨r, hr⟩ : ∃ r, r = checkR rows := ⟨_, rfl⟩
  rw [← hr] at HZ HCK
  have HE := Lib.hid hr
  clear hr
  by_cases hr0 : r = 0
  · have HF := Lib.hid (HZ.out.1 hr0)
    subst hr0
    clear HE
    have h64 : n ≤ 64 := by rw [HN.out]; exact HF.out.le
    clear HZ
    go_enter Tryd.func20, Tryd.ntmps20
    go_wp2_with fail
    refine HCK.out.mono ?_
    rintro e w1 ⟨rfl, hb1⟩
    have HR0 := Lib.hid (lat_made w1 rows n HN.out)
    have HB0 := Lib.hid (hb1.alloc hb1.size (.cells (Tryd.zeroCells47.setIfInBounds 0 (.int .i64 (n : Int))) 47))
    have HBB := Lib.hid hb1.size
    clear hb1
    go_wp2_with fail
    obtain ⟨B, hB⟩ : ∃ B, B = w1.heap.size := ⟨_, rfl⟩
    rw [← hB] at HR0 HBB
    rw [← hB]
    clear hB
    generalize w1.alloc (.cells (Tryd.zeroCells47.setIfInBounds 0 (.int .i64 (n : Int))) 47) = w2 at *
    go_loopw [20] (fun v wr => ∃ i : Nat, i ≤ n ∧ v = .int .i64 i ∧ Hid (wr.rowIs B 47 129 (latF rows i i 0)) ∧ Hid (Below w.heap.size w wr)) (fun v _ => n - (intOf v).toNat)
    case atStart => exact ⟨0, by omega, rfl, HR0, HB0⟩
    case round =>
      clear HR0 HB0
      obtain ⟨i, hi, rfl, HR, HB⟩ := hrel
      by_cases hin : i < n
      · have hil : i < rows.length := by have := HN.out; omega
        obtain ⟨b, off, rfl, _, hc⟩ := HI.out.2 (by omega)
        clear hc
        obtain ⟨b', off', hbo, _, hc⟩ := (HI.out.below HB.out).2 (by omega)
        obtain ⟨rfl, rfl, _⟩ := Addr.mk.inj (Option.some.inj hbo)
        have hck := hc i hil
        have hr := HI.out.1 rows[i] (List.getElem_mem hil)
        have HGD := Lib.hid (show rows.getD i 0 = rows[i] by simp [List.getD, hil])
        generalize rows[i] = r at hck hr HGD
        have i1 : (0 : Int) ≤ (i : Int) := by omega
        have i2 : (i : Int) < (n : Int) := by omega
        have i3 : (i : Int) < 64 := by omega
        have cu := HR.out.cell (i := 1 + i) (by omega)
        have fu := HR.out.frozen (1 + i)
        have HS := Lib.hid ((HR.out.set (1 + i) (.int .u64 (r : Int))).congr (g := latF rows (i + 1) i 0) (fun x hx => by rw [← HGD.out]; exact latF_up hil (by rw [← HN.out]; exact h64) x hx))
        have HB1 := Lib.hid (HB.out.setCell (p := ⟨B, 1 + i, none⟩) HBB.out (.int .u64 (r : Int)))
        clear hc hbo HR HB
        go_wp2_with fail
        generalize wr.setCell ⟨B, 1 + i, none⟩ (.int .u64 (r : Int)) = w3 at *
        go_loopw [33] (fun v wq => ∃ j : Nat, j ≤ n ∧ v = .int .i64 j ∧ Hid (wq.rowIs B 47 129 (latF rows (i + 1) i j)) ∧ Hid (Below w.heap.size w wq)) (fun v _ => n - (intOf v).toNat)
        case atStart => exact ⟨0, by omega, rfl, HS, HB1⟩
        case round =>
          clear HS HB1 cu fu hck
          obtain ⟨j, hj, rfl, HR, HB⟩ := hrel
          by_cases hjn : j < n
          · have cj := HR.out.cell (i := 65 + j) (by omega)
            rw [show latF rows (i + 1) i j (65 + j) = .int .u64 ((upBits rows j i : Nat) : Int) by
              unfold latF
              rw [if_neg (by omega), if_neg (by omega), show 65 + j - 65 = j by omega, if_neg (by omega)]] at cj
            have fj := HR.out.frozen (65 + j)
            have hol := upBits_lt rows j i
            have HG := Lib.hid (fun (g : Nat) hg => (HR.out.set (65 + j) (.int .u64 (g : Int))).congr (g := latF rows (i + 1) i (j + 1)) (latF_dn (rows := rows) (u := i + 1) (i := i) (j := j) (g := g) (by omega) hg))
            have hp : 2 ^ i ≤ 2 ^ 63 := Nat.pow_le_pow_right (by omega) (by omega)
            rw [show (2 : Nat) ^ 63 = 9223372036854775808 from rfl] at hp
            obtain ⟨o, ho⟩ : ∃ o, o = upBits rows j i := ⟨_, rfl⟩
            rw [← ho] at cj hol HG
            rw [HGD.out] at HG
            clear ho
            have ol2 : o < 18446744073709551616 := by omega
            have hba : bits .and .u64 ((r : Int) / 2 ^ j) 1 = if r.testBit j then 1 else 0 := by
              have e : (r : Int) / 2 ^ j = ((r / 2 ^ j : Nat) : Int) := by rw [Int.natCast_ediv, Int.natCast_pow]; rfl
              rw [e, bit_and _ (Nat.lt_of_le_of_lt (Nat.div_le_self _ _) hr), bit_is]
              cases r.testBit j <;> rfl
            have j1 : (0 : Int) ≤ (j : Int) := by omega
            have j2 : (j : Int) < (n : Int) := by omega
            have j3 : (j : Int) < 64 := by omega
            clear hol hp HR
            cases htb : r.testBit j with
            | false =>
              rw [htb] at hba HG
              have hor : bits .or .u64 (o : Int) 0 = (o : Int) := by
                have h := u64_or_nat o 0 ol2 (by decide)
                rwa [Nat.or_zero] at h
              have HS := Lib.hid (HG.out o (by simp))
              have HB2 := Lib.hid (HB.out.setCell (p := ⟨B, 65 + j, none⟩) HBB.out (.int .u64 (o : Int)))
              clear htb HG
              go_wp2_with fail
              go_region
              all_goals
                go_wp2
                go_roundw
                case rel => exact ⟨j + 1, by omega, by go_num, Lib.hid HS.out.drew, Lib.hid HB2.out.drew⟩
                case measure => simp [intOf]; omega
            | true =>
              rw [htb] at hba HG
              have hor : bits .or .u64 (o : Int) (IntKind.u64.wrap (2 ^ i)) = ((o ||| 2 ^ i : Nat) : Int) := by
                have e : (2 : Int) ^ i = ((2 ^ i : Nat) : Int) := by push_cast; rfl
                have hp : 2 ^ i ≤ 2 ^ 63 := Nat.pow_le_pow_right (by omega) (by omega)
                rw [show (2 : Nat) ^ 63 = 9223372036854775808 from rfl] at hp
                rw [e]
                generalize 2 ^ i = q at *
                rw [show IntKind.u64.wrap (q : Int) = (q : Int) by rw [IntKind.wrap_u64]; omega]
                exact u64_or_nat o q (by omega) (by omega)
              have HS := Lib.hid (HG.out (o ||| 2 ^ i) (by simp))
              have HB2 := Lib.hid (HB.out.setCell (p := ⟨B, 65 + j, none⟩) HBB.out (.int .u64 ((o ||| 2 ^ i : Nat) : Int)))
              clear htb HG
              go_wp2_with fail
              go_region
              all_goals
                go_wp2
                go_roundw
                case rel => exact ⟨j + 1, by omega, by go_num, Lib.hid HS.out.drew, Lib.hid HB2.out.drew⟩
                case measure => simp [intOf]; omega
          · obtain rfl : n = j := by omega
            have HT2 := Lib.hid (latF_turn (u := i + 1) (i := i) (by rw [← HN.out]; exact HR.out) (fun k hk => upBits_out HF.out.fits k i hk))
            go_wp2
            go_roundw
            case rel => exact ⟨i + 1, by omega, by go_num, HT2, HB⟩
            case measure => simp [intOf]; omega
      · obtain rfl : n = i := by omega
        have HD := Lib.hid (lat_done HF.out (by rw [← HN.out]; exact HR.out))
        go_wp2
        go_ret2
        exact ⟨HB.out, .inr ⟨HF.out, B, rfl, HBB.out, HD.out⟩⟩
  · have d1 : ((r : Int) != 0) = true := by simp; omega
    go_enter Tryd.func20, Tryd.ntmps20
    go_wp2_with fail
    refine HCK.out.mono ?_
    rintro e w1 ⟨rfl, hb1⟩
    have HB1 := Lib.hid hb1
    clear hb1
    go_wp2
    go_ret2
    exact ⟨HB1.out, .inl ⟨by rw [← HE.out]; exact hr0, by rw [← HE.out]; rfl⟩⟩
end Go.Proofs.YtappaokjlnpbnaaDoor
