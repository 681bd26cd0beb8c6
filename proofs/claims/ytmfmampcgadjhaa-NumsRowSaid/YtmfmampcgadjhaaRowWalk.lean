/- Numbers put one behind the other are got, one behind the other: the law's walk. -/
import Derived.Test.YtmfmampcgadjhaaPlain
namespace Go.Proofs.Ytmfmampcgadjhaa
open Go.RowKit Go.Proofs.YtmfmampcgadjhaaW.PrintWords
theorem nat_of_u64r {a : Int} (h : (Lit.int .u64 a).wf = true) : ∃ x : Nat, a = (x : Int) ∧ x < 18446744073709551616 := by
  simp [Lit.wf, IntKind.min, IntKind.max, IntKind.signed, IntKind.bits] at h
  exact ⟨a.toNat, by omega, by omega⟩
/-- a slice of numbers that can be read. -/
def Nums (w : World) (A : Option Addr) (xs : List Nat) : Prop :=
  (∀ x ∈ xs, x < 18446744073709551616) ∧ (0 < xs.length → ∃ b off, A = some ⟨b, off, none⟩ ∧ b < w.heap.size ∧ ∀ j, (hj : j < xs.length) → w.cell? ⟨b, off + j, none⟩ = some (.int .u64 (xs[j] : Int)))
theorem Nums.below {w w' : World} {A : Option Addr} {xs : List Nat} (h : Nums w A xs) (hb : Below w.heap.size w w') : Nums w' A xs :=
  ⟨h.1, fun hn => by
    obtain ⟨b, off, e, hlt, hc⟩ := h.2 hn
    exact ⟨b, off, e, Nat.lt_of_lt_of_le hlt hb.size, fun j hj => (hb.cell (p := ⟨b, off + j, none⟩) hlt).trans (hc j hj)⟩⟩
theorem IsRow.nums64 {w : World} {a : Option Addr} {len cap : Nat} {zs : List Int} (h : IsRow .u64 w a len cap zs) : ∃ xs : List Nat, xs.length = len ∧ Nums w a xs ∧ len ≤ 9223372036854775807 := by
  rcases h with ⟨rfl, rfl, rfl, rfl⟩ | ⟨x, rfl, hl, hm, hz, hc, hw⟩
  · exact ⟨[], rfl, ⟨by simp, by simp⟩, by omega⟩
  · have hlen : ((zs.take len).map Int.toNat).length = len := by rw [List.length_map, List.length_take, hz]; exact Nat.min_eq_left hl
    have hb : ∀ z ∈ zs, 0 ≤ z ∧ z < 18446744073709551616 := fun z hzm => by
      obtain ⟨x, rfl, hx⟩ := nat_of_u64r (hw z hzm)
      omega
    refine ⟨(zs.take len).map Int.toNat, hlen, ⟨?_, fun hp => ?_⟩, by unfold maxLen at hm; omega⟩
    · intro y hy
      obtain ⟨z, hz1, rfl⟩ := List.mem_map.1 hy
      have := hb z (List.mem_of_mem_take hz1)
      omega
    · rw [hlen] at hp
      have h0 := hc 0 (by omega)
      have hadd0 : x.add 0 = x := by simp [Addr.add]
      rw [hadd0] at h0
      obtain ⟨b, off, sp⟩ := x
      obtain rfl : sp = none := congrArg Addr.spot (spot_none h0)
      refine ⟨b, off, rfl, World.block_lt_of_cell? w _ h0, fun j hj => ?_⟩
      rw [hlen] at hj
      have h1 := hc j (by omega)
      rw [add_of] at h1
      rw [h1]
      have hjz : j < zs.length := by omega
      have hbj := hb zs[j] (List.getElem_mem hjz)
      have e : zs.getD j 0 = zs[j] := by simp [hjz]
      rw [e]
      simp only [List.getElem_map, List.getElem_take]
      congr 2
      omega
def cat (xs : List Nat) : List UInt8 := xs.flatMap num
theorem cat_append (xs ys : List Nat) : cat (xs ++ ys) = cat xs ++ cat ys := by simp [cat]
theorem cat_le : ∀ (xs : List Nat), (∀ x ∈ xs, x < 18446744073709551616) → (cat xs).length ≤ 10 * xs.length
  | [], _ => by simp [cat]
  | x :: xs, h => by
    have h1 := cat_le xs (fun y hy => h y (List.mem_cons_of_mem _ hy))
    have h2 := num_le x (h x List.mem_cons_self)
    have e : cat (x :: xs) = num x ++ cat xs := rfl
    rw [e, List.length_append, List.length_cons]
    omega
set_option maxRecDepth 20000 in
set_option maxHeartbeats 2000000 in
theorem row_walk (A : Option Addr) (n c : Nat) (zs : List Int) (w : World) (hr : IsRow .u64 w A n c zs) (_hn : n * 8 ≤ 140737488351232) :
    Calls Try.prog 7 #[.slice A n c] w fun e w' => e = .returned (.bool true) ∧ Below w.heap.size w w' := by
  obtain ⟨xs, hlen, hX, hmax⟩ := hr.nums64
  clear hr
  by_cases hg : n ≤ 200
  · have d1 : decide (200 < (n : Int)) = false := by simp; omega
    have HX := Lib.hid hX
    have HN := Lib.hid hlen.symm
    have HALL := Lib.hid hX.1
    clear hX hlen
    go_enter Try.func7, Try.ntmps7
    go_wp2_with fail
    refine (alive_any _).mono ?_
    rintro e w1 ⟨rfl, hb1⟩
    have HB1 := Lib.hid hb1
    clear hb1
    go_wp2
    go_loopw [3, 4] (fun v i wr => ∃ k : Nat, k ≤ n ∧ i = .int .i64 k ∧ Hid (Row wr w.heap.size v (cat (xs.take k))) ∧ Hid (Below w.heap.size w wr)) (fun _ i _ => n - (intOf i).toNat)
    case atStart => exact ⟨0, by omega, rfl, Row.nil _ _, HB1.out⟩
    case round =>
      obtain ⟨k, hk, rfl, HR, HB⟩ := hrel
      by_cases hlt : k < n
      · have hkl : k < xs.length := by rw [← HN.out]; exact hlt
        obtain ⟨A3, c3, rfl, _, hJ⟩ := HR.out.bytes
        obtain ⟨b, off, rfl, _, hc⟩ := (HX.out.below HB.out).2 (by omega)
        have hck := hc k hkl
        have hxk := HALL.out xs[k] (List.getElem_mem hkl)
        have hsucc : cat (xs.take (k + 1)) = cat (xs.take k) ++ num xs[k] := by rw [List.take_succ_eq_append_getElem hkl, cat_append]; simp [cat]
        have hcl := cat_le (xs.take k) (fun x hx => HALL.out x (List.mem_of_mem_take hx))
        rw [List.length_take] at hcl
        generalize xs[k] = x at hck hxk hsucc
        generalize cat (xs.take k) = pre at *
        have HS := Lib.hid hsucc
        have HJ := Lib.hid hJ
        have i1 : (0 : Int) ≤ (k : Int) := by omega
        have i2 : (k : Int) < (n : Int) := by omega
        have hpl : pre.length ≤ 900000 := by omega
        have HPL := Lib.hid hpl
        clear hc hsucc hJ hcl hpl
        go_wp2_with fail
        refine (num_any A3 pre.length c3 pre rfl HPL.out x hxk _ HJ.out).mono ?_
        rintro e w2 ⟨⟨v, rfl, hr2⟩, hb2⟩
        have HR2 := Lib.hid (hr2.base HB.out.size)
        have HB2 := Lib.hid (HB.out.trans (hb2.mono HB.out.size))
        clear hr2 hb2
        go_wp2
        go_roundw
        case rel => exact ⟨k + 1, by omega, by go_num, by rw [HS.out]; exact HR2, HB2⟩
        case measure => simp [intOf]; omega
      · obtain rfl : k = n := by omega
        have hfin : xs.take k = xs := List.take_of_length_le (by rw [HN.out]; omega)
        rw [hfin] at HR
        obtain ⟨A3, c3, rfl, hle3, hJ⟩ := HR.out.bytes
        have HJ := Lib.hid hJ
        have HNM := Lib.hid (HX.out.below HB.out)
        have HBF := Lib.hid HB.out
        have HL3 := Lib.hid hle3
        clear hfin HR HX HB hJ hle3
        go_wp2
        go_loop [3, 5] (fun v i => ∃ (j m c4 : Nat) (A4 : Option Addr), j ≤ k ∧ i = .int .i64 j ∧ v = .slice A4 m c4 ∧ Hid (m = (cat (xs.drop j)).length) ∧ Hid (m ≤ c4) ∧ Hid (Bytes wr wr.heap.size A4 (cat (xs.drop j)))) (fun _ i => k - (intOf i).toNat)
        case atStart => exact ⟨0, _, _, _, by omega, rfl, rfl, Lib.hid (by rw [List.drop_zero]), HL3, by rw [List.drop_zero]; exact HJ⟩
        case round =>
          clear HJ HL3
          obtain ⟨j, m, c4, A4, hj, rfl, rfl, HM, HC, HJ⟩ := hrel
          by_cases hjk : j < k
          · have hjl : j < xs.length := by rw [← HN.out]; exact hjk
            obtain ⟨b, off, rfl, _, hc⟩ := HNM.out.2 (by omega)
            have hck := hc j hjl
            have hxk := HALL.out xs[j] (List.getElem_mem hjl)
            have hd : cat (xs.drop j) = num xs[j] ++ cat (xs.drop (j + 1)) := by rw [List.drop_eq_getElem_cons hjl]; rfl
            have hcl := cat_le (xs.drop j) (fun x hx => HALL.out x (List.mem_of_mem_drop hx))
            rw [List.length_drop] at hcl
            rw [hd] at HJ HM hcl
            generalize xs[j] = x at *
            obtain ⟨rest, hrest⟩ : ∃ rest, rest = cat (xs.drop (j + 1)) := ⟨_, rfl⟩
            rw [← hrest] at HJ HM hcl hd
            have HRS := Lib.hid hrest
            clear hrest
            have hget := get_num x hxk rest
            have hpos : 1 ≤ (num x).length := by unfold num; rw [numF]; split <;> simp
            have hml := HM.out
            rw [List.length_append] at hml hcl
            have HG := Lib.hid hget
            obtain ⟨t, ht⟩ : ∃ t, t = (num x).length := ⟨_, rfl⟩
            rw [← ht] at hpos hml hcl HG
            have HTT := Lib.hid ht
            have i1 : (0 : Int) ≤ (j : Int) := by omega
            have i2 : (j : Int) < (k : Int) := by omega
            have hmc := HC.out
            have s1 : t ≤ m := by omega
            have s3 : ¬ c4 < m := by omega
            have s4 : t ≤ c4 := by omega
            have d2 : decide ((t : Int) < 1) = false := by simp; omega
            have d3 : decide ((m : Int) < (t : Int)) = false := by simp; omega
            have d4 : decide (m < t) = false := by simp; omega
            have d5 : ¬ t = 0 := by omega
            have HREST := Lib.hid (show m - t = rest.length by omega)
            have HCT := Lib.hid (show m - t ≤ c4 - t by omega)
            clear hc hd hget ht hml hcl
            go_wp2_with fail
            refine (get_any A4 m c4 (num x ++ rest) HM.out _ HJ.out).mono ?_
            rintro e w2 ⟨rfl, rfl⟩
            rw [HG.out]
            unfold tup
            by_cases hct : c4 = t
            · have hr0 : rest = [] := List.eq_nil_of_length_eq_zero (by have := HREST.out; omega)
              have HR0 := Lib.hid hr0
              have HBY := Lib.hid (show Bytes wr wr.heap.size A4 rest by rw [hr0]; exact ⟨by simp, fun h => absurd h (by simp)⟩)
              subst hct
              clear hr0 hmc s4
              go_wp2
              go_round
              case rel => exact ⟨j + 1, m - c4, c4 - c4, A4, by omega, by go_num, by simp, by rw [← HRS.out]; exact HREST, HCT, by rw [← HRS.out]; exact HBY⟩
              case measure => simp [intOf]; omega
            · obtain ⟨b4, off4, rfl, hb4, hc4⟩ := HJ.out.2 (by rw [List.length_append, ← HTT.out]; omega)
              have HBY : Hid (Bytes wr wr.heap.size (some ⟨b4, off4 + t, none⟩) rest) := Lib.hid ⟨by have := HREST.out; have := HJ.out.1; rw [List.length_append] at this; omega, fun _ => ⟨b4, off4 + t, rfl, hb4, fun q hq => by
                have h := hc4 (t + q) (by rw [List.length_append, ← HTT.out]; omega)
                rw [Nat.add_assoc, h, List.getElem_append_right (by rw [← HTT.out]; omega)]
                simp [← HTT.out]⟩⟩
              clear hb4 hc4
              go_wp2
              go_round
              case rel => exact ⟨j + 1, m - t, c4 - t, some ⟨b4, off4 + t, none⟩, by omega, by go_num, by simp, by rw [← HRS.out]; exact HREST, HCT, by rw [← HRS.out]; exact HBY⟩
              case measure => simp [intOf]; omega
          · obtain rfl : j = k := by omega
            obtain rfl : m = 0 := by have := HM.out; rw [List.drop_eq_nil_of_le (by rw [HN.out]; omega)] at this; simpa [cat] using this
            go_wp2
            go_ret
            exact ⟨rfl, HBF.out⟩
  · have d1 : decide (200 < (n : Int)) = true := by simp; omega
    clear hX hlen
    go_enter Try.func7, Try.ntmps7
    go_wp2_with fail
    refine (alive_any _).mono ?_
    rintro e w1 ⟨rfl, hb1⟩
    have HB1 := Lib.hid hb1
    clear hb1
    go_wp2_with fail
    refine (alive_any _).mono ?_
    rintro e w2 ⟨rfl, hb2⟩
    have HB2 := Lib.hid (on HB1.out hb2)
    clear hb2
    go_wp2
    go_ret
    exact ⟨rfl, HB2.out⟩
end Go.Proofs.Ytmfmampcgadjhaa
