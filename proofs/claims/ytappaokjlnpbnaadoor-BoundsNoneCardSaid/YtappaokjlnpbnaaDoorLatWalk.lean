/- The laws' walks at whatever comes in; a lattice that is not there. -/
import Derived.Test.YtappaokjlnpbnaaDoorLatTurns
import Derived.WideKeyArr2
import Derived.Laws.IdiomArrays
import Derived.ProofKit
import Derived.ChangeSame
namespace Go.Proofs.YtappaokjlnpbnaaDoor
open Go.RowKit Go.ChangeShapes Go.WideShapes Go.Proofs.YtappaokjlnpbnaaDoorW.PrintWords
set_option maxRecDepth 100000 in
theorem arrKey3 : WideMaps.ArrKey Tryd.prog 23 5 3 := ⟨Tryd.underlying23, by kernel_rfl, by kernel_rfl, by kernel_rfl⟩
set_option maxRecDepth 100000 in
theorem arrKey2 : WideMaps.ArrKey Tryd.prog 49 5 2 := ⟨Tryd.underlying49, by kernel_rfl, by kernel_rfl, by kernel_rfl⟩
theorem byte_of {a : Int} (h : (Lit.int .u8 a).wf = true) : ∃ x : Nat, a = (x : Int) ∧ x < 256 := by
  simp [Lit.wf, IntKind.min, IntKind.max, IntKind.signed, IntKind.bits] at h
  exact ⟨a.toNat, by omega, by omega⟩
theorem trod_array2 {H : Type} {enc : TypeId × Value → H} {P : Program} {w : World} {base : Nat} {spare : Nat → Bool} {held : Bool} {t e : TypeId} {fuel : Nat} {c0 c1 : Value} {x : DataW H × List MemPlace} (ht : P.underlying t = some (.array 2 e)) (hce : P.cellsOf e = 1)
    (h : DataW.trod enc P w base spare held fuel t [c0, c1] = some x) :
    ∃ y0 y1 n, x = (.agg [y0.1, y1.1], y0.2 ++ y1.2) ∧ DataW.trod enc P w base spare held n e [c0] = some y0 ∧ DataW.trod enc P w base spare held n e [c1] = some y1 := by
  cases fuel with
  | zero => simp [DataW.trod] at h
  | succ n =>
    unfold DataW.trod at h
    rw [ht] at h
    have r3 : List.range 2 = [0, 1] := rfl
    simp [r3, hce] at h
    obtain ⟨_, h⟩ := h
    cases h0 : DataW.trod enc P w base spare held n e [c0] with
    | none => simp [h0] at h
    | some y0 =>
      cases h1 : DataW.trod enc P w base spare held n e [c1] with
      | none => simp [h0, h1] at h
      | some y1 =>
        simp [h0, h1] at h
        exact ⟨y0, y1, n, h.symm, h0, h1⟩
set_option maxRecDepth 100000 in
theorem turns_walk {H : Type} {enc : TypeId × Value → H} {base : Nat} {r : Reach} {b0 : Nat} {sp : Nat → Bool} {held : Bool} {P : Prop} (A : Option Addr) (n c : Nat) (zs : List Int) (v : Value) (d : DataW H) (p : List MemPlace) (W : World) (hr : IsRow .u64 W A n c zs) (_hn : n * 8 ≤ 140737488351232) (ho : Value.okWide Tryd.prog W r b0 23 v) (ht : DataW.Trod enc Tryd.prog W base sp held 23 v d p) (_ : P) (hT : Lib.TabIs Tryd.prog W "math/bits.deBruijn64tab" .u8 tab64) :
    Calls Tryd.prog 3 #[.slice A n c, v] W fun e w' => e = .returned (.bool true) ∧ Below W.heap.size W w' := by
  obtain ⟨rows, hlen, hI, hcap⟩ := hr.nums64
  obtain ⟨xs, rfl, hs⟩ := WideMaps.okWide_arr (n := 3) (e := 5) arrKey3 ho
  obtain ⟨v0, v1, v2, rfl⟩ : ∃ a b c, xs = #[a, b, c] := by
    rcases xs with ⟨l⟩
    simp at hs
    match l, hs with
    | [a, b, c], _ => exact ⟨a, b, c, rfl⟩
  obtain ⟨fuel, hf⟩ := ht
  obtain ⟨y0, y1, y2, m, _, h0, h1, h2⟩ := trod_array3 (e := 5) Tryd.underlying23 (by kernel_rfl) (c0 := v0) (c1 := v1) (c2 := v2) hf
  obtain ⟨a0, e0, _, wa⟩ := DataW.trod_int Tryd.underlying5 h0
  obtain ⟨a1, e1, _, wb⟩ := DataW.trod_int Tryd.underlying5 h1
  obtain ⟨a2, e2, _, wc⟩ := DataW.trod_int Tryd.underlying5 h2
  cases e0
  cases e1
  cases e2
  obtain ⟨x, rfl, hx⟩ := byte_of wa
  obtain ⟨y, rfl, hy⟩ := byte_of wb
  obtain ⟨z, rfl, hz⟩ := byte_of wc
  exact turns_in A n c rows x y z hlen.symm hcap hx hy hz W hI (tab_of hT)
set_option maxRecDepth 100000 in
theorem latbelow_walk {H : Type} {enc : TypeId × Value → H} {base : Nat} {r : Reach} {b0 : Nat} {sp : Nat → Bool} {held : Bool} {P : Prop} (A : Option Addr) (n c : Nat) (zs : List Int) (v : Value) (d : DataW H) (p : List MemPlace) (W : World) (hr : IsRow .u64 W A n c zs) (_hn : n * 8 ≤ 140737488351232) (ho : Value.okWide Tryd.prog W r b0 49 v) (ht : DataW.Trod enc Tryd.prog W base sp held 49 v d p) (_ : P) (hT : Lib.TabIs Tryd.prog W "math/bits.deBruijn64tab" .u8 tab64) :
    Calls Tryd.prog 6 #[.slice A n c, v] W fun e w' => e = .returned (.bool true) ∧ Below W.heap.size W w' := by
  obtain ⟨rows, hlen, hI, hcap⟩ := hr.nums64
  obtain ⟨xs, rfl, hs⟩ := WideMaps.okWide_arr (n := 2) (e := 5) arrKey2 ho
  obtain ⟨v0, v1, rfl⟩ : ∃ a b, xs = #[a, b] := by
    rcases xs with ⟨l⟩
    simp at hs
    match l, hs with
    | [a, b], _ => exact ⟨a, b, rfl⟩
  obtain ⟨fuel, hf⟩ := ht
  obtain ⟨y0, y1, m, _, h0, h1⟩ := trod_array2 (e := 5) Tryd.underlying49 (by kernel_rfl) (c0 := v0) (c1 := v1) hf
  obtain ⟨a0, e0, _, wa⟩ := DataW.trod_int Tryd.underlying5 h0
  obtain ⟨a1, e1, _, wb⟩ := DataW.trod_int Tryd.underlying5 h1
  cases e0
  cases e1
  obtain ⟨x, rfl, hx⟩ := byte_of wa
  obtain ⟨y, rfl, hy⟩ := byte_of wb
  exact latbelow_in A n c rows x y hlen.symm hcap hx hy W hI (tab_of hT)
set_option maxRecDepth 100000 in
theorem latbounds_walk {H : Type} {enc : TypeId × Value → H} {base : Nat} {r : Reach} {b0 : Nat} {sp : Nat → Bool} {held : Bool} {P : Prop} (A : Option Addr) (n c : Nat) (zs : List Int) (v : Value) (d : DataW H) (p : List MemPlace) (W : World) (hr : IsRow .u64 W A n c zs) (_hn : n * 8 ≤ 140737488351232) (ho : Value.okWide Tryd.prog W r b0 23 v) (ht : DataW.Trod enc Tryd.prog W base sp held 23 v d p) (_ : P) (hT : Lib.TabIs Tryd.prog W "math/bits.deBruijn64tab" .u8 tab64) :
    Calls Tryd.prog 7 #[.slice A n c, v] W fun e w' => e = .returned (.bool true) ∧ Below W.heap.size W w' := by
  obtain ⟨rows, hlen, hI, hcap⟩ := hr.nums64
  obtain ⟨xs, rfl, hs⟩ := WideMaps.okWide_arr (n := 3) (e := 5) arrKey3 ho
  obtain ⟨v0, v1, v2, rfl⟩ : ∃ a b c, xs = #[a, b, c] := by
    rcases xs with ⟨l⟩
    simp at hs
    match l, hs with
    | [a, b, c], _ => exact ⟨a, b, c, rfl⟩
  obtain ⟨fuel, hf⟩ := ht
  obtain ⟨y0, y1, y2, m, _, h0, h1, h2⟩ := trod_array3 (e := 5) Tryd.underlying23 (by kernel_rfl) (c0 := v0) (c1 := v1) (c2 := v2) hf
  obtain ⟨a0, e0, _, wa⟩ := DataW.trod_int Tryd.underlying5 h0
  obtain ⟨a1, e1, _, wb⟩ := DataW.trod_int Tryd.underlying5 h1
  obtain ⟨a2, e2, _, wc⟩ := DataW.trod_int Tryd.underlying5 h2
  cases e0
  cases e1
  cases e2
  obtain ⟨x, rfl, hx⟩ := byte_of wa
  obtain ⟨y, rfl, hy⟩ := byte_of wb
  obtain ⟨z, rfl, hz⟩ := byte_of wc
  exact latbounds_in A n c rows x y z hlen.symm hcap hx hy hz W hI (tab_of hT)
theorem nil_has (a : Nat) : decide (a < ([] : List Nat).length) = false := by simp
theorem nil_row (a b : Nat) : rowB [] a b = false := rowB_no (by simp)
theorem nil_join (a b : Nat) : joinF [] a b = 0 := by unfold joinF pickF; rw [if_neg (by simp)]
theorem nil_meet (a b : Nat) : meetF [] a b = 0 := by unfold meetF pickF; rw [downs_length, if_neg (by simp)]
theorem nil_bot : botF [] = 0 := by unfold botF endF; simp
theorem nil_top : topF [] = 0 := by unfold topF endF; rw [downs_length]; simp
theorem noneHas (v : Value) (a : Nat) (W : World) (h : LatV W v []) : Calls Tryd.prog 23 #[v, .int .u64 (a : Int)] W fun e w' => e = .returned (.bool false) ∧ Below W.heap.size W w' :=
  (has_any v [] a W h).mono (by rintro e w' ⟨rfl, rfl⟩; exact ⟨by rw [nil_has], Below.refl _ _⟩)
theorem noneRow (v : Value) (a b : Nat) (W : World) (h : LatV W v []) : Calls Tryd.prog 25 #[v, .int .u64 (a : Int), .int .u64 (b : Int)] W fun e w' => e = .returned (.bool false) ∧ Below W.heap.size W w' :=
  (latbelow_any v [] a b W h).mono (by rintro e w' ⟨rfl, rfl⟩; exact ⟨by rw [nil_row], Below.refl _ _⟩)
theorem noneJoin (v : Value) (a b : Nat) (W : World) (h : LatV W v []) (hT : Tab W) : Calls Tryd.prog 17 #[v, .int .u64 (a : Int), .int .u64 (b : Int)] W fun e w' => e = .returned (.int .u64 0) ∧ Below W.heap.size W w' :=
  (join_any v [] a b W h hT).mono (by rintro e w' ⟨rfl, hb⟩; exact ⟨by rw [nil_join]; rfl, hb⟩)
theorem noneMeet (v : Value) (a b : Nat) (W : World) (h : LatV W v []) (hT : Tab W) : Calls Tryd.prog 18 #[v, .int .u64 (a : Int), .int .u64 (b : Int)] W fun e w' => e = .returned (.int .u64 0) ∧ Below W.heap.size W w' :=
  (meet_any v [] a b W h hT).mono (by rintro e w' ⟨rfl, hb⟩; exact ⟨by rw [nil_meet]; rfl, hb⟩)
theorem noneBot (v : Value) (W : World) (h : LatV W v []) (hT : Tab W) : Calls Tryd.prog 27 #[v] W fun e w' => e = .returned (.int .u64 0) ∧ Below W.heap.size W w' :=
  (bottom_any v [] W h hT).mono (by rintro e w' ⟨rfl, hb⟩; exact ⟨by rw [nil_bot]; rfl, hb⟩)
theorem noneTop (v : Value) (W : World) (h : LatV W v []) (hT : Tab W) : Calls Tryd.prog 29 #[v] W fun e w' => e = .returned (.int .u64 0) ∧ Below W.heap.size W w' :=
  (top_any v [] W h hT).mono (by rintro e w' ⟨rfl, hb⟩; exact ⟨by rw [nil_top]; rfl, hb⟩)
theorem blk_cell_on {w w' : World} {B : Nat} {u v : Value} (h : w.cell? ⟨B, 0, none⟩ = some u ∧ w.cell? ⟨B, 1, none⟩ = some v) (hb : Below w.heap.size w w') : w'.cell? ⟨B, 0, none⟩ = some u ∧ w'.cell? ⟨B, 1, none⟩ = some v := by
  have hl := World.block_lt_of_cell? w _ h.1
  exact ⟨(hb.cell (p := ⟨B, 0, none⟩) hl).trans h.1, (hb.cell (p := ⟨B, 1, none⟩) hl).trans h.2⟩
set_option maxRecDepth 100000 in
set_option maxHeartbeats 4000000 in
theorem none_in (a b : Nat) (w : World) (hT : Tab w) : Calls Tryd.prog 5 #[.int .u64 (a : Int), .int .u64 (b : Int)] w fun e w' => e = .returned (.bool true) ∧ Below w.heap.size w w' := by
  have HT := Lib.hid hT
  clear hT
  go_enter Tryd.func5, Tryd.ntmps5
  go_wp2_with fail
  have hO : (w.alloc (.cells Tryd.zeroCells47 47)).heap[w.heap.size]? = some (.cells Tryd.zeroCells47 47 (0, 0)) := heap_alloc_new w _
  have HB1 := Lib.hid ((Below.refl w.heap.size w).alloc (Nat.le_refl _) (.cells Tryd.zeroCells47 47))
  have hs1 : (w.alloc (.cells Tryd.zeroCells47 47)).heap.size = w.heap.size + 1 := by show (w.heap.push _).size = _; rw [Array.size_push]
  obtain ⟨B, hB⟩ : ∃ B, B = w.heap.size := ⟨_, rfl⟩
  rw [← hB] at hO hs1
  rw [← hB]
  clear hB
  generalize w.alloc (.cells Tryd.zeroCells47 47) = w1 at *
  have hP := heap_alloc_new w1 (.cells #[.pointer none, .pointer (some ⟨B, 0, none⟩)] 24)
  have hO2 := (Below.heap_alloc w1 (.cells #[.pointer none, .pointer (some ⟨B, 0, none⟩)] 24) B (by rw [hs1]; omega)).trans hO
  have HB2 := Lib.hid (HB1.out.alloc HB1.out.size (.cells #[.pointer none, .pointer (some ⟨B, 0, none⟩)] 24))
  rw [hs1] at hP
  have hp0 : ∀ W, Below (w1.alloc (.cells #[.pointer none, .pointer (some ⟨B, 0, none⟩)] 24)).heap.size (w1.alloc (.cells #[.pointer none, .pointer (some ⟨B, 0, none⟩)] 24)) W → W.heap[B + 1]? = some (.cells #[.pointer none, .pointer (some ⟨B, 0, none⟩)] 24 (0, 0)) := fun W hb => blk_below hP hb
  have HP := Lib.hid hp0
  have HL := Lib.hid (show LatAt (w1.alloc (.cells #[.pointer none, .pointer (some ⟨B, 0, none⟩)] 24)) B [] from ⟨by rw [cell_of_row _ _ _ _ _ _ hO2, zero47]; rfl, fun i hi => by simp at hi, fun i hi => by simp at hi, .inl rfl⟩)
  have HTW := Lib.hid (HT.out.below HB2.out)
  have HBW := HB2
  clear HB2
  clear hP hO hO2 hp0
  generalize w1.alloc (.cells #[.pointer none, .pointer (some ⟨B, 0, none⟩)] 24) = w2 at *
  go_loopw [6] (fun v wr => ∃ k : Nat, k ≤ 2 ∧ v = .int .i64 k ∧ Hid (Below w2.heap.size w2 wr)) (fun v _ => 2 - (intOf v).toNat)
  case atStart => exact ⟨0, by omega, rfl, Below.refl _ _⟩
  case round =>
    obtain ⟨k, hk, rfl, HB⟩ := hrel
    have hb0 := HP.out wr HB.out
    have p0 : wr.cell? ⟨B + 1, 0, none⟩ = some (.pointer none) ∧ wr.cell? ⟨B + 1, 1, none⟩ = some (.pointer (some ⟨B, 0, none⟩)) := ⟨by rw [cell_of_row _ _ _ _ _ _ hb0]; rfl, by rw [cell_of_row _ _ _ _ _ _ hb0]; rfl⟩
    have HT2 := Lib.hid (HTW.out.below HB.out)
    have HB2 := HB
    clear hb0
    by_cases h2 : k < 2
    · have hk2 : k = 0 ∨ k = 1 := by omega
      rcases hk2 with rfl | rfl
      · have HV2 := Lib.hid (show LatV wr (.pointer none) [] from .inl ⟨rfl, rfl⟩)
        go_wp2_with fail
        refine (noneHas _ a _ HV2.out).mono ?_
        rintro e w3 ⟨rfl, hb⟩
        have HB3 := Lib.hid (on HB2.out hb)
        replace p0 := blk_cell_on p0 hb
        have HV3 := Lib.hid (HV2.out.below hb)
        have HT3 := Lib.hid (HT2.out.below hb)
        clear hb HB2 HV2 HT2
        go_wp2_with fail
        refine (noneRow _ a b _ HV3.out).mono ?_
        rintro e w4 ⟨rfl, hb⟩
        have HB4 := Lib.hid (on HB3.out hb)
        replace p0 := blk_cell_on p0 hb
        have HV4 := Lib.hid (HV3.out.below hb)
        have HT4 := Lib.hid (HT3.out.below hb)
        clear hb HB3 HV3 HT3
        go_wp2_with fail
        refine (noneJoin _ a b _ HV4.out HT4.out).mono ?_
        rintro e w5 ⟨rfl, hb⟩
        have HB5 := Lib.hid (on HB4.out hb)
        replace p0 := blk_cell_on p0 hb
        have HV5 := Lib.hid (HV4.out.below hb)
        have HT5 := Lib.hid (HT4.out.below hb)
        clear hb HB4 HV4 HT4
        go_wp2_with fail
        refine (noneMeet _ a b _ HV5.out HT5.out).mono ?_
        rintro e w6 ⟨rfl, hb⟩
        have HB6 := Lib.hid (on HB5.out hb)
        replace p0 := blk_cell_on p0 hb
        have HV6 := Lib.hid (HV5.out.below hb)
        have HT6 := Lib.hid (HT5.out.below hb)
        clear hb HB5 HV5 HT5
        go_wp2_with fail
        refine (noneBot _ _ HV6.out HT6.out).mono ?_
        rintro e w7 ⟨rfl, hb⟩
        have HB7 := Lib.hid (on HB6.out hb)
        replace p0 := blk_cell_on p0 hb
        have HV7 := Lib.hid (HV6.out.below hb)
        have HT7 := Lib.hid (HT6.out.below hb)
        clear hb HB6 HV6 HT6
        go_wp2_with fail
        refine (noneTop _ _ HV7.out HT7.out).mono ?_
        rintro e w8 ⟨rfl, hb⟩
        have HB8 := Lib.hid (on HB7.out hb)
        replace p0 := blk_cell_on p0 hb
        have HV8 := Lib.hid (HV7.out.below hb)
        have HT8 := Lib.hid (HT7.out.below hb)
        clear hb HB7 HV7 HT7
        go_wp2
        go_roundw
        case rel => exact ⟨1, by omega, rfl, HB8⟩
        case measure => simp [intOf]
      · have HV2 := Lib.hid (show LatV wr (.pointer (some ⟨B, 0, none⟩)) [] from .inr ⟨B, rfl, HL.out.below HB.out⟩)
        go_wp2_with fail
        refine (noneHas _ a _ HV2.out).mono ?_
        rintro e w3 ⟨rfl, hb⟩
        have HB3 := Lib.hid (on HB2.out hb)
        replace p0 := blk_cell_on p0 hb
        have HV3 := Lib.hid (HV2.out.below hb)
        have HT3 := Lib.hid (HT2.out.below hb)
        clear hb HB2 HV2 HT2
        go_wp2_with fail
        refine (noneRow _ a b _ HV3.out).mono ?_
        rintro e w4 ⟨rfl, hb⟩
        have HB4 := Lib.hid (on HB3.out hb)
        replace p0 := blk_cell_on p0 hb
        have HV4 := Lib.hid (HV3.out.below hb)
        have HT4 := Lib.hid (HT3.out.below hb)
        clear hb HB3 HV3 HT3
        go_wp2_with fail
        refine (noneJoin _ a b _ HV4.out HT4.out).mono ?_
        rintro e w5 ⟨rfl, hb⟩
        have HB5 := Lib.hid (on HB4.out hb)
        replace p0 := blk_cell_on p0 hb
        have HV5 := Lib.hid (HV4.out.below hb)
        have HT5 := Lib.hid (HT4.out.below hb)
        clear hb HB4 HV4 HT4
        go_wp2_with fail
        refine (noneMeet _ a b _ HV5.out HT5.out).mono ?_
        rintro e w6 ⟨rfl, hb⟩
        have HB6 := Lib.hid (on HB5.out hb)
        replace p0 := blk_cell_on p0 hb
        have HV6 := Lib.hid (HV5.out.below hb)
        have HT6 := Lib.hid (HT5.out.below hb)
        clear hb HB5 HV5 HT5
        go_wp2_with fail
        refine (noneBot _ _ HV6.out HT6.out).mono ?_
        rintro e w7 ⟨rfl, hb⟩
        have HB7 := Lib.hid (on HB6.out hb)
        replace p0 := blk_cell_on p0 hb
        have HV7 := Lib.hid (HV6.out.below hb)
        have HT7 := Lib.hid (HT6.out.below hb)
        clear hb HB6 HV6 HT6
        go_wp2_with fail
        refine (noneTop _ _ HV7.out HT7.out).mono ?_
        rintro e w8 ⟨rfl, hb⟩
        have HB8 := Lib.hid (on HB7.out hb)
        replace p0 := blk_cell_on p0 hb
        have HV8 := Lib.hid (HV7.out.below hb)
        have HT8 := Lib.hid (HT7.out.below hb)
        clear hb HB7 HV7 HT7
        go_wp2
        go_roundw
        case rel => exact ⟨2, by omega, rfl, HB8⟩
        case measure => simp [intOf]
    · obtain rfl : k = 2 := by omega
      go_wp2_with fail
      refine (alive_any _ HT2.out).mono ?_
      rintro e w3 ⟨rfl, hb⟩
      have HB3 := Lib.hid (on HBW.out (on HB.out hb))
      clear hb
      go_wp2
      go_ret
      exact ⟨rfl, HB3.out⟩
theorem none_walk (a b : Int) (W : World) (ha : (Lit.int .u64 a).wf = true) (hb : (Lit.int .u64 b).wf = true) (hT : Lib.TabIs Tryd.prog W "math/bits.deBruijn64tab" .u8 tab64) : Calls Tryd.prog 5 #[.int .u64 a, .int .u64 b] W fun e w' => e = .returned (.bool true) ∧ Below W.heap.size W w' := by
  obtain ⟨x, rfl, _⟩ := nat_u64 ha
  obtain ⟨y, rfl, _⟩ := nat_u64 hb
  exact none_in x y W (tab_of hT)
end Go.Proofs.YtappaokjlnpbnaaDoor
