/- A sort of values, whatever it is of: its contract; void; a term's value. -/
import Derived.Test.YtajilghlcfheiaaGreatDoorBndRef05
import Derived.Test.YtajilghlcfheiaaGreatDoorBndLatA
import Derived.Test.YtajilghlcfheiaaGreatDoorBndLow
import Derived.Test.YtajilghlcfheiaaGreatDoorBndEff
namespace Go.Proofs.YtajilghlcfheiaaGreatDoor.Bnd
set_option maxRecDepth 20000
open Go.RowKit Go.Proofs.YtajilghlcfheiaaGreatDoorW.PrintWords
/-- what a sort tells. -/
structure SI where
  has : Nat → Bool
  below : Nat → Nat → Bool
  join : Nat → Nat → Nat
  meet : Nat → Nat → Nat
  bot : Nat
  top : Nat
/-- a method behind an interface value. -/
structure IfM (t : TypeId) (p : Value) (name : String) (f : FuncId) : Prop where
  meth : ∀ w, (method 384 t p name).run Tryz.prog w = .ok (f, p) w
  call : ∀ args w, (callFunc f args).run Tryz.prog w = .ok (.enter f args) w
  ahead : ∀ w, (nilAhead 384 t p name).run Tryz.prog w = .ok (some false) w
/-- a sort's methods tell what it tells. -/
structure SortC (w0 : World) (t : TypeId) (p : Value) (S : SI) : Prop where
  has : ∃ f, IfM t p "Has" f ∧ ∀ W a, Below w0.heap.size w0 W → a < 18446744073709551616 → Calls Tryz.prog f #[p, .int .u64 ((a : Nat) : Int)] W fun e w' => e = .returned (.bool (S.has a)) ∧ Below W.heap.size W w'
  below : ∃ f, IfM t p "Below" f ∧ ∀ W a b, Below w0.heap.size w0 W → a < 18446744073709551616 → b < 18446744073709551616 → Calls Tryz.prog f #[p, .int .u64 ((a : Nat) : Int), .int .u64 ((b : Nat) : Int)] W fun e w' => e = .returned (.bool (S.below a b)) ∧ Below W.heap.size W w'
  join : ∃ f, IfM t p "Join" f ∧ ∀ W a b, Below w0.heap.size w0 W → a < 18446744073709551616 → b < 18446744073709551616 → Calls Tryz.prog f #[p, .int .u64 ((a : Nat) : Int), .int .u64 ((b : Nat) : Int)] W fun e w' => e = .returned (.int .u64 ((S.join a b : Nat) : Int)) ∧ Below W.heap.size W w'
  meet : ∃ f, IfM t p "Meet" f ∧ ∀ W a b, Below w0.heap.size w0 W → a < 18446744073709551616 → b < 18446744073709551616 → Calls Tryz.prog f #[p, .int .u64 ((a : Nat) : Int), .int .u64 ((b : Nat) : Int)] W fun e w' => e = .returned (.int .u64 ((S.meet a b : Nat) : Int)) ∧ Below W.heap.size W w'
  bot : ∃ f, IfM t p "Bottom" f ∧ ∀ W, Below w0.heap.size w0 W → Calls Tryz.prog f #[p] W fun e w' => e = .returned (.int .u64 ((S.bot : Nat) : Int)) ∧ Below W.heap.size W w'
  top : ∃ f, IfM t p "Top" f ∧ ∀ W, Below w0.heap.size w0 W → Calls Tryz.prog f #[p] W fun e w' => e = .returned (.int .u64 ((S.top : Nat) : Int)) ∧ Below W.heap.size W w'
  jlt : ∀ a b, a < 18446744073709551616 → b < 18446744073709551616 → S.join a b < 18446744073709551616
  mlt : ∀ a b, a < 18446744073709551616 → b < 18446744073709551616 → S.meet a b < 18446744073709551616
  blt : S.bot < 18446744073709551616
  tlt : S.top < 18446744073709551616
theorem SortC.on {w0 w1 : World} {t : TypeId} {p : Value} {S : SI} (h : SortC w0 t p S) (hb : Below w0.heap.size w0 w1) : SortC w1 t p S := by
  obtain ⟨⟨f1, i1, c1⟩, ⟨f2, i2, c2⟩, ⟨f3, i3, c3⟩, ⟨f4, i4, c4⟩, ⟨f5, i5, c5⟩, ⟨f6, i6, c6⟩, j1, j2, j3, j4⟩ := h
  have T : ∀ W, Below w1.heap.size w1 W → Below w0.heap.size w0 W := fun W h => Bnd.on hb h
  exact ⟨⟨f1, i1, fun W a h => c1 W a (T W h)⟩, ⟨f2, i2, fun W a b h => c2 W a b (T W h)⟩, ⟨f3, i3, fun W a b h => c3 W a b (T W h)⟩, ⟨f4, i4, fun W a b h => c4 W a b (T W h)⟩, ⟨f5, i5, fun W h => c5 W (T W h)⟩, ⟨f6, i6, fun W h => c6 W (T W h)⟩, j1, j2, j3, j4⟩
def voidS : SI := ⟨fun _ => false, fun _ _ => false, fun _ _ => 0, fun _ _ => 0, 0, 0⟩
def latS (rows : List Nat) : SI := ⟨fun a => decide (a < rows.length), rowB rows, joinF rows, meetF rows, botF rows, topF rows⟩
def effS (m : Option Nat) : SI := ⟨Eff.hasM m, Eff.belowM m, Eff.joinM m, Eff.meetM m, 0, Eff.topM m⟩
theorem mvoid : IfM 136 (.agg #[]) "Has" 232 ∧ IfM 136 (.agg #[]) "Below" 230 ∧ IfM 136 (.agg #[]) "Join" 233 ∧ IfM 136 (.agg #[]) "Meet" 234 ∧ IfM 136 (.agg #[]) "Bottom" 231 ∧ IfM 136 (.agg #[]) "Top" 235 :=
  ⟨⟨fun _ => by kernel_rfl, fun _ _ => by kernel_rfl, fun _ => by kernel_rfl⟩, ⟨fun _ => by kernel_rfl, fun _ _ => by kernel_rfl, fun _ => by kernel_rfl⟩, ⟨fun _ => by kernel_rfl, fun _ _ => by kernel_rfl, fun _ => by kernel_rfl⟩, ⟨fun _ => by kernel_rfl, fun _ _ => by kernel_rfl, fun _ => by kernel_rfl⟩, ⟨fun _ => by kernel_rfl, fun _ _ => by kernel_rfl, fun _ => by kernel_rfl⟩, ⟨fun _ => by kernel_rfl, fun _ _ => by kernel_rfl, fun _ => by kernel_rfl⟩⟩
theorem mlat (p : Option Addr) : IfM 91 (.pointer p) "Has" 220 ∧ IfM 91 (.pointer p) "Below" 218 ∧ IfM 91 (.pointer p) "Join" 221 ∧ IfM 91 (.pointer p) "Meet" 222 ∧ IfM 91 (.pointer p) "Bottom" 219 ∧ IfM 91 (.pointer p) "Top" 223 :=
  ⟨⟨fun _ => by kernel_rfl, fun _ _ => by kernel_rfl, fun _ => by kernel_rfl⟩, ⟨fun _ => by kernel_rfl, fun _ _ => by kernel_rfl, fun _ => by kernel_rfl⟩, ⟨fun _ => by kernel_rfl, fun _ _ => by kernel_rfl, fun _ => by kernel_rfl⟩, ⟨fun _ => by kernel_rfl, fun _ _ => by kernel_rfl, fun _ => by kernel_rfl⟩, ⟨fun _ => by kernel_rfl, fun _ _ => by kernel_rfl, fun _ => by kernel_rfl⟩, ⟨fun _ => by kernel_rfl, fun _ _ => by kernel_rfl, fun _ => by kernel_rfl⟩⟩
theorem meff (p : Option Addr) : IfM 88 (.pointer p) "Has" 209 ∧ IfM 88 (.pointer p) "Below" 207 ∧ IfM 88 (.pointer p) "Join" 210 ∧ IfM 88 (.pointer p) "Meet" 211 ∧ IfM 88 (.pointer p) "Bottom" 208 ∧ IfM 88 (.pointer p) "Top" 212 :=
  ⟨⟨fun _ => by kernel_rfl, fun _ _ => by kernel_rfl, fun _ => by kernel_rfl⟩, ⟨fun _ => by kernel_rfl, fun _ _ => by kernel_rfl, fun _ => by kernel_rfl⟩, ⟨fun _ => by kernel_rfl, fun _ _ => by kernel_rfl, fun _ => by kernel_rfl⟩, ⟨fun _ => by kernel_rfl, fun _ _ => by kernel_rfl, fun _ => by kernel_rfl⟩, ⟨fun _ => by kernel_rfl, fun _ _ => by kernel_rfl, fun _ => by kernel_rfl⟩, ⟨fun _ => by kernel_rfl, fun _ _ => by kernel_rfl, fun _ => by kernel_rfl⟩⟩
theorem same_on {f : FuncId} {args : Array Value} {W : World} {P : Ending → Prop} (h : Calls Tryz.prog f args W fun e w' => P e ∧ W = w') : Calls Tryz.prog f args W fun e w' => P e ∧ Below W.heap.size W w' :=
  h.mono (by rintro e w' ⟨h, rfl⟩; exact ⟨h, Below.refl _ _⟩)
theorem first_lt (R : List Nat) (s : Nat) : firstAll R s < 64 := by
  unfold firstAll
  cases hf : (List.range 64).find? fun j => s.testBit j && (R.getD j 0 &&& s == s) with
  | none => exact (by decide : (0 : Nat) < 64)
  | some x =>
    have := List.mem_range.1 (List.mem_of_find?_eq_some hf)
    exact this
theorem pick_lt (R : List Nat) (a b : Nat) : pickF R a b < 64 := by
  unfold pickF
  split
  · exact first_lt _ _
  · decide
theorem end_lt (R : List Nat) : endF R < 64 := by
  unfold endF
  split
  · decide
  · exact first_lt _ _
theorem lat_sort {w : World} {p : Option Addr} {rows : List Nat} (h : LatV w (.pointer p) rows) (hT : Tab w) : SortC w 91 (.pointer p) (latS rows) := by
  obtain ⟨m1, m2, m3, m4, m5, m6⟩ := mlat p
  exact ⟨⟨220, m1, fun W a hb _ => same_on (has_any _ rows a W (h.below hb))⟩, ⟨218, m2, fun W a b hb _ _ => same_on (latbelow_any _ rows a b W (h.below hb))⟩, ⟨221, m3, fun W a b hb _ _ => join_any _ rows a b W (h.below hb) (hT.below hb)⟩, ⟨222, m4, fun W a b hb _ _ => meet_any _ rows a b W (h.below hb) (hT.below hb)⟩, ⟨219, m5, fun W hb => bottom_any _ rows W (h.below hb) (hT.below hb)⟩, ⟨223, m6, fun W hb => top_any _ rows W (h.below hb) (hT.below hb)⟩,
    fun a b _ _ => Nat.lt_trans (pick_lt _ a b) (by decide), fun a b _ _ => Nat.lt_trans (pick_lt _ a b) (by decide), Nat.lt_trans (end_lt _) (by decide), Nat.lt_trans (end_lt _) (by decide)⟩
theorem eff_lt {w : World} {p : Option Addr} {m : Option Nat} (h : Eff.St w p m) : Eff.topM m < 18446744073709551616 := by
  cases h with
  | there ht _ => exact ht
  | not _ => exact (by decide : (0 : Nat) < 18446744073709551616)
theorem eff_sort {w : World} {p : Option Addr} {m : Option Nat} (h : Eff.St w p m) : SortC w 88 (.pointer p) (effS m) := by
  obtain ⟨m1, m2, m3, m4, m5, m6⟩ := meff p
  refine ⟨⟨209, m1, fun W a hb ha => Eff.has_any p m a ha W (h.below hb)⟩, ⟨207, m2, fun W a b hb ha hb' => Eff.below_any p m a b ha hb' W (h.below hb)⟩, ⟨210, m3, fun W a b hb ha hb' => Eff.join_any p m a b ha hb' W (h.below hb)⟩, ⟨211, m4, fun W a b hb ha hb' => Eff.meet_any p m a b ha hb' W (h.below hb)⟩, ⟨208, m5, fun W hb => same_on (Eff.bottom_any p W)⟩, ⟨212, m6, fun W hb => same_on (Eff.top_any p m W (h.below hb))⟩, fun a b ha hb => ?_, fun a b ha hb => ?_, (by decide : (0 : Nat) < 18446744073709551616), eff_lt h⟩
  · show Eff.joinM m a b < _
    unfold Eff.joinM
    split
    · rw [show 18446744073709551616 = 2 ^ 64 from rfl]
      exact Nat.or_lt_two_pow ha hb
    · decide
  · show Eff.meetM m a b < _
    unfold Eff.meetM
    split
    · exact Nat.lt_of_le_of_lt Nat.and_le_left ha
    · decide
theorem void_has (a : Nat) (W : World) : Calls Tryz.prog 232 #[.agg #[], .int .u64 (a : Int)] W fun e w' => e = .returned (.bool false) ∧ Below W.heap.size W w' := by
  go_enter Tryz.func232, Tryz.ntmps232
  go_wp2
  go_ret
  exact ⟨rfl, lit_below W _⟩
theorem void_below (a b : Nat) (W : World) : Calls Tryz.prog 230 #[.agg #[], .int .u64 (a : Int), .int .u64 (b : Int)] W fun e w' => e = .returned (.bool false) ∧ Below W.heap.size W w' := by
  go_enter Tryz.func230, Tryz.ntmps230
  go_wp2
  go_ret
  exact ⟨rfl, lit_below W _⟩
theorem void_join (a b : Nat) (W : World) : Calls Tryz.prog 233 #[.agg #[], .int .u64 (a : Int), .int .u64 (b : Int)] W fun e w' => e = .returned (.int .u64 0) ∧ Below W.heap.size W w' := by
  go_enter Tryz.func233, Tryz.ntmps233
  go_wp2
  go_ret
  exact ⟨rfl, lit_below W _⟩
theorem void_meet (a b : Nat) (W : World) : Calls Tryz.prog 234 #[.agg #[], .int .u64 (a : Int), .int .u64 (b : Int)] W fun e w' => e = .returned (.int .u64 0) ∧ Below W.heap.size W w' := by
  go_enter Tryz.func234, Tryz.ntmps234
  go_wp2
  go_ret
  exact ⟨rfl, lit_below W _⟩
theorem void_bot (W : World) : Calls Tryz.prog 231 #[.agg #[]] W fun e w' => e = .returned (.int .u64 0) ∧ Below W.heap.size W w' := by
  go_enter Tryz.func231, Tryz.ntmps231
  go_wp2
  go_ret
  exact ⟨rfl, lit_below W _⟩
theorem void_top (W : World) : Calls Tryz.prog 235 #[.agg #[]] W fun e w' => e = .returned (.int .u64 0) ∧ Below W.heap.size W w' := by
  go_enter Tryz.func235, Tryz.ntmps235
  go_wp2
  go_ret
  exact ⟨rfl, lit_below W _⟩
theorem void_sort (w : World) : SortC w 136 (.agg #[]) voidS := by
  obtain ⟨m1, m2, m3, m4, m5, m6⟩ := mvoid
  exact ⟨⟨232, m1, fun W a _ _ => (void_has a W)⟩, ⟨230, m2, fun W a b _ _ _ => (void_below a b W)⟩, ⟨233, m3, fun W a b _ _ _ => (void_join a b W)⟩, ⟨234, m4, fun W a b _ _ _ => (void_meet a b W)⟩, ⟨231, m5, fun W _ => (void_bot W)⟩, ⟨235, m6, fun W _ => (void_top W)⟩,
    fun _ _ _ _ => (by decide : (0 : Nat) < 18446744073709551616), fun _ _ _ _ => (by decide : (0 : Nat) < 18446744073709551616), (by decide : (0 : Nat) < 18446744073709551616), (by decide : (0 : Nat) < 18446744073709551616)⟩
/-- a sort that is handed in: nothing, or one that tells. -/
def SortN (w : World) (v : Value) (S : SI) : Prop := (v = .nilIface ∧ S = voidS) ∨ ∃ t p, v = .iface t p ∧ SortC w t p S
set_option maxRecDepth 20000 in
theorem there_any (v : Value) (S : SI) (w : World) (h : SortN w v S) : Calls Tryz.prog 47 #[v] w fun e w' => (∃ t p, e = .returned (.iface t p) ∧ SortC w t p S) ∧ w = w' := by
  rcases h with ⟨rfl, rfl⟩ | ⟨t, p, rfl, h⟩
  · go_enter Tryz.func47, Tryz.ntmps47
    go_wp2
    go_ret
    exact ⟨⟨136, .agg #[], rfl, void_sort w⟩, rfl⟩
  · have H := Lib.hid h
    clear h
    go_enter Tryz.func47, Tryz.ntmps47
    go_wp2
    go_ret
    exact ⟨⟨t, p, rfl, H.out⟩, rfl⟩
/-- a term's value. -/
def valF (vals : List Nat) (v : Bool) (n : Nat) : Nat × Bool := if v = false then (n, true) else if n < vals.length then (vals.getD n 0, true) else (0, false)
set_option maxRecDepth 20000 in
theorem value_any (A : Option Addr) (k c : Nat) (vals : List Nat) (hk : k = vals.length) (hmax : k ≤ 9223372036854775807) (v : Bool) (n : Nat) (hn : n < 18446744073709551616) (w : World) (hI : Nums w A vals) : Calls Tryz.prog 61 #[.slice A k c, .agg #[.bool v, .int .u64 (n : Int)]] w fun e w' => e = .returned (.tuple #[.int .u64 (((valF vals v n).1 : Nat) : Int), .bool (valF vals v n).2]) ∧ Below w.heap.size w w' := by
  have HI := Lib.hid hI
  have HK := Lib.hid hk
  have HB := Lib.hid (lit_below w (.cells #[.bool v, .int .u64 (n : Int)] 97))
  clear hI hk
  cases v with
  | false =>
    have HV := Lib.hid (show valF vals false n = (n, true) by simp [valF])
    generalize valF vals false n = r at HV ⊢
    go_enter Tryz.func61, Tryz.ntmps61
    go_wp2
    go_ret2
    exact ⟨by rw [HV.out]; rfl, HB.out⟩
  | true =>
    by_cases h : n < k
    · have hkl : n < vals.length := by rw [← HK.out]; exact h
      have HV := Lib.hid (show valF vals true n = (vals[n], true) by simp [valF, hkl, List.getD])
      obtain ⟨b, off, rfl, _, hc⟩ := (HI.out.below HB.out).2 (by omega)
      have hck := hc n hkl
      generalize vals[n] = x at hck HV
      generalize valF vals true n = r at HV ⊢
      have d1 : decide ((k : Int) ≤ (n : Int)) = false := by simp; omega
      have d2 : decide (k ≤ n) = false := by simp; omega
      have i1 : (0 : Int) ≤ (n : Int) := by omega
      have i2 : (n : Int) < (k : Int) := by omega
      clear hc hkl
      go_enter Tryz.func61, Tryz.ntmps61
      go_wp2
      go_ret2
      exact ⟨by rw [HV.out]; rfl, HB.out⟩
    · have HV := Lib.hid (show valF vals true n = (0, false) by simp [valF, ← HK.out]; omega)
      generalize valF vals true n = r at HV ⊢
      have d1 : decide ((k : Int) ≤ (n : Int)) = true := by simp; omega
      have d2 : decide (k ≤ n) = true := by simp; omega
      go_enter Tryz.func61, Tryz.ntmps61
      go_wp2
      go_ret2
      exact ⟨by rw [HV.out]; rfl, HB.out⟩
end Go.Proofs.YtajilghlcfheiaaGreatDoor.Bnd
