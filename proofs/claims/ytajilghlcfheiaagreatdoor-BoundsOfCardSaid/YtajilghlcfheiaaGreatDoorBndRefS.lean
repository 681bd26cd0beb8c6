/- The document's sort: has it that one? -/
import Derived.Test.YtajilghlcfheiaaGreatDoorBndFullt
import Derived.Test.YtajilghlcfheiaaGreatDoorBndEff
import Derived.Test.YtajilghlcfheiaaGreatDoorBndRef05
import Derived.Test.YtajilghlcfheiaaGreatDoorBndChk
namespace Go.Proofs.YtajilghlcfheiaaGreatDoor.Bnd
set_option maxRecDepth 20000
open Go.RowKit Go.Proofs.YtajilghlcfheiaaGreatDoorW.PrintWords
set_option linter.unusedVariables false
set_option maxRecDepth 20000
theorem three_cells (w : World) (a b c : Value) (ty : TypeId) : (w.alloc (.cells #[a, b, c] ty)).cell? ⟨w.heap.size, 0, none⟩ = some a ∧ (w.alloc (.cells #[a, b, c] ty)).cell? ⟨w.heap.size, 1, none⟩ = some b ∧ (w.alloc (.cells #[a, b, c] ty)).cell? ⟨w.heap.size, 2, none⟩ = some c := by
  have k := heap_alloc_new w (.cells #[a, b, c] ty)
  refine ⟨?_, ?_, ?_⟩ <;> (rw [cell_of_row _ _ _ _ _ _ k]; rfl)
/-- a sort as the document has it. -/
def RS (w : World) (v : Value) (S : SI) : Prop :=
  (v = .agg #[.int .i64 0, .slice none 0 0, .int .i64 0] ∧ S = voidS) ∨
    (∃ (A : Option Addr) (n c : Nat) (rows : List Nat), v = .agg #[.int .i64 1, .slice A n c, .int .i64 0] ∧ n = rows.length ∧ n ≤ 64 ∧ Nums w A rows ∧ Fine rows ∧ S = latS rows) ∨
    (∃ x : Nat, x ≤ 64 ∧ v = .agg #[.int .i64 2, .slice none 0 0, .int .i64 (x : Int)] ∧ S = effB (Eff.full x))
theorem RS.below {w w' : World} {v : Value} {S : SI} (h : RS w v S) (hb : Below w.heap.size w w') : RS w' v S := by
  rcases h with h | ⟨A, n, c, rows, h1, h2, h3, h4, h5, h6⟩ | h
  · exact .inl h
  · exact .inr (.inl ⟨A, n, c, rows, h1, h2, h3, h4.below hb, h5, h6⟩)
  · exact .inr (.inr h)
theorem RS.shape {w : World} {v : Value} {S : SI} (h : RS w v S) : ∃ (o : Int) (A : Option Addr) (n c : Nat) (y : Int), v = .agg #[.int .i64 o, .slice A n c, .int .i64 y] := by
  rcases h with ⟨h, _⟩ | ⟨A, n, c, rows, h1, _⟩ | ⟨x, _, h, _⟩
  · exact ⟨0, none, 0, 0, 0, h⟩
  · exact ⟨1, A, n, c, 0, h1⟩
  · exact ⟨2, none, 0, 0, x, h⟩
theorem rs_has (v : Value) (S : SI) (a : Nat) (ha : a < 18446744073709551616) (w : World) (h : RS w v S) : Calls Tryz.prog 52 #[v, .int .u64 (a : Int)] w fun e w' => e = .returned (.bool (S.has a)) ∧ Below w.heap.size w w' := by
  rcases h with ⟨rfl, rfl⟩ | ⟨A, n, c, rows, rfl, h2, h3, h4, h5, rfl⟩ | ⟨x, hx, rfl, rfl⟩
  · obtain ⟨z0, z1, z2⟩ := three_cells w (.int .i64 0) (.slice none 0 0) (.int .i64 0) 31
    have HB0 := Lib.hid (lit_below w (.cells #[.int .i64 0, .slice none 0 0, .int .i64 0] 31))
    go_enter Tryz.func52, Tryz.ntmps52
    go_wp2_with fail
    go_ret
    exact ⟨rfl, HB0.out⟩
  · obtain ⟨z0, z1, z2⟩ := three_cells w (.int .i64 1) (.slice A n c) (.int .i64 0) 31
    have HB0 := Lib.hid (lit_below w (.cells #[.int .i64 1, .slice A n c, .int .i64 0] 31))
    have HH := Lib.hid (fun W => refhas_any A n c h3 a W)
    have HR := Lib.hid (show (latS rows).has a = decide (a < n) from by rw [h2]; rfl)
    generalize decide (a < n) = q at HH HR
    clear h2 h4 h5
    go_enter Tryz.func52, Tryz.ntmps52
    go_wp2_with fail
    refine (HH.out _).mono ?_
    rintro e w1 ⟨rfl, rfl⟩
    cases q with
    | true =>
      go_wp2_with fail
      go_ret
      exact ⟨by rw [HR.out]; rfl, HB0.out⟩
    | false =>
      go_wp2_with fail
      go_ret
      exact ⟨by rw [HR.out]; rfl, HB0.out⟩
  · obtain ⟨z0, z1, z2⟩ := three_cells w (.int .i64 2) (.slice none 0 0) (.int .i64 (x : Int)) 31
    have HB0 := Lib.hid (lit_below w (.cells #[.int .i64 2, .slice none 0 0, .int .i64 (x : Int)] 31))
    have HH := Lib.hid (fun W => Eff.rhas_any x a hx ha W)
    have HR := Lib.hid (show (effB (Eff.full x)).has a = Eff.hasM (some (Eff.full x)) a from (Eff.anot_zero a _ ha (Eff.full_lt x hx)).symm)
    generalize Eff.hasM (some (Eff.full x)) a = q at HH HR
    go_enter Tryz.func52, Tryz.ntmps52
    go_wp2_with fail
    refine (HH.out _).mono ?_
    rintro e w1 ⟨rfl, rfl⟩
    go_wp2_with fail
    go_ret
    exact ⟨by rw [HR.out]; rfl, HB0.out⟩
/-- may a term be? -/
theorem rs_term (v : Value) (S : SI) (N : Nat) (h64 : N ≤ 64) (tv : Bool) (n : Nat) (hn : n < 18446744073709551616) (w : World) (h : RS w v S) :
    Calls Tryz.prog 60 #[v, .int .i64 (N : Int), .agg #[.bool tv, .int .u64 (n : Int)]] w fun e w' => e = .returned (.bool (okT S N tv n)) ∧ Below w.heap.size w w' := by
  have HRS := Lib.hid h
  obtain ⟨o, A, n', c, y, rfl⟩ := h.shape
  clear h
  obtain ⟨wa, hwa⟩ : ∃ wa, wa = w.alloc (.cells #[.int .i64 o, .slice A n' c, .int .i64 y] 31) := ⟨_, rfl⟩
  have hwas : wa.heap.size = w.heap.size + 1 := by rw [hwa]; simp
  obtain ⟨z0, z1, z2⟩ := three_cells w (.int .i64 o) (.slice A n' c) (.int .i64 y) 31
  have hb1 := lit_below w (.cells #[.int .i64 o, .slice A n' c, .int .i64 y] 31)
  rw [← hwa] at z0 z1 z2 hb1
  have hb2 := lit_below wa (.cells #[.bool tv, .int .u64 (n : Int)] 97)
  replace z0 := cell_below z0 hb2
  replace z1 := cell_below z1 hb2
  replace z2 := cell_below z2 hb2
  have k := heap_alloc_new wa (.cells #[.bool tv, .int .u64 (n : Int)] 97)
  have y0 : (wa.alloc (.cells #[.bool tv, .int .u64 (n : Int)] 97)).cell? ⟨wa.heap.size, 0, none⟩ = some (.bool tv) := by rw [cell_of_row _ _ _ _ _ _ k]; rfl
  have y1 : (wa.alloc (.cells #[.bool tv, .int .u64 (n : Int)] 97)).cell? ⟨wa.heap.size, 1, none⟩ = some (.int .u64 (n : Int)) := by rw [cell_of_row _ _ _ _ _ _ k]; rfl
  rw [hwas] at y0 y1
  have HB0 := Lib.hid (on hb1 hb2)
  rw [hwa] at z0 z1 z2 y0 y1 HB0
  clear hb1 hb2 k hwas hwa wa
  cases tv with
  | true =>
    have wn : IntKind.u64.wrap (N : Int) = (N : Int) := by rw [IntKind.wrap_u64]; omega
    by_cases h0 : N = 0
    · have d0 : decide ((N : Int) > 0) = false := by simp; omega
      have d1 : decide (0 < N) = false := by simp; omega
      have HR := Lib.hid (show okT S N true n = false by simp [okT]; omega)
      clear h0
      go_enter Tryz.func60, Tryz.ntmps60
      go_wp2_with fail
      go_ret
      exact ⟨by rw [HR.out]; rfl, HB0.out⟩
    · have d0 : decide ((N : Int) > 0) = true := by simp; omega
      have d1 : decide (0 < N) = true := by simp; omega
      clear h0
      by_cases hlt : n < N
      · have d2 : decide ((n : Int) < (N : Int)) = true := by simp; omega
        have d3 : decide (n < N) = true := by simp; omega
        have HR := Lib.hid (show okT S N true n = true by simp [okT]; omega)
        go_enter Tryz.func60, Tryz.ntmps60
        go_wp2_with fail
        go_ret
        exact ⟨by rw [HR.out]; rfl, HB0.out⟩
      · have d2 : decide ((n : Int) < (N : Int)) = false := by simp; omega
        have d3 : decide (n < N) = false := by simp; omega
        have HR := Lib.hid (show okT S N true n = false by simp [okT]; omega)
        go_enter Tryz.func60, Tryz.ntmps60
        go_wp2_with fail
        go_ret
        exact ⟨by rw [HR.out]; rfl, HB0.out⟩
  | false =>
    have HR := Lib.hid (show okT S N false n = S.has n from rfl)
    have HH := Lib.hid (rs_has (.agg #[.int .i64 o, .slice A n' c, .int .i64 y]) S n hn _ (HRS.out.below HB0.out))
    generalize S.has n = q at HH HR
    go_enter Tryz.func60, Tryz.ntmps60
    go_wp2_with fail
    refine HH.out.mono ?_
    rintro e w1 ⟨rfl, hb⟩
    have HB1 := Lib.hid (on HB0.out hb)
    clear hb
    go_wp2_with fail
    go_ret
    exact ⟨by rw [HR.out]; rfl, HB1.out⟩
end Go.Proofs.YtajilghlcfheiaaGreatDoor.Bnd
