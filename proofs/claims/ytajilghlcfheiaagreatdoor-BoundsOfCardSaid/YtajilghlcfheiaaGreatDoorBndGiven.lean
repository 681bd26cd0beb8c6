/- What comes in, of the laws on bounds. -/
import Derived.Test.YtajilghlcfheiaaGreatDoorBndSameN
import Derived.Test.YtajilghlcfheiaaGreatDoorBndFlds
namespace Go.Proofs.YtajilghlcfheiaaGreatDoor.Bnd
set_option maxRecDepth 20000
open Go.RowKit Go.ChangeShapes Go.WideShapes
set_option linter.unusedVariables false
theorem row_cap {w : World} {a : Option Addr} {len cap : Nat} {zs : List Int} (h : IsRow .u64 w a len cap zs) : len ≤ cap ∧ cap ≤ 9223372036854775807 := by
  rcases h with ⟨_, rfl, rfl, _⟩ | ⟨x, _, hl, hm, _⟩
  · omega
  · unfold maxLen at hm
    omega
set_option maxRecDepth 100000 in
theorem given_open {H : Type} {enc : TypeId × Value → H} {base : Nat} {r : Reach} {b0 : Nat} {held : Bool} (v : Value) (d : DataW H) (p : List MemPlace) (W : World) (ho : Value.okWide Tryz.prog W r b0 25 v) (ht : DataW.Trod enc Tryz.prog W base (fun _ => true) held 25 v d p) :
    ∃ (A1 : Option Addr) (n1 c1 : Nat) (rows : List Nat) (s : Bool) (ef vr : Int) (A2 : Option Addr) (m c2 : Nat) (L : List Rea.Bd) (A3 : Option Addr) (k c3 : Nat) (vals : List Nat),
      v = .agg #[.slice A1 n1 c1, .bool s, .int .i64 ef, .int .i64 vr, .slice A2 m c2, .slice A3 k c3] ∧ n1 = rows.length ∧ n1 ≤ 9223372036854775807 ∧ Nums W A1 rows ∧ m = L.length ∧ m ≤ 9223372036854775807 ∧ Rea.Bds W A2 L ∧ k = vals.length ∧ k ≤ c3 ∧ c3 ≤ 9223372036854775807 ∧ Nums W A3 vals ∧ -9223372036854775808 ≤ vr ∧ vr ≤ 9223372036854775807 := by
  obtain ⟨cs, rfl, hs⟩ := okWide_struct Tryz.underlying25 ho
  rw [show Tryz.prog.cellsOf 25 = 6 by kernel_rfl] at hs
  obtain ⟨v0, v1, v2, v3, v4, v5, rfl⟩ : ∃ a b c d e f, cs = #[a, b, c, d, e, f] := by
    rcases cs with ⟨l⟩
    simp at hs
    match l, hs with
    | [a, b, c, d, e, f], _ => exact ⟨a, b, c, d, e, f, rfl⟩
  obtain ⟨fuel, hf⟩ := ht
  have hf' : DataW.trod enc Tryz.prog W base (fun _ => true) held fuel 25 [v0, v1, v2, v3, v4, v5] = some (d, p) := hf
  obtain ⟨y0, y1, y2, y3, y4, y5, n, _, h0, h1, h2, h3, h4, h5⟩ := Rea.trod_struct6 Tryz.underlying25 hf'
  have e0 : Tryz.prog.cellsOf 22 = 1 := by kernel_rfl
  have e1 : Tryz.prog.cellsOf 23 = 1 := by kernel_rfl
  have e2 : Tryz.prog.cellsOf 3 = 1 := by kernel_rfl
  have e3 : Tryz.prog.cellsOf 4 = 1 := by kernel_rfl
  simp [e0] at h0 h5
  simp [e1] at h4
  simp [e2] at h2 h3
  simp [e3] at h1
  obtain ⟨A1, n1, c1, z1, rfl, r1⟩ := Rea.fld_nums h0
  obtain ⟨A2, m, c2, L, rfl, hl, hm, hL, _⟩ := Rea.fld_bounds h4
  obtain ⟨A3, k, c3, z3, rfl, r3⟩ := Rea.fld_nums h5
  obtain ⟨rows, hr1, hI1, hm1⟩ := r1.nums64
  obtain ⟨vals, hr3, hI3, hm3⟩ := r3.nums64
  obtain ⟨s, es, _⟩ := DataW.trod_bool Tryz.underlying4 h1
  obtain ⟨ef, ee, _, _⟩ := DataW.trod_int Tryz.underlying3 h2
  obtain ⟨vr, ev, _, wv⟩ := DataW.trod_int Tryz.underlying3 h3
  obtain rfl : v1 = .bool s := by simpa using es
  obtain rfl : v2 = .int .i64 ef := by simpa using ee
  obtain rfl : v3 = .int .i64 vr := by simpa using ev
  have hv : -9223372036854775808 ≤ vr ∧ vr ≤ 9223372036854775807 := by
    simp [Lit.wf, IntKind.min, IntKind.max, IntKind.bits, IntKind.signed] at wv
    omega
  exact ⟨A1, n1, c1, rows, s, ef, vr, A2, m, c2, L, A3, k, c3, vals, rfl, hr1.symm, hm1, hI1, hl.symm, (by unfold maxLen at hm; omega), hL, hr3.symm, (row_cap r3).1, (row_cap r3).2, hI3, hv.1, hv.2⟩
end Go.Proofs.YtajilghlcfheiaaGreatDoor.Bnd
