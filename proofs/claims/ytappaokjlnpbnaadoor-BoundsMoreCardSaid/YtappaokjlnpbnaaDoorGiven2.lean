/- What comes in, of the laws on bounds: the bounds have room for themselves. -/
import Derived.Test.YtappaokjlnpbnaaDoorGiven
namespace Go.Proofs.YtappaokjlnpbnaaDoor
open Go.RowKit Go.ChangeShapes Go.WideShapes Go.Deep
theorem Rea.fld_bounds3 {H : Type} {enc : TypeId × Value → H} {w : World} {base : Nat} {spare : Nat → Bool} {held : Bool} {fuel : Nat} {v : Value} {x : DataW H × List MemPlace} (hf : DataW.trod enc Tryd.prog w base spare held fuel 51 [v] = some x) :
    ∃ (a : Option Addr) (len cap : Nat) (L : List Rea.Bd), v = .slice a len cap ∧ L.length = len ∧ len ≤ cap ∧ cap ≤ maxLen ∧ Rea.Bds w a L ∧ (a = none → cap = 0) := by
  obtain ⟨a, len, cap, L, rfl, h1, h2, h3, h4⟩ := Rea.fld_bounds hf
  rcases open_slice Tryd.underlying51 hf with ⟨hcs, _⟩ | ⟨a', len', cap', m, n, D, Pl, hcs, _, hl, hm, _⟩
  · simp at hcs
    obtain ⟨rfl, rfl, rfl⟩ := hcs
    exact ⟨_, _, _, L, rfl, h1, Nat.le_refl _, by unfold maxLen; omega, h3, h4⟩
  · simp at hcs
    obtain ⟨rfl, rfl, rfl⟩ := hcs
    exact ⟨_, _, _, L, rfl, h1, hl, hm, h3, h4⟩
set_option maxRecDepth 100000 in
theorem given_open2 {H : Type} {enc : TypeId × Value → H} {base : Nat} {r : Reach} {b0 : Nat} {held : Bool} (v : Value) (d : DataW H) (p : List MemPlace) (W : World) (ho : Value.okWide Tryd.prog W r b0 53 v) (ht : DataW.Trod enc Tryd.prog W base (fun _ => true) held 53 v d p) :
    ∃ (A1 : Option Addr) (n1 c1 : Nat) (rows : List Nat) (s : Bool) (ef vr : Int) (A2 : Option Addr) (m c2 : Nat) (L : List Rea.Bd) (A3 : Option Addr) (k c3 : Nat) (vals : List Nat),
      v = .agg #[.slice A1 n1 c1, .bool s, .int .i64 ef, .int .i64 vr, .slice A2 m c2, .slice A3 k c3] ∧ n1 = rows.length ∧ n1 ≤ 9223372036854775807 ∧ Nums W A1 rows ∧ m = L.length ∧ m ≤ 9223372036854775807 ∧ m ≤ c2 ∧ Rea.Bds W A2 L ∧ k = vals.length ∧ k ≤ c3 ∧ c3 ≤ 9223372036854775807 ∧ Nums W A3 vals ∧ -9223372036854775808 ≤ vr ∧ vr ≤ 9223372036854775807 := by
  obtain ⟨A1, n1, c1, rows, s, ef, vr, A2, m, c2, L, A3, k, c3, vals, rfl, h1, hm1, hI1, h2, hm2, hL, h3, hm3, hc3, hI3, hv1, hv2⟩ := given_open v d p W ho ht
  refine ⟨A1, n1, c1, rows, s, ef, vr, A2, m, c2, L, A3, k, c3, vals, rfl, h1, hm1, hI1, h2, hm2, ?_, hL, h3, hm3, hc3, hI3, hv1, hv2⟩
  obtain ⟨fuel, hf⟩ := ht
  have hf' : DataW.trod enc Tryd.prog W base (fun _ => true) held fuel 53 [.slice A1 n1 c1, .bool s, .int .i64 ef, .int .i64 vr, .slice A2 m c2, .slice A3 k c3] = some (d, p) := hf
  obtain ⟨y0, y1, y2, y3, y4, y5, n, _, h0, h1', h2', h3', h4, h5⟩ := Rea.trod_struct6 Tryd.underlying53 hf'
  have e1 : Tryd.prog.cellsOf 51 = 1 := by kernel_rfl
  simp [e1] at h4
  obtain ⟨a, len, cap, L', e, _, hlc, _, _, _⟩ := Rea.fld_bounds3 h4
  injection e with e1 e2 e3
  omega
end Go.Proofs.YtappaokjlnpbnaaDoor
