/- ReachesBelow's walk at whatever comes in. -/
import Derived.Test.YtappaokjlnpbnaaDoorReaB
import Derived.Test.YtappaokjlnpbnaaDoorFlds
namespace Go.Proofs.YtappaokjlnpbnaaDoor
open Go.RowKit Go.ChangeShapes Go.WideShapes
theorem row_cap {w : World} {a : Option Addr} {len cap : Nat} {zs : List Int} (h : IsRow .u64 w a len cap zs) : len ≤ cap ∧ cap ≤ 9223372036854775807 := by
  rcases h with ⟨_, rfl, rfl, _⟩ | ⟨x, _, hl, hm, _⟩
  · omega
  · unfold maxLen at hm
    omega
set_option maxRecDepth 100000 in
theorem reab_walk {H : Type} {enc : TypeId × Value → H} {base : Nat} {r : Reach} {b0 : Nat} {held : Bool} {P : Prop} (v : Value) (d : DataW H) (p : List MemPlace) (W : World) (ho : Value.okWide Tryd.prog W r b0 77 v) (ht : DataW.Trod enc Tryd.prog W base (fun _ => true) held 77 v d p) (_ : P) (hT : Lib.TabIs Tryd.prog W "math/bits.deBruijn64tab" .u8 tab64) :
    Calls Tryd.prog 14 #[v] W fun e w' => e = .returned (.bool true) ∧ Below W.heap.size W w' := by
  obtain ⟨cs, rfl, hs⟩ := okWide_struct Tryd.underlying77 ho
  rw [show Tryd.prog.cellsOf 77 = 3 by kernel_rfl] at hs
  obtain ⟨v0, v1, v2, rfl⟩ : ∃ a b c, cs = #[a, b, c] := by
    rcases cs with ⟨l⟩
    simp at hs
    match l, hs with
    | [a, b, c], _ => exact ⟨a, b, c, rfl⟩
  obtain ⟨fuel, hf⟩ := ht
  have hf' : DataW.trod enc Tryd.prog W base (fun _ => true) held fuel 77 [v0, v1, v2] = some (d, p) := hf
  obtain ⟨y0, y1, y2, n, _, h0, h1, h2⟩ := Rea.trod_struct3 Tryd.underlying77 hf'
  have e0 : Tryd.prog.cellsOf 22 = 1 := by kernel_rfl
  have e1 : Tryd.prog.cellsOf 51 = 1 := by kernel_rfl
  simp [e0] at h0 h2
  simp [e1] at h1
  obtain ⟨A1, n1, c1, z1, rfl, r1⟩ := Rea.fld_nums h0
  obtain ⟨A2, m, c2, L, rfl, hl, hm, hL, _⟩ := Rea.fld_bounds h1
  obtain ⟨A3, k, c3, z3, rfl, r3⟩ := Rea.fld_nums h2
  obtain ⟨rows, hr1, hI1, hm1⟩ := r1.nums64
  obtain ⟨vals, hr3, hI3, hm3⟩ := r3.nums64
  exact reab_in A1 n1 c1 rows A2 m c2 L A3 k c3 vals hr1.symm hm1 hl.symm (by unfold maxLen at hm; omega) hr3.symm (row_cap r3).1 (row_cap r3).2 W hI1 hL hI3 (tab_of hT)
end Go.Proofs.YtappaokjlnpbnaaDoor
