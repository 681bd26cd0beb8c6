/- The fields of a struct that came in, as the row reads them. -/
import Derived.Test.YtajilghlcfheiaaGreatDoorRea
import Derived.Test.YtajilghlcfheiaaGreatDoorBndBase
import Derived.OpenShut
namespace Go.Proofs.YtajilghlcfheiaaGreatDoor.Rea
open Bnd
set_option maxRecDepth 20000
open Go.RowKit Go.ChangeShapes Go.WideShapes Go.Deep
section
variable {H : Type} {enc : TypeId × Value → H} {w : World} {base : Nat} {spare : Nat → Bool} {held : Bool}
set_option maxRecDepth 100000 in
theorem fld_bounds {fuel : Nat} {v : Value} {x : DataW H × List MemPlace} (hf : DataW.trod enc Tryz.prog w base spare held fuel 23 [v] = some x) :
    ∃ (a : Option Addr) (len cap : Nat) (L : List Bd), v = .slice a len cap ∧ L.length = len ∧ len ≤ maxLen ∧ Bds w a L ∧ (a = none → cap = 0) := by
  rcases open_slice Tryz.underlying23 hf with ⟨hcs, _⟩ | ⟨a, len, cap, m, n, D, Pl, hcs, _, hl, hm, hmm, _, hi⟩
  · obtain rfl : v = .slice none 0 0 := by simpa using hcs
    exact ⟨none, 0, 0, [], rfl, rfl, by unfold maxLen; omega, (fun k hk => by simp at hk), fun _ => rfl⟩
  · obtain rfl : v = .slice (some a) len cap := by simpa using hcs
    have e4 : Tryz.prog.cellsOf 99 = 4 := by kernel_rfl
    have hle : len ≤ m := by rw [hmm]; split <;> omega
    obtain ⟨L, h1, h2⟩ := list_of (len := len) (P := fun k b => ∃ bb o, some a = some ⟨bb, o, none⟩ ∧ w.cell? ⟨bb, o + k * 4, none⟩ = some (.bool b.av) ∧ w.cell? ⟨bb, o + k * 4 + 1, none⟩ = some (.int .u64 (b.an : Int)) ∧ w.cell? ⟨bb, o + k * 4 + 2, none⟩ = some (.bool b.bv) ∧ w.cell? ⟨bb, o + k * 4 + 3, none⟩ = some (.int .u64 (b.bn : Int)) ∧ b.an < 18446744073709551616 ∧ b.bn < 18446744073709551616) (by
      intro k hk
      have h0 : ∃ c, w.cell? a = some c := by
        obtain ⟨cs', hc, ht⟩ := hi 0 (by omega)
        obtain ⟨_, hcl, hat⟩ := World.cells?_some hc
        have := hat 0 (by rw [e4]; omega)
        have ha : (a.add (0 * Tryz.prog.cellsOf 99)).add 0 = a := by simp [Addr.add]
        rw [ha] at this
        rw [e4] at hcl
        exact ⟨_, this.trans (List.getElem?_eq_getElem (by omega))⟩
      obtain ⟨c, hc0⟩ := h0
      have ea := spot_none hc0
      obtain ⟨bb, o, sp⟩ := a
      obtain rfl : sp = none := congrArg Addr.spot ea
      obtain ⟨cs', hc, ht⟩ := hi k (by omega)
      obtain ⟨_, hcl, hat⟩ := World.cells?_some hc
      rw [e4] at hcl hat
      match cs', hcl with
      | [c0, c1, c2, c3], _ =>
        obtain ⟨b, rfl, rfl, rfl, rfl, l1, l2⟩ := open_bound ht
        have g0 := hat 0 (by omega)
        have g1 := hat 1 (by omega)
        have g2 := hat 2 (by omega)
        have g3 := hat 3 (by omega)
        rw [Addr.add_mid, Addr.add_mid] at g0 g1 g2 g3
        exact ⟨b, bb, o, rfl, g0, g1, g2, g3, l1, l2⟩)
    exact ⟨some a, len, cap, L, rfl, h1, Nat.le_trans hl hm, h2, fun h => by cases h⟩
set_option maxRecDepth 100000 in
theorem fld_nums {fuel : Nat} {v : Value} {x : DataW H × List MemPlace} (hf : DataW.trod enc Tryz.prog w base (fun _ => true) held fuel 22 [v] = some x) :
    ∃ (a : Option Addr) (len cap : Nat) (zs : List Int), v = .slice a len cap ∧ IsRow .u64 w a len cap zs := by
  rcases open_ints Tryz.underlying22 Tryz.underlying66 (by kernel_rfl) hf with ⟨hcs, _⟩ | ⟨x, l, c, zs, hcs, _, hl, hm, hz, _, hcell, hwz⟩
  · obtain rfl : v = .slice none 0 0 := by simpa using hcs
    exact ⟨none, 0, 0, [], rfl, .inl ⟨rfl, rfl, rfl, rfl⟩⟩
  · obtain rfl : v = .slice (some x) l c := by simpa using hcs
    exact ⟨some x, l, c, zs, rfl, .inr ⟨_, rfl, hl, hm, by simpa using hz, hcell, hwz⟩⟩
theorem trod_struct3 {P : Program} {t : TypeId} {f0 f1 f2 : Field} {fuel : Nat} {cs : List Value} {x : DataW H × List MemPlace} (ht : P.underlying t = some (.struct #[f0, f1, f2])) (h : DataW.trod enc P w base spare held fuel t cs = some x) :
    ∃ y0 y1 y2 n, cs.length = P.cellsOf t ∧ DataW.trod enc P w base spare held n f0.type ((cs.drop f0.offset).take (P.cellsOf f0.type)) = some y0 ∧
      DataW.trod enc P w base spare held n f1.type ((cs.drop f1.offset).take (P.cellsOf f1.type)) = some y1 ∧ DataW.trod enc P w base spare held n f2.type ((cs.drop f2.offset).take (P.cellsOf f2.type)) = some y2 := by
  obtain ⟨xs, n, _, rfl, hl, hlen, hf⟩ := DataW.trod_struct ht h
  match xs, hlen with
  | [y0, y1, y2], _ => exact ⟨y0, y1, y2, n, hl, by simpa using hf 0 f0 rfl, by simpa using hf 1 f1 rfl, by simpa using hf 2 f2 rfl⟩
theorem trod_struct6 {P : Program} {t : TypeId} {f0 f1 f2 f3 f4 f5 : Field} {fuel : Nat} {cs : List Value} {x : DataW H × List MemPlace} (ht : P.underlying t = some (.struct #[f0, f1, f2, f3, f4, f5])) (h : DataW.trod enc P w base spare held fuel t cs = some x) :
    ∃ y0 y1 y2 y3 y4 y5 n, cs.length = P.cellsOf t ∧ DataW.trod enc P w base spare held n f0.type ((cs.drop f0.offset).take (P.cellsOf f0.type)) = some y0 ∧
      DataW.trod enc P w base spare held n f1.type ((cs.drop f1.offset).take (P.cellsOf f1.type)) = some y1 ∧ DataW.trod enc P w base spare held n f2.type ((cs.drop f2.offset).take (P.cellsOf f2.type)) = some y2 ∧
      DataW.trod enc P w base spare held n f3.type ((cs.drop f3.offset).take (P.cellsOf f3.type)) = some y3 ∧ DataW.trod enc P w base spare held n f4.type ((cs.drop f4.offset).take (P.cellsOf f4.type)) = some y4 ∧ DataW.trod enc P w base spare held n f5.type ((cs.drop f5.offset).take (P.cellsOf f5.type)) = some y5 := by
  obtain ⟨xs, n, _, rfl, hl, hlen, hf⟩ := DataW.trod_struct ht h
  match xs, hlen with
  | [y0, y1, y2, y3, y4, y5], _ => exact ⟨y0, y1, y2, y3, y4, y5, n, hl, by simpa using hf 0 f0 rfl, by simpa using hf 1 f1 rfl, by simpa using hf 2 f2 rfl, by simpa using hf 3 f3 rfl, by simpa using hf 4 f4 rfl, by simpa using hf 5 f5 rfl⟩
end
end Go.Proofs.YtajilghlcfheiaaGreatDoor.Rea
