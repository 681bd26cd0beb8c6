/- A list of bounds that came in, as the row reads it: where its cells lie. -/
import Derived.Test.YtappaokjlnpbnaaDoorReaMat
import Derived.Deep.Slices
import Derived.ChangeSame
import Derived.ProofKit
namespace Go.Proofs.YtappaokjlnpbnaaDoor.Rea
open Go.RowKit Go.ChangeShapes Go.WideShapes Go.Deep
theorem nat_of_u64 {a : Int} (h : (Lit.int .u64 a).wf = true) : ∃ x : Nat, a = (x : Int) ∧ x < 18446744073709551616 := by
  simp [Lit.wf, IntKind.min, IntKind.max, IntKind.signed, IntKind.bits] at h
  exact ⟨a.toNat, by omega, by omega⟩
theorem spot_none {w : World} {x : Addr} {v : Value} (h : w.cell? x = some v) : x = ⟨x.block, x.off, none⟩ := by
  unfold World.cell? at h
  split at h
  · split at h
    · cases h
    · rename_i hs
      cases x with
      | mk b o s => cases s with
        | none => rfl
        | some s => simp at hs
  · cases h
section
variable {H : Type} {enc : TypeId × Value → H} {w : World} {base : Nat} {spare : Nat → Bool} {held : Bool}
/-- a term's two cells. -/
theorem open_term {fuel : Nat} {c0 c1 : Value} {x : DataW H × List MemPlace} (h : DataW.trod enc Tryd.prog w base spare held fuel 70 [c0, c1] = some x) : ∃ (v : Bool) (n : Nat), c0 = .bool v ∧ c1 = .int .u64 (n : Int) ∧ n < 18446744073709551616 := by
  obtain ⟨y0, y1, n, _, _, h0, h1⟩ := trod_struct2 Tryd.underlying70 h
  have e0 : Tryd.prog.cellsOf 4 = 1 := by kernel_rfl
  have e1 : Tryd.prog.cellsOf 25 = 1 := by kernel_rfl
  simp [e0] at h0
  simp [e1] at h1
  obtain ⟨b, hb, _⟩ := DataW.trod_bool Tryd.underlying4 h0
  obtain ⟨m, hm, _, hw⟩ := DataW.trod_int Tryd.underlying25 h1
  cases hb
  cases hm
  obtain ⟨k, rfl, hk⟩ := nat_of_u64 hw
  exact ⟨b, k, rfl, rfl, hk⟩
set_option maxRecDepth 100000 in
theorem open_bound {fuel : Nat} {c0 c1 c2 c3 : Value} {x : DataW H × List MemPlace} (h : DataW.trod enc Tryd.prog w base spare held fuel 72 [c0, c1, c2, c3] = some x) : ∃ b : Bd, c0 = .bool b.av ∧ c1 = .int .u64 (b.an : Int) ∧ c2 = .bool b.bv ∧ c3 = .int .u64 (b.bn : Int) ∧ b.an < 18446744073709551616 ∧ b.bn < 18446744073709551616 := by
  obtain ⟨y0, y1, n, _, _, h0, h1⟩ := trod_struct2 Tryd.underlying72 h
  have e0 : Tryd.prog.cellsOf 70 = 2 := by kernel_rfl
  simp [e0] at h0 h1
  obtain ⟨v0, n0, rfl, rfl, l0⟩ := open_term h0
  obtain ⟨v1, n1, rfl, rfl, l1⟩ := open_term h1
  exact ⟨⟨v0, n0, v1, n1⟩, rfl, rfl, rfl, rfl, l0, l1⟩
theorem list_of {len : Nat} {P : Nat → Bd → Prop} (h : ∀ k, k < len → ∃ b, P k b) : ∃ L : List Bd, L.length = len ∧ ∀ k (hk : k < L.length), P k L[k] := by
  induction len with
  | zero => exact ⟨[], rfl, fun k hk => by simp at hk⟩
  | succ len ih =>
    obtain ⟨L, h1, h2⟩ := ih (fun k hk => h k (by omega))
    obtain ⟨b, hb⟩ := h len (by omega)
    refine ⟨L ++ [b], by simp [h1], fun k hk => ?_⟩
    simp [h1] at hk
    by_cases e : k < L.length
    · rw [List.getElem_append_left e]
      exact h2 k e
    · have e2 : k = len := by omega
      subst e2
      rw [List.getElem_append_right (by omega)]
      simpa using hb
set_option maxRecDepth 100000 in
theorem open_bounds {v : Value} {d : DataW H} {p : List MemPlace} (ho : ∃ r b0, Value.okWide Tryd.prog w r b0 51 v) (h : DataW.Trod enc Tryd.prog w base spare held 51 v d p) :
    ∃ (a : Option Addr) (len cap : Nat) (L : List Bd), v = .slice a len cap ∧ L.length = len ∧ len ≤ maxLen ∧ Bds w a L := by
  obtain ⟨r, b0, ho⟩ := ho
  obtain ⟨a0, len0, cap0, rfl⟩ := okWide_slice Tryd.underlying51 ho
  obtain ⟨fuel, hf⟩ := h
  rcases open_slice Tryd.underlying51 hf with ⟨hcs, _⟩ | ⟨a, len, cap, m, n, D, Pl, hcs, _, hl, hm, hmm, _, hi⟩
  · simp [Value.cells] at hcs
    obtain ⟨rfl, rfl, rfl⟩ := hcs
    exact ⟨none, 0, 0, [], rfl, rfl, by unfold maxLen; omega, fun k hk => by simp at hk⟩
  · simp [Value.cells] at hcs
    obtain ⟨rfl, rfl, rfl⟩ := hcs
    have e4 : Tryd.prog.cellsOf 72 = 4 := by kernel_rfl
    have hle : len0 ≤ m := by rw [hmm]; split <;> omega
    obtain ⟨L, h1, h2⟩ := list_of (len := len0) (P := fun k b => ∃ bb o, some a = some ⟨bb, o, none⟩ ∧ w.cell? ⟨bb, o + k * 4, none⟩ = some (.bool b.av) ∧ w.cell? ⟨bb, o + k * 4 + 1, none⟩ = some (.int .u64 (b.an : Int)) ∧ w.cell? ⟨bb, o + k * 4 + 2, none⟩ = some (.bool b.bv) ∧ w.cell? ⟨bb, o + k * 4 + 3, none⟩ = some (.int .u64 (b.bn : Int)) ∧ b.an < 18446744073709551616 ∧ b.bn < 18446744073709551616) (by
      intro k hk
      have h0 : ∃ c, w.cell? a = some c := by
        obtain ⟨cs', hc, ht⟩ := hi 0 (by omega)
        obtain ⟨_, hcl, hat⟩ := World.cells?_some hc
        have := hat 0 (by rw [e4]; omega)
        have ha : (a.add (0 * Tryd.prog.cellsOf 72)).add 0 = a := by simp [Addr.add]
        rw [ha] at this
        rw [e4] at hcl
        exact ⟨_, this.trans (List.getElem?_eq_getElem (by omega))⟩
      obtain ⟨c, hc0⟩ := h0
      have ea := spot_none hc0
      obtain ⟨bb, o, sp⟩ := a
      obtain rfl : sp = none := congrArg Addr.spot ea
      obtain ⟨cs', hc, ht⟩ := hi k (by omega)
      obtain ⟨_, hcl, hat⟩ := World.cells?_some hc
      rw [e4] at hcl hat
      match cs', hcl with
      | [c0, c1, c2, c3], _ =>
        obtain ⟨b, rfl, rfl, rfl, rfl, l1, l2⟩ := open_bound ht
        have g0 := hat 0 (by omega)
        have g1 := hat 1 (by omega)
        have g2 := hat 2 (by omega)
        have g3 := hat 3 (by omega)
        rw [Addr.add_mid, Addr.add_mid] at g0 g1 g2 g3
        exact ⟨b, bb, o, rfl, g0, g1, g2, g3, l1, l2⟩)
    exact ⟨some a, len0, cap0, L, rfl, h1, Nat.le_trans hl hm, h2⟩
end
end Go.Proofs.YtappaokjlnpbnaaDoor.Rea
