/- Appending bounds: a row of bounds that the call owns. -/
import Derived.Test.YtjkfmgjebemphaaMat
import Derived.Laws.AppendOwn
import Derived.Below
namespace Go.Proofs.Ytjkfmgjebemphaa
open Go.RowKit
def Bd.cells (b : Bd) : List Value := [.bool b.av, .int .u64 (b.an : Int), .bool b.bv, .int .u64 (b.bn : Int)]
def flat (L : List Bd) : List Value := L.flatMap Bd.cells
/-- their numbers are numbers. -/
def Fit (L : List Bd) : Prop := ∀ b ∈ L, b.an < 18446744073709551616 ∧ b.bn < 18446744073709551616
theorem flat_length (L : List Bd) : (flat L).length = L.length * 4 := by
  induction L with
  | nil => rfl
  | cons b L ih => simp [flat, Bd.cells] at ih ⊢; omega
theorem flat_append (L K : List Bd) : flat (L ++ K) = flat L ++ flat K := by simp [flat]
theorem flat_one (L : List Bd) : ∀ u ∈ flat L, u.oneCell' = true := by
  intro u hu
  simp only [flat, List.mem_flatMap, Bd.cells] at hu
  obtain ⟨b, _, hu⟩ := hu
  simp at hu
  rcases hu with rfl | rfl | rfl | rfl <;> rfl
theorem flat_get (L : List Bd) : ∀ k (hk : k < L.length), (flat L)[k * 4]? = some (.bool L[k].av) ∧ (flat L)[k * 4 + 1]? = some (.int .u64 (L[k].an : Int)) ∧ (flat L)[k * 4 + 2]? = some (.bool L[k].bv) ∧ (flat L)[k * 4 + 3]? = some (.int .u64 (L[k].bn : Int)) := by
  induction L with
  | nil => intro k hk; simp at hk
  | cons b L ih =>
    intro k hk
    have e : flat (b :: L) = Bd.cells b ++ flat L := rfl
    cases k with
    | zero => simp [e, Bd.cells]
    | succ k =>
      have h := ih k (by simpa using hk)
      have e4 : (Bd.cells b).length = 4 := rfl
      have s : ∀ i, (flat (b :: L))[(k + 1) * 4 + i]? = (flat L)[k * 4 + i]? := fun i => by
        rw [e, List.getElem?_append_right (by rw [e4]; omega), e4]
        congr 1
        omega
      have s0 := s 0
      simp only [Nat.add_zero] at s0
      rw [s0, s 1, s 2, s 3]
      simpa using h
theorem Bds.fit {w : World} {a : Option Addr} {L : List Bd} (h : Bds w a L) : Fit L := by
  intro b hb
  obtain ⟨k, hk, rfl⟩ := List.getElem_of_mem hb
  obtain ⟨_, _, _, _, _, _, _, l1, l2⟩ := h k hk
  exact ⟨l1, l2⟩
/-- What lies where bounds lie, cell by cell. -/
theorem Bds.flat {w : World} {b o : Nat} {L : List Bd} (h : Bds w (some ⟨b, o, none⟩) L) : ∀ j u, (flat L)[j]? = some u → w.cell? ((⟨b, o, none⟩ : Addr).add j) = some u := by
  intro j u hu
  have hj : j < L.length * 4 := by rw [← flat_length]; exact (List.getElem?_eq_some_iff.1 hu).1
  have hk : j / 4 < L.length := by omega
  obtain ⟨b', o', e, c0, c1, c2, c3, _, _⟩ := h (j / 4) hk
  obtain ⟨rfl, rfl⟩ : b = b' ∧ o = o' := by simpa using e
  obtain ⟨g0, g1, g2, g3⟩ := flat_get L (j / 4) hk
  have hadd : (⟨b, o, none⟩ : Addr).add j = ⟨b, o + j, none⟩ := by unfold Addr.add; split <;> simp_all
  rw [hadd]
  have hr : j % 4 = 0 ∨ j % 4 = 1 ∨ j % 4 = 2 ∨ j % 4 = 3 := by omega
  rcases hr with hr | hr | hr | hr
  · obtain rfl : u = .bool L[j / 4].av := by rw [show j / 4 * 4 = j by omega, hu] at g0; exact Option.some.inj g0
    rw [← c0]; congr 2; omega
  · obtain rfl : u = .int .u64 (L[j / 4].an : Int) := by rw [show j / 4 * 4 + 1 = j by omega, hu] at g1; exact Option.some.inj g1
    rw [← c1]; congr 2; omega
  · obtain rfl : u = .bool L[j / 4].bv := by rw [show j / 4 * 4 + 2 = j by omega, hu] at g2; exact Option.some.inj g2
    rw [← c2]; congr 2; omega
  · obtain rfl : u = .int .u64 (L[j / 4].bn : Int) := by rw [show j / 4 * 4 + 3 = j by omega, hu] at g3; exact Option.some.inj g3
    rw [← c3]; congr 2; omega
/-- Bounds that the call itself appended. -/
def Own (base : Nat) (w : World) (v : Value) (L : List Bd) : Prop := w.ownsRow base 33 4 v L.length (flat L) ∧ Fit L
theorem Own.nil (base : Nat) (w : World) : Own base w (.slice none 0 0) [] := ⟨World.ownsRow_nil w base 33 4, fun b hb => by simp at hb⟩
theorem Own.bds {base : Nat} {w : World} {v : Value} {L : List Bd} (h : Own base w v L) : ∃ a cap, v = .slice a L.length cap ∧ Bds w a L ∧ (a = none → cap = 0) := by
  obtain ⟨h1, h2⟩ := h
  rcases h1.2 with ⟨rfl, h0⟩ | ⟨g, cap, cur, rfl, _⟩
  · refine ⟨none, 0, by rw [h0], fun k hk => by omega, fun _ => rfl⟩
  · refine ⟨some ⟨g, 0, none⟩, cap, rfl, ?_, fun h => by cases h⟩
    intro k hk
    obtain ⟨g0, g1, g2, g3⟩ := flat_get L k hk
    have hadd : ∀ j, (⟨g, 0, none⟩ : Addr).add j = ⟨g, 0 + j, none⟩ := fun j => by unfold Addr.add; split <;> simp_all
    have hc : ∀ j u, (flat L)[j]? = some u → w.cell? ⟨g, 0 + j, none⟩ = some u := fun j u hu => by rw [← hadd]; exact h1.cells (g := g) rfl j u hu
    have hf := h2 _ (List.getElem_mem hk)
    exact ⟨g, 0, rfl, hc _ _ g0, by rw [Nat.add_assoc]; exact hc _ _ g1, by rw [Nat.add_assoc]; exact hc _ _ g2, by rw [Nat.add_assoc]; exact hc _ _ g3, hf.1, hf.2⟩
theorem under22 : Try.prog.underlying 22 = some (.slice 33) := by kernel_rfl
theorem info33 : (Try.prog.info? 33).map (fun i => (i.zero, i.size, i.bytes)) = some (some (.agg #[.bool false, .int .u64 0, .bool false, .int .u64 0]), 4, 32) := by kernel_rfl
theorem own_append {base : Nat} {w : World} {ty : TypeId} {v : Value} {K L : List Bd} (h : Own base w v K) (a : Option Addr) (cap : Nat) (hL : Bds w a L) (ha : a = none → v = .slice none 0 0 ∧ cap = 0) (hs : K.length + L.length ≤ 1000) (hb : base ≤ w.heap.size) :
    ∃ v' w', (Builtin.append_ #[22, 22] ty #[v, .slice a L.length cap]).run Try.prog w = .ok v' w' ∧ Own base w' v' (K ++ L) ∧ w.grownBy w' v.ownBlock := by
  obtain ⟨i, hi, e⟩ := Option.map_eq_some_iff.1 info33
  simp only [Prod.mk.injEq] at e
  obtain ⟨e1, e2, e3⟩ := e
  have hfit : Fit (K ++ L) := fun b hb => by
    rcases List.mem_append.1 hb with hb | hb
    · exact h.2 b hb
    · exact hL.fit b hb
  cases a with
  | none =>
    obtain ⟨rfl, rfl⟩ := ha rfl
    have hL0 : L = [] := by
      cases L with
      | nil => rfl
      | cons b L => obtain ⟨_, _, e, _⟩ := hL 0 (by simp); cases e
    subst hL0
    have hK0 : K = [] := by
      rcases h.1.2 with ⟨_, h0⟩ | ⟨_, _, _, e, _⟩
      · exact List.eq_nil_of_length_eq_zero h0
      · cases e
    subst hK0
    refine ⟨.slice none 0 0, w, ?_, Own.nil base w, ⟨rfl, rfl, rfl, Nat.le_refl _, fun _ _ _ => rfl⟩⟩
    simp [Builtin.append_, run_underlying under22, sizeOf, typeInfo, hi, Builtin.lenOf, Builtin.firstCells]
  | some ad =>
    have hcells : ∀ j u, (flat L)[j]? = some u → w.cell? (ad.add j) = some u := by
      cases L with
      | nil => intro j u hu; simp [flat] at hu
      | cons b L =>
        obtain ⟨b', o', e, _⟩ := hL 0 (by simp)
        cases e
        exact hL.flat
    obtain ⟨v', w', hr, ho, hg, _⟩ := run_append_own (P := Try.prog) w base 22 ty 33 i _ 4 32 under22 hi e1 e2 e3 rfl (by decide) v K.length (flat K) h.1 ad L.length cap (flat L) (flat_length L) hcells (flat_one L) (by unfold maxLen; omega) (by omega) hb
    exact ⟨v', w', hr, ⟨by rw [List.length_append, flat_append]; exact ho, hfit⟩, hg⟩
theorem step_own {ops : Array Oper} {o : Oper} {a : Act} {w : World} {K' : Act → World → Prop} {Q : Exit → Act → World → Prop} {E : Prop} {base : Nat} {v : Value} {K L : List Bd}
    (hg : o.guard = none) (s x : Operand) (hop : o.op = .call { callee := .builtin .append, args := #[s, x], argTypes := #[22, 22] }) (hs : a.eval s = v) (h : Own base w v K)
    (ad : Option Addr) (m cap : Nat) (hx : a.eval x = .slice ad m cap) (hm : m = L.length) (hL : Bds w ad L) (ha : ad = none → v = .slice none 0 0 ∧ cap = 0) (hl : K.length + L.length ≤ 1000) (hb : base ≤ w.heap.size)
    (hK : ∀ v' w', Own base w' v' (K ++ L) → w.grownBy w' v.ownBlock → K' (a.put o.dst v') w') :
    if Region.wanted o (yielded ops a.tmps) = true then Oper.wp Try.prog o a w K' Q else E := by
  have hw : Region.wanted o (yielded ops a.tmps) = true := by simp [Region.wanted, hg]
  rw [if_pos hw]
  subst hm
  obtain ⟨v', w', hrun, r1, r2⟩ := own_append (ty := o.type) h ad cap hL ha hl hb
  unfold Oper.wp
  simp [execOp, hop, resolve, invoke, builtin, hs, hx, hrun, Result.andThen]
  exact hK v' w' r1 r2
theorem Own.below {base : Nat} {w w' : World} {v : Value} {L : List Bd} (h : Own base w v L) (hb : Below w.heap.size w w') : Own base w' v L :=
  ⟨h.1.kept (row := none) ⟨hb.os, hb.tape, hb.output, hb.size, fun k hk _ => hb.block k hk⟩ (by cases v.ownBlock <;> simp), h.2⟩
theorem Own.kept {base : Nat} {w w' : World} {v u : Value} {L : List Bd} (h : Own base w v L) (hg : w.grownBy w' u.ownBlock) (hne : v.ownBlock = none ∨ v.ownBlock ≠ u.ownBlock) : Own base w' v L := ⟨h.1.kept hg hne, h.2⟩
end Go.Proofs.Ytjkfmgjebemphaa
