/- Pairs that came in, as the row reads them; pairs that the call appends. -/
import Derived.Laws.AppendOwn
import Derived.Laws.IdiomArrays
import Derived.WideKeyArr2
import Derived.Deep.Slices
import Derived.ChangeSame
import Derived.ProofKit
import Derived.Test.YtajilghlcfheiaaGreatDoorOSame
namespace Go.Proofs.YtajilghlcfheiaaGreatDoor.Ord
set_option maxRecDepth 20000
open Go.RowKit Go.ChangeShapes Go.WideShapes Go.Deep
section
variable {H : Type} {enc : TypeId × Value → H} {P : Program} {w : World} {base : Nat} {spare : Nat → Bool} {held : Bool}
theorem trod_array2 {t e : TypeId} {fuel : Nat} {c0 c1 : Value} {x : DataW H × List MemPlace} (ht : P.underlying t = some (.array 2 e)) (hce : P.cellsOf e = 1)
    (h : DataW.trod enc P w base spare held fuel t [c0, c1] = some x) :
    ∃ y0 y1 n, x = (.agg [y0.1, y1.1], y0.2 ++ y1.2) ∧ DataW.trod enc P w base spare held n e [c0] = some y0 ∧ DataW.trod enc P w base spare held n e [c1] = some y1 := by
  cases fuel with
  | zero => simp [DataW.trod] at h
  | succ n =>
    unfold DataW.trod at h
    rw [ht] at h
    have r3 : List.range 2 = [0, 1] := rfl
    simp [r3, hce] at h
    obtain ⟨_, h⟩ := h
    cases h0 : DataW.trod enc P w base spare held n e [c0] with
    | none => simp [h0] at h
    | some y0 =>
      cases h1 : DataW.trod enc P w base spare held n e [c1] with
      | none => simp [h0, h1] at h
      | some y1 =>
        simp [h0, h1] at h
        exact ⟨y0, y1, n, h.symm, h0, h1⟩
theorem i64_wf {a : Int} (h : (Lit.int .i64 a).wf = true) : -9223372036854775808 ≤ a ∧ a ≤ 9223372036854775807 := by
  simp [Lit.wf, IntKind.min, IntKind.max, IntKind.signed, IntKind.bits] at h
  omega
theorem open_pair {fuel : Nat} {c0 c1 : Value} {x : DataW H × List MemPlace} (h : DataW.trod enc Tryz.prog w base spare held fuel 118 [c0, c1] = some x) : ∃ p : Int × Int, c0 = .int .i64 p.1 ∧ c1 = .int .i64 p.2 ∧ (-9223372036854775808 ≤ p.1 ∧ p.1 ≤ 9223372036854775807) ∧ (-9223372036854775808 ≤ p.2 ∧ p.2 ≤ 9223372036854775807) := by
  obtain ⟨y0, y1, n, _, h0, h1⟩ := trod_array2 (e := 3) Tryz.underlying118 (by kernel_rfl) h
  obtain ⟨a, e0, _, wa⟩ := DataW.trod_int Tryz.underlying3 h0
  obtain ⟨b, e1, _, wb⟩ := DataW.trod_int Tryz.underlying3 h1
  cases e0
  cases e1
  exact ⟨(a, b), rfl, rfl, i64_wf wa, i64_wf wb⟩
theorem list_of {α : Type} {len : Nat} {P : Nat → α → Prop} (h : ∀ k, k < len → ∃ b, P k b) : ∃ L : List α, L.length = len ∧ ∀ k (hk : k < L.length), P k L[k] := by
  induction len with
  | zero => exact ⟨[], rfl, fun k hk => by simp at hk⟩
  | succ len ih =>
    obtain ⟨L, h1, h2⟩ := ih (fun k hk => h k (by omega))
    obtain ⟨b, hb⟩ := h len (by omega)
    refine ⟨L ++ [b], by simp [h1], fun k hk => ?_⟩
    simp [h1] at hk
    by_cases e : k < L.length
    · rw [List.getElem_append_left e]
      exact h2 k e
    · have e2 : k = len := by omega
      subst e2
      rw [List.getElem_append_right (by omega)]
      simpa using hb
theorem open_pairs {v : Value} {d : DataW H} {p : List MemPlace} (ho : ∃ r b0, Value.okWide Tryz.prog w r b0 75 v) (h : DataW.Trod enc Tryz.prog w base spare held 75 v d p) :
    ∃ (a : Option Addr) (len cap : Nat) (L : List (Int × Int)), v = .slice a len cap ∧ L.length = len ∧ len ≤ maxLen ∧ Prs w a L ∧ (a = none → cap = 0) := by
  obtain ⟨r, b0, ho⟩ := ho
  obtain ⟨a0, len0, cap0, rfl⟩ := okWide_slice Tryz.underlying75 ho
  obtain ⟨fuel, hf⟩ := h
  rcases open_slice Tryz.underlying75 hf with ⟨hcs, _⟩ | ⟨a, len, cap, m, n, D, Pl, hcs, _, hl, hm, hmm, _, hi⟩
  · simp [Value.cells] at hcs
    obtain ⟨rfl, rfl, rfl⟩ := hcs
    exact ⟨none, 0, 0, [], rfl, rfl, by unfold maxLen; omega, (fun k hk => by simp at hk), fun _ => rfl⟩
  · simp [Value.cells] at hcs
    obtain ⟨rfl, rfl, rfl⟩ := hcs
    have e4 : Tryz.prog.cellsOf 118 = 2 := by kernel_rfl
    have hle : len0 ≤ m := by rw [hmm]; split <;> omega
    obtain ⟨L, h1, h2⟩ := list_of (len := len0) (P := fun k (b : Int × Int) => ∃ bb o, some a = some ⟨bb, o, none⟩ ∧ w.cell? ⟨bb, o + k * 2, none⟩ = some (.int .i64 b.1) ∧ w.cell? ⟨bb, o + k * 2 + 1, none⟩ = some (.int .i64 b.2) ∧ (-9223372036854775808 ≤ b.1 ∧ b.1 ≤ 9223372036854775807) ∧ (-9223372036854775808 ≤ b.2 ∧ b.2 ≤ 9223372036854775807)) (by
      intro k hk
      have h0 : ∃ c, w.cell? a = some c := by
        obtain ⟨cs', hc, ht⟩ := hi 0 (by omega)
        obtain ⟨_, hcl, hat⟩ := World.cells?_some hc
        have := hat 0 (by rw [e4]; omega)
        have ha : (a.add (0 * Tryz.prog.cellsOf 118)).add 0 = a := by simp [Addr.add]
        rw [ha] at this
        rw [e4] at hcl
        exact ⟨_, this.trans (List.getElem?_eq_getElem (by omega))⟩
      obtain ⟨c, hc0⟩ := h0
      have ea := spot_none hc0
      obtain ⟨bb, o, sp⟩ := a
      obtain rfl : sp = none := congrArg Addr.spot ea
      obtain ⟨cs', hc, ht⟩ := hi k (by omega)
      obtain ⟨_, hcl, hat⟩ := World.cells?_some hc
      rw [e4] at hcl hat
      match cs', hcl with
      | [c0, c1], _ =>
        obtain ⟨b, rfl, rfl, l1, l2⟩ := open_pair ht
        have g0 := hat 0 (by omega)
        have g1 := hat 1 (by omega)
        rw [Addr.add_mid, Addr.add_mid] at g0 g1
        exact ⟨b, bb, o, rfl, g0, g1, l1, l2⟩)
    exact ⟨some a, len0, cap0, L, rfl, h1, Nat.le_trans hl hm, h2, fun h => by cases h⟩
end
def pcells (b : Int × Int) : List Value := [.int .i64 b.1, .int .i64 b.2]
def pflat (L : List (Int × Int)) : List Value := L.flatMap pcells
/-- their numbers are numbers. -/
def PFit (L : List (Int × Int)) : Prop := ∀ b ∈ L, (-9223372036854775808 ≤ b.1 ∧ b.1 ≤ 9223372036854775807) ∧ (-9223372036854775808 ≤ b.2 ∧ b.2 ≤ 9223372036854775807)
theorem pflat_length (L : List (Int × Int)) : (pflat L).length = L.length * 2 := by
  induction L with
  | nil => rfl
  | cons b L ih => simp [pflat, pcells] at ih ⊢; omega
theorem pflat_append (L K : List (Int × Int)) : pflat (L ++ K) = pflat L ++ pflat K := by simp [pflat]
theorem pflat_one (L : List (Int × Int)) : ∀ u ∈ pflat L, u.oneCell' = true := by
  intro u hu
  simp only [pflat, List.mem_flatMap, pcells] at hu
  obtain ⟨b, _, hu⟩ := hu
  simp at hu
  rcases hu with rfl | rfl <;> rfl
theorem pflat_get (L : List (Int × Int)) : ∀ k (hk : k < L.length), (pflat L)[k * 2]? = some (.int .i64 L[k].1) ∧ (pflat L)[k * 2 + 1]? = some (.int .i64 L[k].2) := by
  induction L with
  | nil => intro k hk; simp at hk
  | cons b L ih =>
    intro k hk
    have e : pflat (b :: L) = pcells b ++ pflat L := rfl
    cases k with
    | zero => simp [e, pcells]
    | succ k =>
      have h := ih k (by simpa using hk)
      have e4 : (pcells b).length = 2 := rfl
      have s : ∀ i, (pflat (b :: L))[(k + 1) * 2 + i]? = (pflat L)[k * 2 + i]? := fun i => by
        rw [e, List.getElem?_append_right (by rw [e4]; omega), e4]
        congr 1
        omega
      have s0 := s 0
      simp only [Nat.add_zero] at s0
      rw [s0, s 1]
      simpa using h
theorem Prs.fit {w : World} {a : Option Addr} {L : List (Int × Int)} (h : Prs w a L) : PFit L := by
  intro b hb
  obtain ⟨k, hk, rfl⟩ := List.getElem_of_mem hb
  obtain ⟨_, _, _, _, _, l1, l2⟩ := h k hk
  exact ⟨l1, l2⟩
/-- What lies where pairs lie, cell by cell. -/
theorem Prs.flat {w : World} {b o : Nat} {L : List (Int × Int)} (h : Prs w (some ⟨b, o, none⟩) L) : ∀ j u, (pflat L)[j]? = some u → w.cell? ((⟨b, o, none⟩ : Addr).add j) = some u := by
  intro j u hu
  have hj : j < L.length * 2 := by rw [← pflat_length]; exact (List.getElem?_eq_some_iff.1 hu).1
  have hk : j / 2 < L.length := by omega
  obtain ⟨b', o', e, c0, c1, _, _⟩ := h (j / 2) hk
  obtain ⟨rfl, rfl⟩ : b = b' ∧ o = o' := by simpa using e
  obtain ⟨g0, g1⟩ := pflat_get L (j / 2) hk
  rw [add_of]
  have hr : j % 2 = 0 ∨ j % 2 = 1 := by omega
  rcases hr with hr | hr
  · obtain rfl : u = .int .i64 L[j / 2].1 := by rw [show j / 2 * 2 = j by omega, hu] at g0; exact Option.some.inj g0
    rw [← c0]; congr 2; omega
  · obtain rfl : u = .int .i64 L[j / 2].2 := by rw [show j / 2 * 2 + 1 = j by omega, hu] at g1; exact Option.some.inj g1
    rw [← c1]; congr 2; omega
/-- Pairs that the call itself appended. -/
def POwn (base : Nat) (w : World) (v : Value) (L : List (Int × Int)) : Prop := w.ownsRow base 118 2 v L.length (pflat L) ∧ PFit L
theorem POwn.nil (base : Nat) (w : World) : POwn base w (.slice none 0 0) [] := ⟨World.ownsRow_nil w base 118 2, fun b hb => by simp at hb⟩
theorem POwn.prs {base : Nat} {w : World} {v : Value} {L : List (Int × Int)} (h : POwn base w v L) : ∃ a cap, v = .slice a L.length cap ∧ Prs w a L := by
  obtain ⟨h1, h2⟩ := h
  rcases h1.2 with ⟨rfl, h0⟩ | ⟨g, cap, cur, rfl, _⟩
  · exact ⟨none, 0, by rw [h0], fun k hk => by omega⟩
  · refine ⟨some ⟨g, 0, none⟩, cap, rfl, ?_⟩
    intro k hk
    obtain ⟨g0, g1⟩ := pflat_get L k hk
    have hc : ∀ j u, (pflat L)[j]? = some u → w.cell? ⟨g, 0 + j, none⟩ = some u := fun j u hu => by rw [← add_of]; exact h1.cells (g := g) rfl j u hu
    have hf := h2 _ (List.getElem_mem hk)
    exact ⟨g, 0, rfl, hc _ _ g0, by rw [Nat.add_assoc]; exact hc _ _ g1, hf.1, hf.2⟩
theorem under31 : Tryz.prog.underlying 75 = some (.slice 118) := by kernel_rfl
theorem info35 : (Tryz.prog.info? 118).map (fun i => (i.zero, i.size, i.bytes)) = some (some (.agg #[.int .i64 0, .int .i64 0]), 2, 16) := by kernel_rfl
theorem pown_append {base : Nat} {w : World} {ty : TypeId} {v : Value} {K L : List (Int × Int)} (h : POwn base w v K) (a : Option Addr) (cap : Nat) (hL : Prs w a L) (ha : a = none → v = .slice none 0 0 ∧ cap = 0) (hs : K.length + L.length ≤ 1000) (hb : base ≤ w.heap.size) :
    ∃ v' w', (Builtin.append_ #[75, 75] ty #[v, .slice a L.length cap]).run Tryz.prog w = .ok v' w' ∧ POwn base w' v' (K ++ L) ∧ w.grownBy w' v.ownBlock := by
  obtain ⟨i, hi, e⟩ := Option.map_eq_some_iff.1 info35
  simp only [Prod.mk.injEq] at e
  obtain ⟨e1, e2, e3⟩ := e
  have hfit : PFit (K ++ L) := fun b hb => by
    rcases List.mem_append.1 hb with hb | hb
    · exact h.2 b hb
    · exact hL.fit b hb
  cases a with
  | none =>
    obtain ⟨rfl, rfl⟩ := ha rfl
    have hL0 : L = [] := by
      cases L with
      | nil => rfl
      | cons b L => obtain ⟨_, _, e, _⟩ := hL 0 (by simp); cases e
    subst hL0
    have hK0 : K = [] := by
      rcases h.1.2 with ⟨_, h0⟩ | ⟨_, _, _, e, _⟩
      · exact List.eq_nil_of_length_eq_zero h0
      · cases e
    subst hK0
    refine ⟨.slice none 0 0, w, ?_, POwn.nil base w, ⟨rfl, rfl, rfl, Nat.le_refl _, fun _ _ _ => rfl⟩⟩
    simp [Builtin.append_, run_underlying under31, sizeOf, typeInfo, hi, Builtin.lenOf, Builtin.firstCells]
  | some ad =>
    have hcells : ∀ j u, (pflat L)[j]? = some u → w.cell? (ad.add j) = some u := by
      cases L with
      | nil => intro j u hu; simp [pflat] at hu
      | cons b L =>
        obtain ⟨b', o', e, _⟩ := hL 0 (by simp)
        cases e
        exact hL.flat
    obtain ⟨v', w', hr, ho, hg, _⟩ := run_append_own (P := Tryz.prog) w base 75 ty 118 i _ 2 16 under31 hi e1 e2 e3 rfl (by decide) v K.length (pflat K) h.1 ad L.length cap (pflat L) (pflat_length L) hcells (pflat_one L) (by unfold maxLen; omega) (by omega) hb
    exact ⟨v', w', hr, ⟨by rw [List.length_append, pflat_append]; exact ho, hfit⟩, hg⟩
theorem POwn.lt {base : Nat} {w : World} {v : Value} {L : List (Int × Int)} (h : POwn base w v L) : ∀ k, v.ownBlock = some k → base ≤ k := fun k hk => (h.1.lt k hk).1
theorem wpList_pown {w0 W : World} {ops : Array Oper} {o : Oper} {rest : List Oper} {a : Act} {Q : Exit → Act → World → Prop} {base : Nat} {v : Value} {K L : List (Int × Int)}
    (hg : o.guard = none) (s x : Operand) (hop : o.op = .call { callee := .builtin .append, args := #[s, x], argTypes := #[75, 75] }) (hs : a.eval s = v) (h : POwn base W v K)
    (ad : Option Addr) (m cap : Nat) (hx : a.eval x = .slice ad m cap) (hm : m = L.length) (hL : Prs W ad L) (ha : ad = none → v = .slice none 0 0 ∧ cap = 0) (hl : K.length + L.length ≤ 1000) (hb : base ≤ W.heap.size) (HB : Below base w0 W)
    (hK : ∀ v' w', POwn base w' v' (K ++ L) → Below base w0 w' → wpList Tryz.prog ops Q rest (a.put o.dst v') w') : wpList Tryz.prog ops Q (o :: rest) a W := by
  subst hm
  obtain ⟨v', w', hrun, r1, r2⟩ := pown_append (ty := o.type) h ad cap hL ha hl hb
  refine wpList_plain hg fun K hK2 => ?_
  unfold Oper.wp execOp
  simp only [hop, resolve, invoke, builtin, Sem.run_bind, Sem.run_pure, Result.andThen_ok, List.map_toArray, List.map_cons, List.map_nil, hs, hx, hrun]
  exact hK2 _ _ (hK v' w' r1 (HB.grown r2 hb h.lt))
theorem POwn.below {base : Nat} {w w' : World} {v : Value} {L : List (Int × Int)} (h : POwn base w v L) (hb : Below w.heap.size w w') : POwn base w' v L :=
  ⟨h.1.kept (row := none) ⟨hb.os, hb.tape, hb.output, hb.size, fun k hk _ => hb.block k hk⟩ (by cases v.ownBlock <;> simp), h.2⟩
end Go.Proofs.YtajilghlcfheiaaGreatDoor.Ord
