/- orders.Close in the Book's seat: its contract. -/
import Derived.WalkKit
import Derived.ProofKit
import Derived.Outline
import Derived.KernelRfl
import Derived.Laws.Rows
import Derived.Laws.NewBlocks
import Derived.Laws.BitsAllLaws
import Derived.Lib.Hide
import Derived.Lib.LaidTab
import Derived.Lib.TrailingZeros
import Derived.OwnWalk
import Derived.Deep.QuietTactic
import Derived.BigQuiet
import Derived.ScopeJumps
import Derived.WalkMore
import Derived.Test.YtajilghlcfheiaaGreatDoorWWords
import Derived.Test.YtajilghlcfheiaaGreatDoorProg
namespace Go.Proofs.YtajilghlcfheiaaGreatDoor.Ord
open Go.RowKit Go.Proofs.YtajilghlcfheiaaGreatDoorW.PrintWords
theorem on {a b c : World} (h : Below a.heap.size a b) (k : Below b.heap.size b c) : Below a.heap.size a c := h.trans (k.mono h.size)
def IsRow (k : IntKind) (w : World) (a : Option Addr) (len cap : Nat) (zs : List Int) : Prop :=
  (a = none ∧ len = 0 ∧ cap = 0 ∧ zs = []) ∨
  ∃ x, a = some x ∧ len ≤ cap ∧ cap ≤ maxLen ∧ zs.length = cap ∧ (∀ i, i < zs.length → w.cell? (x.add i) = some (.int k (zs.getD i 0))) ∧ ∀ n ∈ zs, (Lit.int k n).wf = true
theorem add_of (b off j : Nat) : (⟨b, off, none⟩ : Addr).add j = ⟨b, off + j, none⟩ := by
  unfold Addr.add
  by_cases hj0 : j = 0
  · rw [if_pos hj0, hj0]; rfl
  · rw [if_neg hj0]
theorem spot_none {w : World} {x : Addr} {v : Value} (h : w.cell? x = some v) : x = ⟨x.block, x.off, none⟩ := by
  unfold World.cell? at h
  obtain ⟨b, o, s⟩ := x
  cases s with
  | none => rfl
  | some s =>
    exfalso
    split at h <;> simp at h
theorem nat_of_u64r {a : Int} (h : (Lit.int .u64 a).wf = true) : ∃ x : Nat, a = (x : Int) ∧ x < 18446744073709551616 := by
  simp [Lit.wf, IntKind.min, IntKind.max, IntKind.signed, IntKind.bits] at h
  exact ⟨a.toNat, by omega, by omega⟩
/-- a slice of numbers that can be read. -/
def Nums (w : World) (A : Option Addr) (xs : List Nat) : Prop :=
  (∀ x ∈ xs, x < 18446744073709551616) ∧ (0 < xs.length → ∃ b off, A = some ⟨b, off, none⟩ ∧ b < w.heap.size ∧ ∀ j, (hj : j < xs.length) → w.cell? ⟨b, off + j, none⟩ = some (.int .u64 (xs[j] : Int)))
theorem Nums.below {w w' : World} {A : Option Addr} {xs : List Nat} (h : Nums w A xs) (hb : Below w.heap.size w w') : Nums w' A xs :=
  ⟨h.1, fun hn => by
    obtain ⟨b, off, e, hlt, hc⟩ := h.2 hn
    exact ⟨b, off, e, Nat.lt_of_lt_of_le hlt hb.size, fun j hj => (hb.cell (p := ⟨b, off + j, none⟩) hlt).trans (hc j hj)⟩⟩
theorem IsRow.nums64 {w : World} {a : Option Addr} {len cap : Nat} {zs : List Int} (h : IsRow .u64 w a len cap zs) : ∃ xs : List Nat, xs.length = len ∧ Nums w a xs ∧ len ≤ 9223372036854775807 := by
  rcases h with ⟨rfl, rfl, rfl, rfl⟩ | ⟨x, rfl, hl, hm, hz, hc, hw⟩
  · exact ⟨[], rfl, ⟨by simp, by simp⟩, by omega⟩
  · have hlen : ((zs.take len).map Int.toNat).length = len := by rw [List.length_map, List.length_take, hz]; exact Nat.min_eq_left hl
    have hb : ∀ z ∈ zs, 0 ≤ z ∧ z < 18446744073709551616 := fun z hzm => by
      obtain ⟨x, rfl, hx⟩ := nat_of_u64r (hw z hzm)
      omega
    refine ⟨(zs.take len).map Int.toNat, hlen, ⟨?_, fun hp => ?_⟩, by unfold maxLen at hm; omega⟩
    · intro y hy
      obtain ⟨z, hz1, rfl⟩ := List.mem_map.1 hy
      have := hb z (List.mem_of_mem_take hz1)
      omega
    · rw [hlen] at hp
      have h0 := hc 0 (by omega)
      have hadd0 : x.add 0 = x := by simp [Addr.add]
      rw [hadd0] at h0
      obtain ⟨b, off, sp⟩ := x
      obtain rfl : sp = none := congrArg Addr.spot (spot_none h0)
      refine ⟨b, off, rfl, World.block_lt_of_cell? w _ h0, fun j hj => ?_⟩
      rw [hlen] at hj
      have h1 := hc j (by omega)
      rw [add_of] at h1
      rw [h1]
      have hjz : j < zs.length := by omega
      have hbj := hb zs[j] (List.getElem_mem hjz)
      have e : zs.getD j 0 = zs[j] := by simp [hjz]
      rw [e]
      simp only [List.getElem_map, List.getElem_take]
      congr 2
      omega
theorem bit_and (x : Nat) (hx : x < 18446744073709551616) : bits .and .u64 (x : Int) 1 = ((x % 2 : Nat) : Int) := by
  have h := u64_and_nat x 1 hx (by decide)
  rw [nat_mask1] at h
  exact h
theorem bit_is (r j : Nat) : (r / 2 ^ j) % 2 = if r.testBit j then 1 else 0 := by
  rw [Nat.testBit_eq_decide_div_mod_eq]
  have : r / 2 ^ j % 2 < 2 := Nat.mod_lt _ (by omega)
  by_cases h : r / 2 ^ j % 2 = 1
  · simp [h]
  · simp [h]
    omega

/-- a bit, as the program asks for it. -/
theorem bit_one (r j : Nat) (hr : r < 18446744073709551616) : (bits .and .u64 ((r : Int) / 2 ^ j) 1 == 1) = r.testBit j := by
  have e : (r : Int) / 2 ^ j = ((r / 2 ^ j : Nat) : Int) := by rw [Int.natCast_ediv, Int.natCast_pow]; rfl
  have hlt : r / 2 ^ j < 18446744073709551616 := Nat.lt_of_le_of_lt (Nat.div_le_self _ _) hr
  rw [e, bit_and _ hlt, bit_is]
  cases r.testBit j <;> rfl
theorem info23 : (Tryz.prog.info? 66).map (fun i => (i.zero, i.size, i.bytes)) = some (some (.int .u64 0), 1, 8) := by kernel_rfl
theorem under22 : Tryz.prog.underlying 22 = some (.slice 66) := by kernel_rfl
def intsN (xs : List Nat) : List Int := xs.map fun b : Nat => (b : Int)
/-- j is reached from i along pairs. -/
inductive Rch (ps : List (Int × Int)) : Nat → Nat → Prop
  | refl (i : Nat) : Rch ps i i
  | step {i j k : Nat} : Rch ps i j → ((j : Int), (k : Int)) ∈ ps → Rch ps i k
theorem Rch.trans {ps : List (Int × Int)} {i j k : Nat} (h : Rch ps i j) (h2 : Rch ps j k) : Rch ps i k := by
  induction h2 with
  | refl => exact h
  | step _ hm ih => exact .step ih hm
theorem Rch.one {ps : List (Int × Int)} {i j : Nat} (h : ((i : Int), (j : Int)) ∈ ps) : Rch ps i j := .step (.refl i) h
theorem Rch.least {ps : List (Int × Int)} {R : Nat → Nat → Prop} {i j : Nat} (hr : R i i) (hs : ∀ a b : Nat, R i a → ((a : Int), (b : Int)) ∈ ps → R i b) (h : Rch ps i j) : R i j := by
  induction h with
  | refl => exact hr
  | step _ hm ih => exact hs _ _ ih hm
theorem Rch.mono {ps qs : List (Int × Int)} {i j : Nat} (h : Rch ps i j) (hs : ∀ p ∈ ps, p ∈ qs) : Rch qs i j := by
  induction h with
  | refl => exact .refl _
  | step _ hm ih => exact .step ih (hs _ hm)
/-- all pairs lie below n. -/
def InR (n : Nat) (ps : List (Int × Int)) : Prop := ∀ p ∈ ps, (0 ≤ p.1 ∧ p.1 < n) ∧ (0 ≤ p.2 ∧ p.2 < n)
theorem Rch.lt {n : Nat} {ps : List (Int × Int)} (hp : InR n ps) {i j : Nat} (hi : i < n) (h : Rch ps i j) : j < n := by
  induction h with
  | refl => exact hi
  | step _ hm ih => have := (hp _ hm).2.2; simp at this; omega
/-- two that lead to each other are one. -/
def Anti (n : Nat) (ps : List (Int × Int)) : Prop := ∀ i j, i < n → j < n → Rch ps i j → Rch ps j i → i = j
/-- the rows tell who is reached. -/
structure Cl (n : Nat) (ps : List (Int × Int)) (rows : List Nat) : Prop where
  len : rows.length = n
  lt : ∀ x ∈ rows, x < 18446744073709551616
  bit : ∀ i j, i < n → ((rows.getD i 0).testBit j = true ↔ Rch ps i j)
theorem Cl.uniq {n : Nat} {ps : List (Int × Int)} {a b : List Nat} (ha : Cl n ps a) (hb : Cl n ps b) : a = b := by
  apply List.ext_getElem (by rw [ha.len, hb.len])
  intro i h1 h2
  apply Nat.eq_of_testBit_eq
  intro j
  have e1 := ha.bit i j (by rw [← ha.len]; exact h1)
  have e2 := hb.bit i j (by rw [← ha.len]; exact h1)
  simp [List.getD, h1] at e1
  simp [List.getD, h2] at e2
  rw [Bool.eq_iff_iff, e1, e2]
/-- what the rows under way are: in them, all is reached. -/
def Sound (n : Nat) (ps : List (Int × Int)) (f : Nat → Nat) : Prop := ∀ i j, i < n → (f i).testBit j = true → Rch ps i j
def Base (n : Nat) (ps : List (Int × Int)) (f : Nat → Nat) : Prop := (∀ i, i < n → (f i).testBit i = true) ∧ ∀ i j : Nat, ((i : Int), (j : Int)) ∈ ps → i < n → (f i).testBit j = true
/-- row i has what its own have. -/
def ShutAt (n : Nat) (f : Nat → Nat) (i : Nat) : Prop := ∀ j, j < n → (f i).testBit j = true → ∀ k, (f j).testBit k = true → (f i).testBit k = true
theorem shut_all {n : Nat} {ps : List (Int × Int)} {f : Nat → Nat} (hp : InR n ps) (hb : Base n ps f) (hs : Sound n ps f) (hc : ∀ i, i < n → ShutAt n f i) : ∀ i j, i < n → ((f i).testBit j = true ↔ Rch ps i j) := by
  intro i j hi
  constructor
  · exact hs i j hi
  · intro h
    refine Rch.least (R := fun i j => (f i).testBit j = true) (hb.1 i hi) ?_ h
    intro a b ha hab
    have han : a < n := (hs i a hi ha).lt hp hi
    exact hc i hi a han ha b (hb.2 a b hab han)
/-- how much is still wanting. -/
def want (f : Nat → Nat) : Nat → Nat
  | 0 => 0
  | n + 1 => want f n + (18446744073709551616 - f n)
theorem want_congr {f g : Nat → Nat} {n : Nat} (h : ∀ i, i < n → f i = g i) : want f n = want g n := by
  induction n with
  | zero => rfl
  | succ n ih => rw [want, want, ih (fun i hi => h i (by omega)), h n (by omega)]
theorem want_less {f g : Nat → Nat} {n i : Nat} (hi : i < n) (h : ∀ j, j < n → f j ≤ g j) (hlt : f i < g i) (hb : g i < 18446744073709551616) : want g n < want f n := by
  induction n with
  | zero => omega
  | succ n ih =>
    rw [want, want]
    by_cases e : i = n
    · subst e
      have : want g i ≤ want f i := by
        clear ih
        have hh : ∀ m, m ≤ i → want g m ≤ want f m := by
          intro m
          induction m with
          | zero => intro _; exact Nat.le_refl _
          | succ m ihm =>
            intro hm
            rw [want, want]
            have := ihm (by omega)
            have := h m (by omega)
            omega
        exact hh i (Nat.le_refl _)
      omega
    · have := ih (by omega) (fun j hj => h j (by omega))
      have := h n (by omega)
      omega
theorem or_gt {a b : Nat} (h : a ||| b ≠ a) : a < a ||| b := by
  have := Nat.left_le_or (n := a) (m := b)
  omega
/-- pairs, where they lie: each has two cells. -/
def Prs (w : World) (a : Option Addr) (L : List (Int × Int)) : Prop :=
  ∀ k (hk : k < L.length), ∃ b o, a = some ⟨b, o, none⟩ ∧ w.cell? ⟨b, o + k * 2, none⟩ = some (.int .i64 L[k].1) ∧ w.cell? ⟨b, o + k * 2 + 1, none⟩ = some (.int .i64 L[k].2) ∧ (-9223372036854775808 ≤ L[k].1 ∧ L[k].1 ≤ 9223372036854775807) ∧ (-9223372036854775808 ≤ L[k].2 ∧ L[k].2 ≤ 9223372036854775807)
theorem Prs.below {w w' : World} {a : Option Addr} {L : List (Int × Int)} (h : Prs w a L) (hb : Below w.heap.size w w') : Prs w' a L := by
  intro k hk
  obtain ⟨b, o, e, c0, c1, l⟩ := h k hk
  have hlt := World.block_lt_of_cell? w _ c0
  exact ⟨b, o, e, (hb.cell (p := ⟨b, o + k * 2, none⟩) hlt).trans c0, (hb.cell (p := ⟨b, o + k * 2 + 1, none⟩) hlt).trans c1, l⟩
theorem wp_scope_jumps2 {P : Program} {a : Act} {w : World} {Q : Exit → Act → World → Prop} {c rest : Code} (l : Nat) (J : Act → World → Prop) (μ : Act → World → Nat) (hf : findLabel c l = some (.seq .skip rest))
    (pass : ∀ a w, J a w → rest.wp P (Exit.jump l (fun a' w' => J a' w' ∧ μ a' w' < μ a w) Q) a w)
    (first : (∀ a w, J a w → rest.wp P (Exit.jump l J Q) a w) → c.wp P (Exit.jump l J Q) a w) : (Code.scope c).wp P Q a w := by
  refine wp_scope_jumps l J μ hf (first fun a w h => Code.wp_mono (fun e a' w' q => ?_) (pass a w h)) (fun a w h => wp_seq (wp_skip (pass a w h)))
  cases e with
  | goto l' => exact ⟨q.1, q.2.1⟩
  | _ => exact q
/-- a slot of a frame that is not written out. -/
def slotU (t : Array Value) (i : Nat) : Value := t.getD i undef
theorem frame_map (t : Array Value) : t = ((List.range t.size).map (slotU t)).toArray := by
  apply Array.ext'
  apply List.ext_getElem (by simp)
  intro i h1 h2
  simp at h1
  simp [slotU, h1]
theorem frame127 (t : Array Value) (h : t.size = 127) : t = #[slotU t 0, slotU t 1, slotU t 2, slotU t 3, slotU t 4, slotU t 5, slotU t 6, slotU t 7, slotU t 8, slotU t 9, slotU t 10, slotU t 11, slotU t 12, slotU t 13, slotU t 14, slotU t 15, slotU t 16, slotU t 17, slotU t 18, slotU t 19, slotU t 20, slotU t 21, slotU t 22, slotU t 23, slotU t 24, slotU t 25, slotU t 26, slotU t 27, slotU t 28, slotU t 29, slotU t 30, slotU t 31, slotU t 32, slotU t 33, slotU t 34, slotU t 35, slotU t 36, slotU t 37, slotU t 38, slotU t 39, slotU t 40, slotU t 41, slotU t 42, slotU t 43, slotU t 44, slotU t 45, slotU t 46, slotU t 47, slotU t 48, slotU t 49, slotU t 50, slotU t 51, slotU t 52, slotU t 53, slotU t 54, slotU t 55, slotU t 56, slotU t 57, slotU t 58, slotU t 59, slotU t 60, slotU t 61, slotU t 62, slotU t 63, slotU t 64, slotU t 65, slotU t 66, slotU t 67, slotU t 68, slotU t 69, slotU t 70, slotU t 71, slotU t 72, slotU t 73, slotU t 74, slotU t 75, slotU t 76, slotU t 77, slotU t 78, slotU t 79, slotU t 80, slotU t 81, slotU t 82, slotU t 83, slotU t 84, slotU t 85, slotU t 86, slotU t 87, slotU t 88, slotU t 89, slotU t 90, slotU t 91, slotU t 92, slotU t 93, slotU t 94, slotU t 95, slotU t 96, slotU t 97, slotU t 98, slotU t 99, slotU t 100, slotU t 101, slotU t 102, slotU t 103, slotU t 104, slotU t 105, slotU t 106, slotU t 107, slotU t 108, slotU t 109, slotU t 110, slotU t 111, slotU t 112, slotU t 113, slotU t 114, slotU t 115, slotU t 116, slotU t 117, slotU t 118, slotU t 119, slotU t 120, slotU t 121, slotU t 122, slotU t 123, slotU t 124, slotU t 125, slotU t 126] := by
  have e := frame_map t
  rw [h] at e
  exact e
/-- what a row's cell holds. -/
def rowF (w : World) (v : Value) (i : Nat) : Nat :=
  match v with
  | .slice (some a) _ _ => (match w.cell? ⟨a.block, i, none⟩ with | some (.int _ z) => z.toNat | _ => 0)
  | _ => 0
structure Wk (n : Nat) (ps : List (Int × Int)) (W0 w : World) (B : Nat) (f : Nat → Nat) : Prop where
  row : w.rowIs B 66 n (fun j => .int .u64 ((f j : Nat) : Int))
  base : Base n ps f
  sound : Sound n ps f
  lt : ∀ i, i < n → f i < 18446744073709551616
  new : W0.heap.size ≤ B
  below : Below W0.heap.size W0 w
/-- at every jump. -/
def Jm (n : Nat) (ps : List (Int × Int)) (A : Option Addr) (m c : Nat) (W0 : World) (a : Act) (w : World) : Prop :=
  ∃ (B : Nat) (f : Nat → Nat), a.defers = [] ∧ a.tmps.size = 127 ∧ slotU a.tmps 0 = .int .i64 (n : Int) ∧ slotU a.tmps 1 = .slice A m c ∧ slotU a.tmps 6 = .slice (some ⟨B, 0, none⟩) n n ∧ Hid (InR n ps) ∧ Hid (Wk n ps W0 w B f)
def Mu (n : Nat) (a : Act) (w : World) : Nat := want (rowF w (slotU a.tmps 6)) n
def gr (f : Nat → Nat) (r : Nat) : Nat → Nat
  | 0 => r
  | j + 1 => gr f r j ||| (if r.testBit j then f j else 0)
theorem gr_bit (f : Nat → Nat) (r k : Nat) : ∀ n, ((gr f r n).testBit k = true ↔ r.testBit k = true ∨ ∃ j, j < n ∧ r.testBit j = true ∧ (f j).testBit k = true) := by
  intro n
  induction n with
  | zero => simp [gr]
  | succ n ih =>
    rw [gr, Nat.testBit_or, Bool.or_eq_true, ih]
    constructor
    · rintro ((h | ⟨j, hj, h1, h2⟩) | h)
      · exact .inl h
      · exact .inr ⟨j, by omega, h1, h2⟩
      · by_cases hb : r.testBit n = true
        · rw [if_pos hb] at h
          exact .inr ⟨n, by omega, hb, h⟩
        · rw [if_neg hb] at h
          simp at h
    · rintro (h | ⟨j, hj, h1, h2⟩)
      · exact .inl (.inl h)
      · by_cases e : j = n
        · subst e
          rw [if_pos h1]
          exact .inr h2
        · exact .inl (.inr ⟨j, by omega, h1, h2⟩)
theorem gr_lt {f : Nat → Nat} {r n : Nat} (hr : r < 18446744073709551616) (hf : ∀ i, i < n → f i < 18446744073709551616) : ∀ j, j ≤ n → gr f r j < 18446744073709551616 := by
  intro j hj
  induction j with
  | zero => exact hr
  | succ j ih =>
    rw [gr, show 18446744073709551616 = 2 ^ 64 from rfl]
    refine Nat.or_lt_two_pow (ih (by omega)) ?_
    split
    · exact hf j (by omega)
    · decide
theorem gr_ge (f : Nat → Nat) (r : Nat) : ∀ j, r ≤ gr f r j := by
  intro j
  induction j with
  | zero => exact Nat.le_refl _
  | succ j ih => rw [gr]; exact Nat.le_trans ih Nat.left_le_or
theorem shut_of {n : Nat} {f : Nat → Nat} {i : Nat} (h : gr f (f i) n = f i) : ShutAt n f i := by
  intro j hj hb k hk
  rw [← h]
  exact (gr_bit f (f i) k n).2 (.inr ⟨j, hj, hb, hk⟩)
/-- one row grown. -/
def upd (f : Nat → Nat) (i g : Nat) : Nat → Nat := fun j => if j = i then g else f j
theorem upd_same {f : Nat → Nat} {i g : Nat} (h : g = f i) : upd f i g = f := by
  funext j
  unfold upd
  by_cases e : j = i
  · rw [if_pos e, h, e]
  · rw [if_neg e]
theorem upd_row {n : Nat} (f : Nat → Nat) (x g : Nat) : ∀ j, j < n → (if j = x then Value.int .u64 ((g : Nat) : Int) else .int .u64 ((f j : Nat) : Int)) = .int .u64 ((upd f x g j : Nat) : Int) := by
  intro j _
  unfold upd
  by_cases e : j = x
  · rw [if_pos e, if_pos e]
  · rw [if_neg e, if_neg e]
theorem Wk.grow {n : Nat} {ps : List (Int × Int)} {W0 w : World} {B : Nat} {f : Nat → Nat} (h : Wk n ps W0 w B f) {i : Nat} (hi : i < n) : Wk n ps W0 (w.setCell ⟨B, i, none⟩ (.int .u64 ((gr f (f i) n : Nat) : Int))) B (upd f i (gr f (f i) n)) := by
  have hge := fun k (hk : (f i).testBit k = true) => (gr_bit f (f i) k n).2 (.inl hk)
  refine ⟨(h.row.set i _).congr (fun j _ => ?_), ⟨fun j hj => ?_, fun a b hab ha => ?_⟩, fun a b ha hb => ?_, fun j hj => ?_, h.new, h.below.setCell h.new _⟩
  · unfold upd
    by_cases e : j = i
    · rw [if_pos e, if_pos e]
    · rw [if_neg e, if_neg e]
  · unfold upd
    split
    · next e => subst e; exact hge _ (h.base.1 j hj)
    · exact h.base.1 j hj
  · unfold upd
    split
    · next e => subst e; exact hge _ (h.base.2 a b hab ha)
    · exact h.base.2 a b hab ha
  · unfold upd at hb
    by_cases e : a = i
    · subst e
      rw [if_pos rfl] at hb
      rcases (gr_bit f (f a) b n).1 hb with h1 | ⟨j, hj, h1, h2⟩
      · exact h.sound a b ha h1
      · exact (h.sound a j ha h1).trans (h.sound j b hj h2)
    · rw [if_neg e] at hb
      exact h.sound a b ha hb
  · unfold upd
    split
    · exact gr_lt (h.lt i hi) h.lt n (Nat.le_refl _)
    · exact h.lt j hj
theorem Wk.value {n : Nat} {ps : List (Int × Int)} {W0 w : World} {B : Nat} {f : Nat → Nat} (h : Wk n ps W0 w B f) (k l : Nat) : ∀ i, i < n → rowF w (.slice (some ⟨B, 0, none⟩) k l) i = f i := by
  intro i hi
  simp only [rowF]
  rw [h.row.cell hi]
  simp
theorem Wk.less {n : Nat} {ps : List (Int × Int)} {W0 w w' : World} {B B' : Nat} {f : Nat → Nat} {i k l k' l' : Nat} (h : Wk n ps W0 w B f) (h' : Wk n ps W0 w' B' (upd f i (gr f (f i) n))) (hi : i < n) (hne : gr f (f i) n ≠ f i) : want (rowF w' (.slice (some ⟨B', 0, none⟩) k' l')) n < want (rowF w (.slice (some ⟨B, 0, none⟩) k l)) n := by
  rw [want_congr (h.value k l), want_congr (h'.value k' l')]
  have hg := gr_ge f (f i) n
  refine want_less hi (fun j hj => ?_) ?_ ?_
  · unfold upd
    split
    · next e => subst e; exact hg
    · exact Nat.le_refl _
  · unfold upd
    rw [if_pos rfl]
    omega
  · unfold upd
    rw [if_pos rfl]
    exact gr_lt (h.lt i hi) h.lt n (Nat.le_refl _)
theorem row_block {w : World} {B n : Nat} {f : Nat → Nat} (h : w.rowIs B 66 n (fun j => .int .u64 ((f j : Nat) : Int))) : w.heap[B]? = some (.cells (nums .u64 (intsN ((List.range n).map f))).toArray 66 (0, 0)) := by
  obtain ⟨c, hb, hn, hc⟩ := h
  rw [hb]
  have : c = (nums .u64 (intsN ((List.range n).map f))).toArray := by
    apply Array.ext'
    apply List.ext_getElem
    · simp [nums, intsN, hn]
    · intro i h1 h2
      have hi : i < n := by simpa [hn] using h1
      have := hc i hi
      rw [Array.getElem?_eq_some_iff] at this
      obtain ⟨hlt, e⟩ := this
      simp [nums, intsN]
      exact e
  rw [this]
theorem cl_of {n : Nat} {ps : List (Int × Int)} {W0 w : World} {B : Nat} {f : Nat → Nat} (hp : InR n ps) (h : Wk n ps W0 w B f) (hc : ∀ i, i < n → ShutAt n f i) : Cl n ps ((List.range n).map f) := by
  refine ⟨by simp, fun x hx => ?_, fun i j hi => ?_⟩
  · obtain ⟨i, hi, rfl⟩ := List.mem_map.1 hx
    exact h.lt i (List.mem_range.1 hi)
  · rw [show ((List.range n).map f).getD i 0 = f i by simp [List.getD, hi]]
    exact shut_all hp h.base h.sound hc i j hi
def ones (j i : Nat) : Nat := if j < i then 2 ^ j else 0
theorem pow_wrap (i : Nat) (h : i < 64) : IntKind.u64.wrap ((2 : Int) ^ i) = ((2 ^ i : Nat) : Int) := by
  have e : (2 : Int) ^ i = ((2 ^ i : Nat) : Int) := by push_cast; rfl
  rw [e]
  have hp : 2 ^ i ≤ 2 ^ 63 := Nat.pow_le_pow_right (by omega) (by omega)
  rw [show (2 : Nat) ^ 63 = 9223372036854775808 from rfl] at hp
  generalize 2 ^ i = q at *
  rw [IntKind.wrap_u64]
  omega
theorem ones_next {n : Nat} (i : Nat) : ∀ j, j < n → (if j = i then Value.int .u64 ((2 ^ i : Nat) : Int) else .int .u64 ((ones j i : Nat) : Int)) = .int .u64 ((ones j (i + 1) : Nat) : Int) := by
  intro j _
  unfold ones
  by_cases e : j = i
  · subst e
    rw [if_pos rfl, if_pos (by omega)]
  · rw [if_neg e]
    by_cases e2 : j < i
    · rw [if_pos e2, if_pos (by omega)]
    · rw [if_neg e2, if_neg (by omega)]
structure Pre (n : Nat) (ps : List (Int × Int)) (k : Nat) (W0 w : World) (B : Nat) (f : Nat → Nat) : Prop where
  row : w.rowIs B 66 n (fun j => .int .u64 ((f j : Nat) : Int))
  lt : ∀ i, i < n → f i < 18446744073709551616
  bit : ∀ i j, i < n → ((f i).testBit j = true ↔ (i = j ∨ ((i : Int), (j : Int)) ∈ ps.take k))
  inr : InR n (ps.take k)
  new : W0.heap.size ≤ B
  below : Below W0.heap.size W0 w
theorem pre_zero {n : Nat} {ps : List (Int × Int)} {W0 w : World} {B : Nat} (h64 : n ≤ 64) (h : w.rowIs B 66 n (fun j => .int .u64 ((ones j n : Nat) : Int))) (hn : W0.heap.size ≤ B) (hb : Below W0.heap.size W0 w) : Pre n ps 0 W0 w B (fun i => ones i n) := by
  refine ⟨h, fun i hi => ?_, fun i j hi => ?_, fun p hp => by simp at hp, hn, hb⟩
  · unfold ones
    rw [if_pos hi, show 18446744073709551616 = 2 ^ 64 from rfl]
    exact Nat.pow_lt_pow_right (by omega) (by omega)
  · unfold ones
    rw [if_pos hi, Nat.testBit_two_pow]
    simp
theorem Pre.next {n : Nat} {ps : List (Int × Int)} {k : Nat} {W0 w w' : World} {B : Nat} {f : Nat → Nat} (h : Pre n ps k W0 w B f) (h64 : n ≤ 64) (hk : k < ps.length) (x y : Nat) (hx : x < n) (hy : y < n) (e : ps[k] = ((x : Int), (y : Int))) (hr : w'.rowIs B 66 n (fun j => .int .u64 ((upd f x (f x ||| 2 ^ y) j : Nat) : Int))) (hb : Below W0.heap.size W0 w') : Pre n ps (k + 1) W0 w' B (upd f x (f x ||| 2 ^ y)) := by
  refine ⟨hr, fun i hi => ?_, fun i j hi => ?_, fun p hp => ?_, h.new, hb⟩
  · unfold upd
    split
    · rw [show 18446744073709551616 = 2 ^ 64 from rfl]
      exact Nat.or_lt_two_pow (h.lt x hx) (Nat.pow_lt_pow_right (by omega) (by omega))
    · exact h.lt i hi
  · rw [List.take_succ_eq_append_getElem hk, e, List.mem_append, List.mem_singleton, Prod.mk.injEq]
    unfold upd
    by_cases ei : i = x
    · subst ei
      rw [if_pos rfl, Nat.testBit_or, Bool.or_eq_true, h.bit i j hi, Nat.testBit_two_pow]
      simp
      constructor
      · rintro ((h | h) | h)
        · exact .inl h
        · exact .inr (.inl h)
        · exact .inr (.inr (by omega))
      · rintro (h | h | h)
        · exact .inl (.inl h)
        · exact .inl (.inr h)
        · exact .inr (by omega)
    · rw [if_neg ei, h.bit i j hi]
      constructor
      · rintro (h | h)
        · exact .inl h
        · exact .inr (.inl h)
      · rintro (h | h | h)
        · exact .inl h
        · exact .inr h
        · omega
  · rw [List.take_succ_eq_append_getElem hk, List.mem_append, List.mem_singleton] at hp
    rcases hp with hp | hp
    · exact h.inr p hp
    · rw [hp, e]
      simp
      omega
theorem Pre.wk {n : Nat} {ps : List (Int × Int)} {k : Nat} {W0 w : World} {B : Nat} {f : Nat → Nat} (h : Pre n ps k W0 w B f) (hk : k = ps.length) : InR n ps ∧ Wk n ps W0 w B f := by
  have e : ps.take k = ps := by rw [hk]; exact List.take_length
  have hb := h.bit
  have hi := h.inr
  rw [e] at hb hi
  exact ⟨hi, h.row, ⟨fun i hin => (hb i i hin).2 (.inl rfl), fun i j hm hin => (hb i j hin).2 (.inr hm)⟩, fun i j hin ht => by
    rcases (hb i j hin).1 ht with rfl | hm
    · exact .refl _
    · exact .one hm, h.lt, h.new, h.below⟩
theorem not_inr {n : Nat} {ps : List (Int × Int)} {k : Nat} (hk : k < ps.length) {x y : Int} (e : ps[k] = (x, y)) (h : ¬ ((0 ≤ x ∧ x < n) ∧ (0 ≤ y ∧ y < n))) : ¬ InR n ps := by
  intro hi
  have := hi _ (List.getElem_mem hk)
  rw [e] at this
  exact h this
theorem two_cells (W : World) (c0 c1 : Value) (e : TypeId) : (W.alloc (.cells #[c0, c1] e)).heap[W.heap.size]? = some (.cells #[c0, c1] e (0, 0)) := heap_alloc_new W _
/-- no two among the first i lead to each other. -/
def Apt (f : Nat → Nat) (i : Nat) : Prop := ∀ a b, a < i → b < a → ¬ ((f a).testBit b = true ∧ (f b).testBit a = true)
def Apu (f : Nat → Nat) (i j : Nat) : Prop := ∀ b, b < j → ¬ ((f i).testBit b = true ∧ (f b).testBit i = true)
theorem Apt.next {f : Nat → Nat} {i : Nat} (h : Apt f i) (h2 : Apu f i i) : Apt f (i + 1) := by
  intro a b ha hb
  by_cases e : a = i
  · subst e
    exact h2 b hb
  · exact h a b (by omega) hb
theorem Apu.next {f : Nat → Nat} {i j : Nat} (h : Apu f i j) (h2 : ¬ ((f i).testBit j = true ∧ (f j).testBit i = true)) : Apu f i (j + 1) := by
  intro b hb
  by_cases e : b = j
  · subst e
    exact h2
  · exact h b (by omega)
theorem anti_of {n : Nat} {ps : List (Int × Int)} {W0 w : World} {B : Nat} {f : Nat → Nat} (hp : InR n ps) (h : Wk n ps W0 w B f) (hc : ∀ i, i < n → ShutAt n f i) (ha : Apt f n) : Anti n ps := by
  have hs := shut_all hp h.base h.sound hc
  intro i j hi hj h1 h2
  rcases Nat.lt_trichotomy i j with hl | hl | hl
  · exact absurd ⟨(hs j i hj).2 h2, (hs i j hi).2 h1⟩ (ha j i hj hl)
  · exact hl
  · exact absurd ⟨(hs i j hi).2 h1, (hs j i hj).2 h2⟩ (ha i j hi hl)
theorem not_anti {n : Nat} {ps : List (Int × Int)} {W0 w : World} {B : Nat} {f : Nat → Nat} (h : Wk n ps W0 w B f) {i j : Nat} (hi : i < n) (hj : j < i) (h1 : (f i).testBit j = true) (h2 : (f j).testBit i = true) : ¬ Anti n ps := by
  intro ha
  have := ha i j hi (by omega) (h.sound i j hi h1) (h.sound j i (by omega) h2)
  omega
/-- what Close tells. -/
def CloseSays (n : Int) (ps : List (Int × Int)) (W0 : World) (e : Ending) (w' : World) : Prop :=
  Below W0.heap.size W0 w' ∧
  (((n < 1 ∨ 64 < n ∨ ¬ InR n.toNat ps) ∧ e = .returned (.tuple #[.slice none 0 0, .int .i64 1])) ∨
   ((1 ≤ n ∧ n ≤ 64 ∧ InR n.toNat ps) ∧ ¬ Anti n.toNat ps ∧ e = .returned (.tuple #[.slice none 0 0, .int .i64 9])) ∨
   ((1 ≤ n ∧ n ≤ 64 ∧ InR n.toNat ps) ∧ Anti n.toNat ps ∧ ∃ B rows, e = .returned (.tuple #[.slice (some ⟨B, 0, none⟩) n.toNat n.toNat, .int .i64 0]) ∧ W0.heap.size ≤ B ∧ Cl n.toNat ps rows ∧ w'.heap[B]? = some (.cells (nums .u64 (intsN rows)).toArray 66 (0, 0))))
set_option maxRecDepth 100000 in
set_option maxHeartbeats 4000000 in
theorem close_any (n : Nat) (A : Option Addr) (m c : Nat) (ps : List (Int × Int)) (hm : m = ps.length) (hmm : m ≤ 1000000) (h1 : 1 ≤ n) (h64 : n ≤ 64) (w : World) (hP : Prs w A ps) :
    Calls Tryz.prog 35 #[.int .i64 (n : Int), .slice A m c] w (CloseSays n ps w) := by
  have mk1 := run_make_row' (P := Tryz.prog) 22 66 (.int .u64 0) 8 under22 info23 rfl .i64 .i64 n (by omega) (by omega)
  have HP := Lib.hid hP
  have HM := Lib.hid hm
  clear hP hm
  have d1 : decide ((n : Int) < 1) = false := by simp; omega
  have d2 : decide (64 < (n : Int)) = false := by simp; omega
  go_enter Tryz.func35, Tryz.ntmps35
  go_wp2
  refine wp_scope_jumps2 0 (Jm n ps A m c w) (Mu n) rfl ?pass ?first
  case pass =>
    rintro ⟨t, d⟩ W ⟨B, f, rfl, hsz, h0, h1', h6, HIR, HW⟩
    rw [frame127 t hsz]
    simp only at h0 h1' h6
    rw [h0, h1', h6]
    clear hsz h0 h1' h6
    go_wp2_with fail
    go_loopw [68] (fun v wr => ∃ i : Nat, i ≤ n ∧ v = .int .i64 i ∧ Hid (Wk n ps w wr B f) ∧ Hid (∀ i', i' < i → ShutAt n f i')) (fun v _ => n - (intOf v).toNat)
    case atStart => exact ⟨0, by omega, rfl, HW, fun i' h => by omega⟩
    case round =>
      obtain ⟨i, hi, rfl, HR, HS⟩ := hrel
      by_cases hin : i < n
      · have ci := HR.out.row.cell hin
        have fi := HR.out.row.frozen i
        have li := HR.out.lt i hin
        obtain ⟨r, hr⟩ : ∃ r, r = f i := ⟨_, rfl⟩
        rw [← hr] at ci li
        have HR0 := Lib.hid hr
        have i1 : (0 : Int) ≤ (i : Int) := by omega
        have i2 : (i : Int) < (n : Int) := by omega
        clear hr
        go_wp2
        go_loop [12, 75] (fun g v => ∃ j : Nat, j ≤ n ∧ v = .int .i64 j ∧ g = .int .u64 ((gr f r j : Nat) : Int)) (fun _ v => n - (intOf v).toNat)
        case atStart => exact ⟨0, by omega, rfl, rfl⟩
        case round =>
          obtain ⟨j, hj, rfl, rfl⟩ := hrel
          by_cases hjn : j < n
          · have cj := HR.out.row.cell hjn
            have lj := HR.out.lt j hjn
            have lg := gr_lt li HR.out.lt j hj
            have HN1 := Lib.hid (show gr f r (j + 1) = gr f r j ||| (if r.testBit j then f j else 0) from rfl)
            obtain ⟨q, hq⟩ : ∃ q, q = f j := ⟨_, rfl⟩
            obtain ⟨g, hg⟩ : ∃ g, g = gr f r j := ⟨_, rfl⟩
            rw [← hq] at cj lj HN1
            rw [← hg] at lg HN1
            rw [← hg]
            have hor := u64_or_nat g q lg lj
            have hb1 := bit_one r j li
            have j1 : (0 : Int) ≤ (j : Int) := by omega
            have j2 : (j : Int) < (n : Int) := by omega
            clear hq hg
            cases hb : r.testBit j with
            | true =>
              rw [hb] at hb1 HN1
              clear hb
              go_wp2
              go_round
              case rel => exact ⟨j + 1, by omega, by go_num, by rw [HN1.out]; rfl⟩
              case measure => simp [intOf]; omega
            | false =>
              rw [hb] at hb1 HN1
              clear hb
              go_wp2
              go_round
              case rel => exact ⟨j + 1, by omega, by go_num, by rw [HN1.out]; simp⟩
              case measure => simp [intOf]; omega
          · obtain rfl : n = j := by omega
            have lg := gr_lt li HR.out.lt n (Nat.le_refl _)
            have HG0 := HR.out.grow hin
            have HLS := Lib.hid (fun hne => HW.out.less (k := n) (l := n) (k' := n) (l' := n) (i := i) HG0 hin hne)
            have HSH := Lib.hid (fun e : gr f (f i) n = f i => shut_of (n := n) (f := f) (i := i) e)
            have HUP := Lib.hid (fun e : gr f (f i) n = f i => upd_same (f := f) (i := i) e)
            rw [← HR0.out] at HG0 HLS HSH HUP
            have HG := Lib.hid HG0
            clear HG0
            obtain ⟨g, hg⟩ : ∃ g, g = gr f r n := ⟨_, rfl⟩
            rw [← hg] at lg HG HLS HSH HUP ⊢
            clear hg
            by_cases hne : g = r
            · subst hne
              have dn : ((g : Int) != (g : Int)) = false := by simp
              have HG2 := HG
              rw [HUP.out rfl] at HG2
              clear HG HUP HLS
              go_wp2
              go_roundw
              case rel => exact ⟨i + 1, by omega, by go_num, HG2.out, fun i' hi' => by
                by_cases e : i' = i
                · subst e
                  exact HSH.out rfl
                · exact HS.out i' (by omega)⟩
              case measure => simp [intOf]; omega
            · have dn : ((g : Int) != (r : Int)) = true := by simp; omega
              have HL2 := Lib.hid (HLS.out hne)
              clear HLS HUP HSH
              go_wp2
              go_step3
              exact ⟨rfl, ⟨B, _, rfl, rfl, rfl, rfl, rfl, HIR, HG⟩, HL2.out⟩
      · obtain rfl : n = i := by omega
        have HC := Lib.hid (fun hp : InR n ps => cl_of hp HR.out HS.out)
        have HA := Lib.hid (fun (hp : InR n ps) ha => anti_of hp HR.out HS.out ha)
        have HNA := Lib.hid (fun (i j : Nat) hi hj h1 h2 => not_anti HR.out (i := i) (j := j) hi hj h1 h2)
        clear HS
        go_wp2_with fail
        go_loop [99] (fun v => ∃ i : Nat, i ≤ n ∧ v = .int .i64 i ∧ Hid (Apt f i)) (fun v => n - (intOf v).toNat)
        case atStart => exact ⟨0, by omega, rfl, fun a b h => by omega⟩
        case round =>
          obtain ⟨i, hi, rfl, HAP⟩ := hrel
          by_cases hin : i < n
          · have ci := HR.out.row.cell hin
            have li := HR.out.lt i hin
            have i1 : (0 : Int) ≤ (i : Int) := by omega
            have i2 : (i : Int) < (n : Int) := by omega
            go_wp2_with fail
            go_loop [103] (fun v => ∃ j : Nat, j ≤ i ∧ v = .int .i64 j ∧ Hid (Apu f i j)) (fun v => n - (intOf v).toNat)
            case atStart => exact ⟨0, by omega, rfl, fun b h => by omega⟩
            case round =>
              obtain ⟨j, hj, rfl, HAU⟩ := hrel
              by_cases hjn : j < i
              · have cj := HR.out.row.cell (i := j) (by omega)
                have lj := HR.out.lt j (by omega)
                have HNA2 := Lib.hid (fun h1 h2 => HNA.out i j hin hjn h1 h2)
                have HAN := Lib.hid (fun h => HAU.out.next (j := j) h)
                obtain ⟨p, hp⟩ : ∃ p, p = f i := ⟨_, rfl⟩
                obtain ⟨q, hq⟩ : ∃ q, q = f j := ⟨_, rfl⟩
                rw [← hp, ← hq] at HNA2 HAN
                rw [← hp] at ci li
                rw [← hq] at cj lj
                clear hp hq
                have hb1 := bit_one p j li
                have hb2 := bit_one q i lj
                have j1 : (0 : Int) ≤ (j : Int) := by omega
                have j2 : (j : Int) < (n : Int) := by omega
                cases e1 : p.testBit j with
                | false =>
                  rw [e1] at hb1 HAN
                  clear e1 HNA2
                  go_wp2
                  go_round
                  case rel => exact ⟨j + 1, by omega, by go_num, HAN.out (by simp)⟩
                  case measure => simp [intOf]; omega
                | true =>
                  cases e2 : q.testBit i with
                  | false =>
                    rw [e1] at hb1
                    rw [e2] at hb2 HAN
                    clear e1 e2 HNA2
                    go_wp2
                    go_round
                    case rel => exact ⟨j + 1, by omega, by go_num, HAN.out (by simp)⟩
                    case measure => simp [intOf]; omega
                  | true =>
                    have HN := Lib.hid (HNA2.out e1 e2)
                    rw [e1] at hb1
                    rw [e2] at hb2
                    clear e1 e2 HAN HNA2
                    go_wp2
                    simp only [Exit.jump]
                    go_ret2
                    exact ⟨HR.out.below, .inr (.inl ⟨⟨by omega, by omega, HIR.out⟩, HN.out, rfl⟩)⟩
              · obtain rfl : i = j := by omega
                clear ci li
                go_wp2
                go_round
                case rel => exact ⟨i + 1, by omega, by go_num, HAP.out.next HAU.out⟩
                case measure => simp [intOf]; omega
          · obtain rfl : n = i := by omega
            go_wp2_with fail
            simp only [Exit.jump]
            go_ret2
            exact ⟨HR.out.below, .inr (.inr ⟨⟨by omega, by omega, HIR.out⟩, HA.out HIR.out HAP.out, B, _, rfl, HR.out.new, HC.out HIR.out, row_block HR.out.row⟩)⟩
  case first =>
    intro hpass
    have HPS := Lib.hid hpass
    clear hpass
    have HR0 := Lib.hid (World.rowIs_made w (.int .u64 0) n 66)
    have HB0 := Lib.hid ((Below.refl w.heap.size w).alloc (Nat.le_refl _) (.cells (madeCells #[.int .u64 0] n) 66))
    go_wp2
    obtain ⟨B, hB⟩ : ∃ B, B = w.heap.size := ⟨_, rfl⟩
    rw [← hB] at HR0
    rw [← hB]
    have HBB := Lib.hid (show w.heap.size ≤ B by rw [hB]; exact Nat.le_refl _)
    clear hB
    generalize w.alloc (.cells (madeCells #[.int .u64 0] n) 66) = w0 at *
    go_loopw [25] (fun v wr => ∃ i : Nat, i ≤ n ∧ v = .int .i64 i ∧ Hid (wr.rowIs B 66 n (fun j => .int .u64 ((ones j i : Nat) : Int))) ∧ Hid (Below w.heap.size w wr)) (fun v _ => n - (intOf v).toNat)
    case atStart => exact ⟨0, by omega, rfl, HR0, HB0⟩
    case round =>
      clear HR0 HB0
      obtain ⟨i, hi, rfl, HR, HB⟩ := hrel
      by_cases hin : i < n
      · have ci := HR.out.cell hin
        have fi := HR.out.frozen i
        have hp := pow_wrap i (by omega)
        have i1 : (0 : Int) ≤ (i : Int) := by omega
        have i2 : (i : Int) < (n : Int) := by omega
        have HS := Lib.hid ((HR.out.set i (.int .u64 ((2 ^ i : Nat) : Int))).congr (ones_next i))
        have HB1 := Lib.hid (HB.out.setCell (p := ⟨B, i, none⟩) HBB.out (.int .u64 ((2 ^ i : Nat) : Int)))
        go_wp2
        go_roundw
        case rel => exact ⟨i + 1, by omega, by go_num, HS.out, HB1.out⟩
        case measure => simp [intOf]; omega
      · obtain rfl : n = i := by omega
        have HPR0 := Lib.hid (pre_zero (ps := ps) h64 HR.out HBB.out HB.out)
        clear HR HB HBB
        go_wp2_with fail
        go_loopw [36] (fun v wr => ∃ (k : Nat) (f : Nat → Nat), k ≤ m ∧ v = .int .i64 k ∧ Hid (Pre n ps k w wr B f)) (fun v _ => m - (intOf v).toNat)
        case atStart => exact ⟨0, _, by omega, rfl, HPR0⟩
        case round =>
          clear HPR0
          obtain ⟨k, f, hk, rfl, HR⟩ := hrel
          by_cases hkm : k < m
          · have hkl : k < ps.length := by rw [← HM.out]; exact hkm
            obtain ⟨b, o, rfl, c0, c1, l0, l1⟩ := (HP.out.below HR.out.below) k hkl
            obtain ⟨x, hx⟩ : ∃ x, x = ps[k].1 := ⟨_, rfl⟩
            obtain ⟨y, hy⟩ : ∃ y, y = ps[k].2 := ⟨_, rfl⟩
            have HXY := Lib.hid (show ps[k] = (x, y) by rw [hx, hy])
            rw [← hx] at c0 l0
            rw [← hy] at c1 l1
            clear hx hy
            have i1 : (0 : Int) ≤ (k : Int) := by omega
            have i2 : (k : Int) < (m : Int) := by omega
            by_cases hin : (0 ≤ x ∧ x < n) ∧ (0 ≤ y ∧ y < n)
            · obtain ⟨⟨x0, x1⟩, y0, y1⟩ := hin
              obtain ⟨x, rfl⟩ := Int.eq_ofNat_of_zero_le x0
              obtain ⟨y, rfl⟩ := Int.eq_ofNat_of_zero_le y0
              have x2 : x < n := by omega
              have y2 : y < n := by omega
              have HRN := Lib.hid (fun w' hr hb => HR.out.next h64 hkl x y x2 y2 HXY.out (w' := w') hr hb)
              have HROW := Lib.hid (HR.out.row.alloc (.cells #[.int .i64 (x : Int), .int .i64 (y : Int)] 118))
              have HBL := Lib.hid (HR.out.below.alloc HR.out.below.size (.cells #[.int .i64 (x : Int), .int .i64 (y : Int)] 118))
              have HNEW := Lib.hid HR.out.new
              have hr := HR.out.lt x x2
              have hB := two_cells wr (.int .i64 (x : Int)) (.int .i64 (y : Int)) 118
              clear HR
              have e0 : (wr.alloc (.cells #[.int .i64 (x : Int), .int .i64 (y : Int)] 118)).cell? ⟨wr.heap.size, 0, none⟩ = some (.int .i64 (x : Int)) := by rw [cell_of_row _ _ _ _ _ _ hB]; rfl
              have e1 : (wr.alloc (.cells #[.int .i64 (x : Int), .int .i64 (y : Int)] 118)).cell? ⟨wr.heap.size, 1, none⟩ = some (.int .i64 (y : Int)) := by rw [cell_of_row _ _ _ _ _ _ hB]; rfl
              have cx := HROW.out.cell x2
              have fx := HROW.out.frozen x
              have HOR := Lib.hid (show ∀ r : Nat, r < 18446744073709551616 → bits .or .u64 (r : Int) ((2 ^ y : Nat) : Int) = ((r ||| 2 ^ y : Nat) : Int) from fun r h => u64_or_nat r (2 ^ y) h (by rw [show 18446744073709551616 = 2 ^ 64 from rfl]; exact Nat.pow_lt_pow_right (by omega) (by omega)))
              have hpw := pow_wrap y (by omega)
              have HCL := Lib.hid (c0 : wr.cell? ⟨b, o + k * 2, none⟩ = some (.int .i64 (x : Int)))
              have HCL1 := Lib.hid (c1 : wr.cell? ⟨b, o + k * 2 + 1, none⟩ = some (.int .i64 (y : Int)))
              have HS := Lib.hid (HROW.out.set x (.int .u64 ((f x ||| 2 ^ y : Nat) : Int)))
              have HB1 := Lib.hid (HBL.out.setCell (p := ⟨B, x, none⟩) HNEW.out (.int .u64 ((f x ||| 2 ^ y : Nat) : Int)))
              clear hB
              obtain ⟨r, hr'⟩ : ∃ r, r = f x := ⟨_, rfl⟩
              rw [← hr'] at hr cx HRN HS HB1
              have hor := HOR.out r hr
              rw [← hpw] at hor
              have HR' := Lib.hid hr'
              clear hr' hpw
              have HX := Lib.hid (fun w' hb hr => (HRN.out w' (World.rowIs.congr hr (upd_row f x _)) hb))
              by_cases hxy : x < y
              · have nxy : ¬ y < x := by omega
                go_wp2_with fail
                go_region
                all_goals
                  go_wp2
                  go_roundw
                  case rel => exact ⟨k + 1, _, by omega, by go_num, Lib.hid (HX.out _ HB1.out.drew HS.out.drew)⟩
                  case measure => simp [intOf]; omega
              · by_cases hyx : y < x
                · go_wp2_with fail
                  go_region
                  all_goals
                    go_wp2
                    go_roundw
                    case rel => exact ⟨k + 1, _, by omega, by go_num, Lib.hid (HX.out _ HB1.out.drew HS.out.drew)⟩
                    case measure => simp [intOf]; omega
                · go_wp2_with fail
                  go_region
                  all_goals
                    go_wp2
                    go_roundw
                    case rel => exact ⟨k + 1, _, by omega, by go_num, Lib.hid (HX.out _ HB1.out.drew HS.out.drew)⟩
                    case measure => simp [intOf]; omega
            · have HNI := Lib.hid (not_inr hkl HXY.out hin)
              go_wp2_with fail
              all_goals first
                | (exfalso
                   omega)
                | (simp only [Exit.jump]
                   go_ret2
                   exact ⟨HR.out.below.alloc HR.out.below.size _, .inl ⟨.inr (.inr HNI.out), rfl⟩⟩)
          · obtain rfl : m = k := by omega
            have HWK := Lib.hid (HR.out.wk HM.out)
            clear HR
            go_wp2_with fail
            go_step3
            rename_i hKK
            exact hKK _ _ (HPS.out _ _ ⟨B, f, rfl, rfl, rfl, rfl, rfl, HWK.out.1, HWK.out.2⟩)
end Go.Proofs.YtajilghlcfheiaaGreatDoor.Ord
