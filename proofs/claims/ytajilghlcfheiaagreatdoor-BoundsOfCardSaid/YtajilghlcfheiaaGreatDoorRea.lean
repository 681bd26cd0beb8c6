/- Who reaches whom (plain, no program in sight): Warshall's rounds over a matrix, and their four laws: each itself; on; the edges; the least. -/
import Derived.Test.YtajilghlcfheiaaGreatDoorWWords
import Derived.Test.YtajilghlcfheiaaGreatDoorProg
import Derived.WalkKit
import Derived.Outline
import Derived.Lib.Hide
import Derived.KernelRfl
import Derived.WalkSpells
import Derived.WalkLawsBesides
import Derived.Laws.Rows
import Derived.Laws.Tables
import Derived.Laws.CopyOwn
import Derived.Laws.EntriesVeiled
import Derived.Deep.MidRow
import Derived.Deep.OwnRows
import Derived.Laws.IdiomCopy
import Derived.Deep.RegionWith
import Derived.Deep.RegionLaw
import Derived.Great.Frames
import Derived.Deep.RegionHeld3
import Derived.Deep.Slices
import Derived.ChangeSame
import Derived.ProofKit
import Derived.Laws.AppendOwn
import Derived.Below
set_option maxRecDepth 20000
namespace Go.Proofs.YtajilghlcfheiaaGreatDoor.Rea
/-- a matrix behind the round of the midst k. -/
def mid (k : Nat) (M : Nat → Nat → Bool) : Nat → Nat → Bool := fun i j => M i j || (M i k && M k j)
/-- behind the rounds of 0 .. k - 1. -/
def war (M : Nat → Nat → Bool) : Nat → Nat → Nat → Bool
  | 0 => M
  | k + 1 => mid k (war M k)
theorem mid_row (k : Nat) (M : Nat → Nat → Bool) (j : Nat) : mid k M k j = M k j := by
  unfold mid; cases M k j <;> simp
theorem mid_col (k : Nat) (M : Nat → Nat → Bool) (i : Nat) : mid k M i k = M i k := by
  unfold mid; cases M i k <;> simp
theorem war_more (M : Nat → Nat → Bool) : ∀ k i j, M i j = true → war M k i j = true
  | 0, _, _, h => h
  | k + 1, i, j, h => by simp [war, mid, war_more M k i j h]
theorem war_on (M : Nat → Nat → Bool) : ∀ k m, m < k → ∀ i j, war M k i m = true → war M k m j = true → war M k i j = true
  | k + 1, m, hm, i, j, h1, h2 => by
    by_cases e : m = k
    · subst e
      have h1' : war M m i m = true := by rw [← mid_col m (war M m) i]; exact h1
      have h2' : war M m m j = true := by rw [← mid_row m (war M m) j]; exact h2
      simp [war, mid, h1', h2']
    · have hk : m < k := by omega
      simp only [war, mid, Bool.or_eq_true, Bool.and_eq_true] at h1 h2 ⊢
      rcases h1 with h1 | ⟨h1, h1'⟩ <;> rcases h2 with h2 | ⟨h2, h2'⟩
      · exact .inl (war_on M k m hk i j h1 h2)
      · exact .inr ⟨war_on M k m hk i k h1 h2, h2'⟩
      · exact .inr ⟨h1, war_on M k m hk k j h1' h2⟩
      · exact .inr ⟨h1, h2'⟩
theorem war_least (M : Nat → Nat → Bool) (R : Nat → Nat → Prop) (h0 : ∀ i j, M i j = true → R i j) (hR : ∀ i j k, R i j → R j k → R i k) : ∀ k i j, war M k i j = true → R i j
  | 0, i, j, h => h0 i j h
  | k + 1, i, j, h => by
    simp only [war, mid, Bool.or_eq_true, Bool.and_eq_true] at h
    rcases h with h | ⟨h, h'⟩
    · exact war_least M R h0 hR k i j h
    · exact hR i k j (war_least M R h0 hR k i k h) (war_least M R h0 hR k k j h')
/-- a bound: is its lower side a variable, which number; is its upper side one, which number. -/
structure Bd where
  av : Bool
  an : Nat
  bv : Bool
  bn : Nat
deriving DecidableEq
def Bd.edge (b : Bd) (i j : Nat) : Bool := b.av && b.bv && b.an == i && b.bn == j
/-- may it be, among so many variables? -/
def Bd.ok (n : Nat) (b : Bd) : Bool := !(b.av && decide (n ≤ b.an)) && !(b.bv && decide (n ≤ b.bn))
def start (L : List Bd) (i j : Nat) : Bool := i == j || L.any (fun b => b.edge i j)
def reach (n : Nat) (L : List Bd) : Nat → Nat → Bool := war (start L) n
theorem reach_self (n : Nat) (L : List Bd) (i : Nat) : reach n L i i = true := war_more _ _ _ _ (by simp [start])
theorem reach_on (n : Nat) (L : List Bd) (i m j : Nat) (hm : m < n) (h1 : reach n L i m = true) (h2 : reach n L m j = true) : reach n L i j = true := war_on _ n m hm i j h1 h2
theorem reach_edge (n : Nat) (L : List Bd) (b : Bd) (hb : b ∈ L) (ha : b.av = true) (hv : b.bv = true) : reach n L b.an b.bn = true :=
  war_more _ _ _ _ (by simp only [start, Bool.or_eq_true, List.any_eq_true]; exact .inr ⟨b, hb, by simp [Bd.edge, ha, hv]⟩)
theorem start_cases {L : List Bd} {i j : Nat} (h : start L i j = true) : i = j ∨ ∃ b ∈ L, b.av = true ∧ b.bv = true ∧ b.an = i ∧ b.bn = j := by
  simp only [start, Bool.or_eq_true, beq_iff_eq, List.any_eq_true, Bd.edge, Bool.and_eq_true] at h
  rcases h with h | ⟨b, hb, ⟨⟨h1, h2⟩, h3⟩, h4⟩
  · exact .inl h
  · exact .inr ⟨b, hb, h1, h2, h3, h4⟩
theorem reach_least (n : Nat) (L : List Bd) (R : Nat → Nat → Prop) (hr : ∀ i, R i i) (he : ∀ b ∈ L, b.av = true → b.bv = true → R b.an b.bn) (hR : ∀ i j k, R i j → R j k → R i k) (i j : Nat) (h : reach n L i j = true) : R i j :=
  war_least _ R (fun i j h => by
    rcases start_cases h with rfl | ⟨b, hb, h1, h2, rfl, rfl⟩
    · exact hr i
    · exact he b hb h1 h2) hR n i j h
/-- where all bounds may be, whatever one reaches a bound leads out of it to one that reaches that. -/
theorem reach_first (n : Nat) (L : List Bd) (hok : ∀ b ∈ L, b.ok n = true) (i j : Nat) (h : reach n L i j = true) : i = j ∨ ∃ b ∈ L, b.av = true ∧ b.bv = true ∧ b.an = i ∧ b.bn < n ∧ reach n L b.bn j = true := by
  refine (reach_least n L (fun i j => reach n L i j = true ∧ (i = j ∨ ∃ b ∈ L, b.av = true ∧ b.bv = true ∧ b.an = i ∧ b.bn < n ∧ reach n L b.bn j = true) ∧ (i = j ∨ j < n)) ?_ ?_ ?_ i j h).2.1
  · exact fun i => ⟨reach_self n L i, .inl rfl, .inl rfl⟩
  · intro b hb h1 h2
    have hn : b.bn < n := by
      have := hok b hb
      simp [Bd.ok, h2] at this
      omega
    exact ⟨reach_edge n L b hb h1 h2, .inr ⟨b, hb, h1, h2, rfl, hn, reach_self n L _⟩, .inr hn⟩
  · rintro i j k ⟨h1, h2, h3⟩ ⟨k1, k2, k3⟩
    rcases h3 with rfl | h3
    · exact ⟨k1, k2, k3⟩
    · refine ⟨reach_on n L i j k h3 h1 k1, ?_, ?_⟩
      · rcases h2 with rfl | ⟨b, hb, e1, e2, e3, e4, e5⟩
        · exact k2
        · exact .inr ⟨b, hb, e1, e2, e3, e4, reach_on n L _ j k h3 e5 k1⟩
      · rcases k3 with rfl | k3
        · exact .inr h3
        · exact .inr k3
/-- the same edges, the same answers. -/
theorem start_congr {L K : List Bd} (h : ∀ b, b.av = true → b.bv = true → (b ∈ L ↔ b ∈ K)) : start L = start K := by
  funext i j
  unfold start
  congr 1
  rw [Bool.eq_iff_iff, List.any_eq_true, List.any_eq_true]
  constructor
  all_goals
    rintro ⟨b, hb, e⟩
    have e' := e
    simp only [Bd.edge, Bool.and_eq_true] at e
    first
      | exact ⟨b, (h b e.1.1.1 e.1.1.2).1 hb, e'⟩
      | exact ⟨b, (h b e.1.1.1 e.1.1.2).2 hb, e'⟩
theorem reach_congr {L K : List Bd} (n : Nat) (h : ∀ b, b.av = true → b.bv = true → (b ∈ L ↔ b ∈ K)) : reach n L = reach n K := by
  unfold reach
  rw [start_congr h]
/-- more bounds, more answers. -/
theorem reach_mono {L K : List Bd} (n : Nat) (hK : ∀ b ∈ K, b.ok n = true) (h : ∀ b ∈ L, b ∈ K) (i j : Nat) (hr : reach n L i j = true) : reach n K i j = true := by
  refine (reach_least n L (fun i j => reach n K i j = true ∧ (i = j ∨ j < n)) (fun i => ⟨reach_self n K i, .inl rfl⟩) (fun b hb h1 h2 => ⟨reach_edge n K b (h b hb) h1 h2, .inr ?_⟩) ?_ i j hr).1
  · have := hK b (h b hb)
    simp [Bd.ok, h2] at this
    omega
  · rintro i j k ⟨h1, h2⟩ ⟨k1, k2⟩
    rcases h2 with rfl | h2
    · exact ⟨k1, k2⟩
    · exact ⟨reach_on n K i j k h2 h1 k1, by rcases k2 with rfl | k2; exact .inr h2; exact .inr k2⟩
/-- a bound that is known already adds nothing. -/
theorem reach_known {L : List Bd} (n : Nat) (b : Bd) (hK : ∀ c ∈ L ++ [b], c.ok n = true) (hb : b.av = true → b.bv = true → reach n L b.an b.bn = true) (i j : Nat) (hr : reach n (L ++ [b]) i j = true) : reach n L i j = true := by
  refine (reach_least n (L ++ [b]) (fun i j => reach n L i j = true ∧ (i = j ∨ j < n)) (fun i => ⟨reach_self n L i, .inl rfl⟩) (fun c hc h1 h2 => ⟨?_, .inr ?_⟩) ?_ i j hr).1
  · rcases List.mem_append.1 hc with h | h
    · exact reach_edge n L c h h1 h2
    · simp at h
      subst h
      exact hb h1 h2
  · have := hK c hc
    simp [Bd.ok, h2] at this
    omega
  · rintro i j k ⟨h1, h2⟩ ⟨k1, k2⟩
    rcases h2 with rfl | h2
    · exact ⟨k1, k2⟩
    · exact ⟨reach_on n L i j k h2 h1 k1, by rcases k2 with rfl | k2; exact .inr h2; exact .inr k2⟩
end Go.Proofs.YtajilghlcfheiaaGreatDoor.Rea
/- A row of 64 with another one (reaches.row.and): its contract; and what a bound's side is (reaches.none). -/
namespace Go.Proofs.YtajilghlcfheiaaGreatDoor.Rea
open Go.RowKit
theorem ret_bool {b c : Bool} (h : b = c) : Ending.returned (.bool b) = .returned (.bool c) := by rw [h]
/-- one call's world behind another one's. -/
theorem on {a b c : World} (h : Below a.heap.size a b) (k : Below b.heap.size b c) : Below a.heap.size a c := h.trans (k.mono h.size)
theorem alloc_size (w : World) (o : Obj) : (w.alloc o).heap.size = w.heap.size + 1 := Array.size_push ..
/-- so many bools, as cells. -/
def bl (n : Nat) (f : Nat → Bool) : List Value := (List.range n).map fun j => .bool (f j)
theorem bl_length (n : Nat) (f : Nat → Bool) : (bl n f).length = n := by simp [bl]
theorem bl_get (n : Nat) (f : Nat → Bool) (j : Nat) (hj : j < n) : (bl n f)[j]? = some (.bool (f j)) := by simp [bl, hj]
def row (f : Nat → Bool) : Array Value := (bl 64 f).toArray
theorem row_size (f : Nat → Bool) : (row f).size = 64 := by simp [row, bl_length]
theorem row_get (f : Nat → Bool) (j : Nat) (hj : j < 64) : (row f)[j]? = some (.bool (f j)) := by simp [row, bl_get _ f j hj]
def zr : Array Value := Array.replicate 64 (.bool false)
theorem zr_size : zr.size = 64 := by simp [zr]
theorem zero41 (w : World) : (zeroValue 121).run Tryz.prog w = .ok (.agg zr) w := by kernel_rfl
theorem size41 : (Tryz.prog.info? 121).map (·.size) = some 64 := by kernel_rfl
theorem under41 : Tryz.prog.underlying 121 = some (.array 64 4) := by kernel_rfl
theorem row_one (f : Nat → Bool) : (row f).all (·.oneCell') = true := all_oneCell_toArray (by intro v hv; simp [bl] at hv; obtain ⟨a, _, rfl⟩ := hv; rfl)
theorem row_is {w : World} {g : Nat} {f : Nat → Bool} (h : w.heap[g]? = some (.cells (row f) 121 (0, 0))) : w.rowIs g 121 64 (fun j => .bool (f j)) := ⟨row f, h, row_size f, fun i hi => row_get f i hi⟩
theorem is_row {w : World} {g : Nat} {f : Nat → Bool} (h : w.rowIs g 121 64 (fun j => .bool (f j))) : w.heap[g]? = some (.cells (row f) 121 (0, 0)) := by
  obtain ⟨c, h1, h2, h3⟩ := h
  rw [h1]
  congr 2
  apply Array.ext_getElem?
  intro i
  by_cases hi : i < 64
  · rw [h3 i hi, row_get f i hi]
  · rw [Array.getElem?_eq_none (by omega), Array.getElem?_eq_none (by rw [row_size]; omega)]
theorem info4 : (Tryz.prog.info? 4).map (·.size) = some 1 := by kernel_rfl
theorem under4 : Tryz.prog.underlying 4 = some .bool := by kernel_rfl
theorem index_row {w : World} {cs : Array Value} {k : Nat} {b : Bool} (hk : k < 64) (h : cs[k]? = some (.bool b)) : (Instr.index 121 (.agg cs) (.int .i64 (k : Int))).run Tryz.prog w = .ok (.bool b) w := by
  obtain ⟨i, hi, hs⟩ := Option.map_eq_some_iff.1 info4
  have h1 : (0 : Int) ≤ (k : Int) ∧ (k : Int) < ((64 : Nat) : Int) := ⟨by omega, by omega⟩
  simp [Instr.index, run_underlying under41, asIntOf, h1, sizeOf, typeInfo, hi, hs, part, isAgg, run_underlying under4, h, go_sem]
  intro hc
  omega
theorem step_row {w : World} {g k : Nat} {f h : Nat → Bool} {b : Bool} (H : w.rowIs g 121 64 (fun j => .bool (if j < k then f j || h j else f j))) (hb : (f k || h k) = b) : (w.setCell ⟨g, k, none⟩ (.bool b)).rowIs g 121 64 (fun j => .bool (if j < k + 1 then f j || h j else f j)) :=
  (H.set k (.bool b)).congr (by
    intro j _
    by_cases e : j = k
    · subst e
      simp [hb]
    · rw [if_neg e]
      by_cases e2 : j < k
      · rw [if_pos e2, if_pos (by omega)]
      · rw [if_neg e2, if_neg (by omega)])
theorem other_set {w : World} {g b o : Nat} {t : TypeId} {v : Value} (h : ∃ c : Array Value, w.heap[g]? = some (.cells c t (0, 0)) ∧ c.size = 64) (hg : g ≠ b) : ∃ c : Array Value, (w.setCell ⟨b, o, none⟩ v).heap[g]? = some (.cells c t (0, 0)) ∧ c.size = 64 := by
  obtain ⟨c, h1, h2⟩ := h
  exact ⟨c, (Deep.blk_setCell_other _ _ _ _ hg).trans h1, h2⟩
theorem second (w : World) (a b c : Obj) : (((w.alloc a).alloc b).alloc c).heap[w.heap.size + 1]? = some b := by
  rw [Below.heap_alloc _ _ _ (by rw [alloc_size, alloc_size]; omega), ← alloc_size w a]
  exact heap_alloc_new _ _
theorem first_ (w : World) (a b c : Obj) : (((w.alloc a).alloc b).alloc c).heap[w.heap.size]? = some a := by
  rw [Below.heap_alloc _ _ _ (by rw [alloc_size, alloc_size]; omega), Below.heap_alloc _ _ _ (by rw [alloc_size]; omega)]
  exact heap_alloc_new _ _
theorem third (w : World) (a b c : Obj) : (((w.alloc a).alloc b).alloc c).heap[w.heap.size + 1 + 1]? = some c := by
  rw [← alloc_size w a, ← alloc_size (w.alloc a) b]
  exact heap_alloc_new _ _
theorem below3 (w : World) (a b c : Obj) : Below w.heap.size w (((w.alloc a).alloc b).alloc c) :=
  (((Below.refl _ w).alloc (Nat.le_refl _) _).alloc (by rw [alloc_size]; omega) _).alloc (by rw [alloc_size, alloc_size]; omega) _
set_option maxRecDepth 100000 in
set_option maxHeartbeats 1000000 in
theorem and_any (f g : Nat → Bool) (w : World) : Calls Tryz.prog 115 #[.agg (row f), .agg (row g)] w fun e w' => e = .returned (.agg (row fun j => f j || g j)) ∧ Below w.heap.size w w' := by
  obtain ⟨x, hx⟩ : ∃ x, x = row f := ⟨_, rfl⟩
  obtain ⟨y, hy⟩ : ∃ y, y = row g := ⟨_, rfl⟩
  have SZ := Lib.hid (show (Tryz.prog.info? 121).map (·.size) = some x.size by rw [hx, row_size]; exact size41)
  have SY := Lib.hid (show (Tryz.prog.info? 121).map (·.size) = some y.size by rw [hy, row_size]; exact size41)
  have ON := Lib.hid (show x.all (·.oneCell') = true by rw [hx]; exact row_one f)
  rw [← hx, ← hy]
  have HX := Lib.hid hx
  have HY := Lib.hid hy
  clear hx hy
  go_enter Tryz.func115, Tryz.ntmps115
  go_wp2_with (refine wpList_load_row rfl 121 _ rfl (w.heap.size + 1) rfl 121 y (0, 0) _ (second w _ _ _) under41 rfl SY.out ?_)
  generalize hw1 : (((w.alloc _).alloc _).alloc _) = w1
  have H1 := Lib.hid (show w1.rowIs w.heap.size 121 64 (fun j => .bool (f j)) by rw [← hw1]; exact row_is (by rw [first_, HX.out]))
  have H3 := Lib.hid (show ∃ o : Array Value, w1.heap[w.heap.size + 1 + 1]? = some (.cells o 121 (0, 0)) ∧ o.size = 64 by rw [← hw1]; exact ⟨_, third _ _ _ _, rfl⟩)
  have HB := Lib.hid (show Below w.heap.size w w1 by rw [← hw1]; exact below3 _ _ _ _)
  clear hw1
  go_loopw [8] (fun i wr => ∃ k : Nat, k ≤ 64 ∧ i = .int .i64 k ∧ Hid (wr.rowIs w.heap.size 121 64 (fun j => .bool (if j < k then f j || g j else f j))) ∧ Hid (∃ o : Array Value, wr.heap[w.heap.size + 1 + 1]? = some (.cells o 121 (0, 0)) ∧ o.size = 64) ∧ Hid (Below w.heap.size w wr)) (fun i _ => 64 - (intOf i).toNat)
  case atStart => exact ⟨0, by omega, rfl, H1.out.congr (by intro i _; simp), H3.out, HB.out⟩
  case round =>
    clear H1 H3 HB
    obtain ⟨k, hk, rfl, H1, H3, HB⟩ := hrel
    by_cases hlt : k < 64
    · have c1 : wr.cell? ⟨w.heap.size, k, none⟩ = some (.bool (f k)) := by have := H1.out.cell hlt; simpa using this
      have f1 := H1.out.frozen k
      have yk : y[k]? = some (.bool (g k)) := by rw [HY.out]; exact row_get g k hlt
      have yi := fun w => index_row (w := w) hlt yk
      obtain ⟨p, hp⟩ : ∃ p, p = f k := ⟨_, rfl⟩
      obtain ⟨q, hq⟩ : ∃ q, q = g k := ⟨_, rfl⟩
      rw [← hp] at c1
      rw [← hq] at yk yi
      have HP := Lib.hid hp
      have HQ := Lib.hid hq
      clear hp hq
      cases p with
      | false =>
        go_wp2
        go_roundw
        case rel => exact ⟨k + 1, by omega, by go_num, step_row H1.out (by rw [← HP.out, ← HQ.out]; rfl), other_set H3.out (by omega), HB.out.setCell (Nat.le_refl _) _⟩
        case measure => simp [intOf]; omega
      | true =>
        go_wp2
        go_roundw
        case rel => exact ⟨k + 1, by omega, by go_num, step_row H1.out (by rw [← HP.out]; rfl), other_set H3.out (by omega), HB.out.setCell (Nat.le_refl _) _⟩
        case measure => simp [intOf]; omega
    · obtain rfl : k = 64 := by omega
      obtain ⟨r, hr⟩ : ∃ r, r = row (fun j => f j || g j) := ⟨_, rfl⟩
      have HR := Lib.hid (show wr.heap[w.heap.size]? = some (.cells r 121 (0, 0)) by rw [hr]; exact is_row (H1.out.congr (by intro i hi; simp [hi])))
      have SR := Lib.hid (show (Tryz.prog.info? 121).map (·.size) = some r.size by rw [hr, row_size]; exact size41)
      have OR := Lib.hid (show r.all (·.oneCell') = true by rw [hr]; exact row_one _)
      obtain ⟨o, ho, so⟩ := H3.out
      have HO := Lib.hid ho
      have SO := Lib.hid (show o.size = r.size by rw [hr, row_size, so])
      have HRR := Lib.hid hr
      clear hr ho so
      go_wp2_with (first | (refine wpList_load_row rfl 121 _ rfl w.heap.size rfl 121 r (0, 0) _ HR.out under41 rfl SR.out ?_) | (refine wpList_store_row rfl 121 _ _ rfl (w.heap.size + 1 + 1) r rfl rfl 121 o HO.out SR.out SO.out OR.out ?_))
      refine bodyPost_ret_by (v := .agg r) ?_ rfl ?_
      · exact results_cell_row (p := 4) (ty := 121) rfl _ _ (w.heap.size + 1 + 1) 121 r (0, 0) _ rfl (setRow_heap _ _ _ _ _ _ HO.out) under41 rfl SR.out
      · exact ⟨by rw [HRR.out], below_setRow HB.out (by omega) _⟩
end Go.Proofs.YtajilghlcfheiaaGreatDoor.Rea
/- reaches.none; rows of bools, and where bounds lie. -/
namespace Go.Proofs.YtajilghlcfheiaaGreatDoor.Rea
open Go.RowKit
theorem none_any (v : Bool) (n vars : Nat) (hv : vars ≤ 64) (_hn : n < 18446744073709551616) (w : World) : Calls Tryz.prog 114 #[.agg #[.bool v, .int .u64 (n : Int)], .int .i64 (vars : Int)] w fun e w' => e = .returned (.bool (v && decide (vars ≤ n))) ∧ Below w.heap.size w w' := by
  have hd : decide ((vars : Int) ≤ (n : Int)) = decide (vars ≤ n) := by simp
  cases v with
  | false =>
    go_enter Tryz.func114, Tryz.ntmps114
    go_wp2
    go_ret
    exact ⟨rfl, (Below.refl _ w).alloc (Nat.le_refl _) _⟩
  | true =>
    go_enter Tryz.func114, Tryz.ntmps114
    go_wp2
    go_ret
    exact ⟨rfl, (Below.refl _ w).alloc (Nat.le_refl _) _⟩
/-- the bounds of a list, where they lie: each has four cells. -/
def Bds (w : World) (a : Option Addr) (L : List Bd) : Prop :=
  ∀ k (hk : k < L.length), ∃ b o, a = some ⟨b, o, none⟩ ∧ w.cell? ⟨b, o + k * 4, none⟩ = some (.bool L[k].av) ∧ w.cell? ⟨b, o + k * 4 + 1, none⟩ = some (.int .u64 (L[k].an : Int)) ∧ w.cell? ⟨b, o + k * 4 + 2, none⟩ = some (.bool L[k].bv) ∧ w.cell? ⟨b, o + k * 4 + 3, none⟩ = some (.int .u64 (L[k].bn : Int)) ∧ L[k].an < 18446744073709551616 ∧ L[k].bn < 18446744073709551616
theorem Bds.below {w w' : World} {a : Option Addr} {L : List Bd} (h : Bds w a L) (hb : Below w.heap.size w w') : Bds w' a L := by
  intro k hk
  obtain ⟨b, o, e, c0, c1, c2, c3, l1, l2⟩ := h k hk
  have hlt := World.block_lt_of_cell? w _ c0
  exact ⟨b, o, e, (hb.cell (p := ⟨b, o + k * 4, none⟩) hlt).trans c0, (hb.cell (p := ⟨b, o + k * 4 + 1, none⟩) hlt).trans c1, (hb.cell (p := ⟨b, o + k * 4 + 2, none⟩) hlt).trans c2, (hb.cell (p := ⟨b, o + k * 4 + 3, none⟩) hlt).trans c3, l1, l2⟩
def zs : Array Value := Array.replicate 4096 (.bool false)
theorem zero42 (w : World) : (zeroValue 122).run Tryz.prog w = .ok (.agg zs) w := by kernel_rfl
theorem zs_get (i : Nat) (h : i < 4096) : zs[i]? = some (.bool false) := by simp [zs, h]
theorem zs_size : zs.size = 4096 := by simp [zs]
/-- the program's 64 rows of 64, of which the first n are a matrix's. -/
def Mat (w : World) (R n : Nat) (M : Nat → Nat → Bool) : Prop := n ≤ 64 ∧ ∃ F : Nat → Bool, w.rowIs R 122 4096 (fun k => .bool (F k)) ∧ ∀ i j, i < n → j < 64 → F (i * 64 + j) = M i j
namespace Mat
variable {w w' : World} {R n : Nat} {M N : Nat → Nat → Bool}
theorem congr (h : Mat w R n M) (e : ∀ i j, i < n → j < 64 → M i j = N i j) : Mat w R n N := by
  obtain ⟨hn, F, h1, h2⟩ := h
  exact ⟨hn, F, h1, fun i j hi hj => (h2 i j hi hj).trans (e i j hi hj)⟩
theorem cell (h : Mat w R n M) {i j : Nat} (hi : i < n) (hj : j < 64) : w.cell? ⟨R, i * 64 + j, none⟩ = some (.bool (M i j)) := by
  obtain ⟨hn, F, h1, h2⟩ := h
  rw [h1.cell (by omega), h2 i j hi hj]
theorem frozen (h : Mat w R n M) (k : Nat) : w.frozen? ⟨R, k, none⟩ = false := by
  obtain ⟨_, F, h1, _⟩ := h
  exact h1.frozen k
theorem set (h : Mat w R n M) {i j : Nat} (_hi : i < n) (hj : j < 64) (b : Bool) : Mat (w.setCell ⟨R, i * 64 + j, none⟩ (.bool b)) R n (fun x y => if x = i ∧ y = j then b else M x y) := by
  obtain ⟨hn, F, h1, h2⟩ := h
  refine ⟨hn, fun k => if k = i * 64 + j then b else F k, (h1.set (i * 64 + j) (.bool b)).congr (by intro k _; dsimp only; split <;> rfl), ?_⟩
  intro x y hx hy
  dsimp only
  by_cases e : x = i ∧ y = j
  · rw [if_pos e, e.1, e.2, if_pos rfl]
  · rw [if_neg e, if_neg (by omega), h2 x y hx hy]
theorem of_block (h : Mat w R n M) (e : w'.heap[R]? = w.heap[R]?) : Mat w' R n M := by
  obtain ⟨hn, F, h1, h2⟩ := h
  exact ⟨hn, F, h1.of_block e, h2⟩
theorem below (h : Mat w R n M) (hb : Below w.heap.size w w') : Mat w' R n M := by
  have hlt : R < w.heap.size := by obtain ⟨_, F, h1, _⟩ := h; exact h1.lt
  exact h.of_block (hb.block R hlt)
theorem lt (h : Mat w R n M) : R < w.heap.size := by obtain ⟨_, F, h1, _⟩ := h; exact h1.lt
theorem range (h : Mat w R n M) {i : Nat} (hi : i < n) : w.rangeAt R (i * 64) (bl 64 (M i)) := by
  intro j v hv
  have hj : j < 64 := by have := (List.getElem?_eq_some_iff.1 hv).1; rwa [bl_length] at this
  rw [bl_get _ _ _ hj] at hv
  rw [h.cell hi hj, ← hv]
theorem there (h : Mat w R n M) {i : Nat} (hi : i < n) : w.there R (i * 64) 64 := fun j hj => ⟨by rw [h.cell hi hj]; rfl, h.frozen _⟩
end Mat
theorem rowIs_setCells {b : Nat} {t : TypeId} {m : Nat} : ∀ (vs : List Value) (o : Nat) (f : Nat → Value) (w : World), w.rowIs b t m f → (w.setCells b o vs).rowIs b t m (fun k => if o ≤ k then (vs[k - o]?).getD (f k) else f k)
  | [], o, f, w, h => by
    refine h.congr ?_
    intro k _
    split <;> simp
  | v :: r, o, f, w, h => by
    refine (rowIs_setCells r (o + 1) _ _ (h.set o v)).congr ?_
    intro k _
    by_cases h1 : o + 1 ≤ k
    · obtain ⟨q, hq⟩ : ∃ q, k - o = q + 1 := ⟨k - o - 1, by omega⟩
      have hq' : k - (o + 1) = q := by omega
      simp only [if_pos h1, if_pos (show o ≤ k by omega), if_neg (show ¬ k = o by omega), hq, hq', List.getElem?_cons_succ]
    · by_cases h2 : k = o
      · subst h2
        simp only [if_neg h1, if_pos (Nat.le_refl k), Nat.sub_self, List.getElem?_cons_zero, Option.getD_some, if_true]
      · simp only [if_neg h1, if_neg h2, if_neg (show ¬ o ≤ k by omega)]
theorem Mat.put {w : World} {R n : Nat} {M : Nat → Nat → Bool} (h : Mat w R n M) {i : Nat} (hi : i < n) (f : Nat → Bool) : Mat (w.setCells R (i * 64) (bl 64 f)) R n (fun x => if x = i then f else M x) := by
  obtain ⟨hn, F, h1, h2⟩ := h
  refine ⟨hn, fun k => if i * 64 ≤ k ∧ k < i * 64 + 64 then f (k - i * 64) else F k, (rowIs_setCells (bl 64 f) (i * 64) _ w h1).congr ?_, ?_⟩
  · intro k _
    dsimp only
    by_cases e : i * 64 ≤ k
    · rw [if_pos e]
      by_cases e2 : k < i * 64 + 64
      · rw [if_pos ⟨e, e2⟩, bl_get _ _ _ (by omega)]
        rfl
      · rw [if_neg (by omega), List.getElem?_eq_none (by rw [bl_length]; omega)]
        rfl
    · rw [if_neg e, if_neg (by omega)]
  · intro x y hx hy
    dsimp only
    by_cases e : x = i
    · subst e
      rw [if_pos rfl, if_pos (by omega), show x * 64 + y - x * 64 = y by omega]
    · rw [if_neg e, if_neg (by omega), h2 x y hx hy]
theorem mat_new (w : World) (n : Nat) (hn : n ≤ 64) : Mat (w.alloc (.cells zs 122)) w.heap.size n (fun _ _ => false) :=
  ⟨hn, fun _ => false, by have h := World.rowIs_alloc w zs 122 (fun _ => .bool false) (fun i hi => zs_get i (by rw [zs_size] at hi; exact hi)); rw [zs_size] at h; exact h, fun _ _ _ _ => rfl⟩
def ini (k i j : Nat) : Bool := i == j && decide (i < k)
/-- behind the diagonal, and k bounds. -/
def bnd (L : List Bd) (k i j : Nat) : Bool := i == j || (L.take k).any (fun b => b.edge i j)
end Go.Proofs.YtajilghlcfheiaaGreatDoor.Rea
/- The last loop of reaches.Of: lists of bools, one a round, filled out of the matrix. -/
namespace Go.Proofs.YtajilghlcfheiaaGreatDoor.Rea
open Go.RowKit
theorem blk_setCells_other {b k : Nat} (hk : k ≠ b) : ∀ (vs : List Value) (o : Nat) (w : World), (w.setCells b o vs).heap[k]? = w.heap[k]?
  | [], _, _ => rfl
  | v :: r, o, w => by
    rw [World.setCells, blk_setCells_other hk r (o + 1) _]
    exact Deep.blk_setCell_other _ _ _ _ hk
theorem below_setCells' {w0 : World} {R : Nat} (hR : w0.heap.size ≤ R) : ∀ (vs : List Value) (o : Nat) (W : World), Below w0.heap.size w0 W → Below w0.heap.size w0 (W.setCells R o vs)
  | [], _, _, h => h
  | v :: r, o, _, h => below_setCells' hR r (o + 1) _ (h.setCell hR v)
/-- the lists that are there behind i rounds. -/
def Outs (w : World) (O n i : Nat) (M : Nat → Nat → Bool) : Prop :=
  ∃ g : Nat → Nat, w.rowIs O 125 n (fun x => if x < i then .slice (some ⟨g x, 0, none⟩) n n else .slice none 0 0) ∧ (∀ x, x < i → g x ≠ O ∧ w.rowIs (g x) 4 n (fun j => .bool (M x j))) ∧ (∀ x, x < i → O < g x) ∧ ∀ x y, x < y → y < i → g x < g y
theorem out_step {w0 wr : World} {R O n i : Nat} {M : Nat → Nat → Bool} (_hi : i < n) (hT : Mat wr R n M) (hB : Below w0.heap.size w0 wr) (hR : w0.heap.size ≤ R) (hRO : R < O) (H : Outs wr O n i M) :
    Mat ((((wr.alloc (.cells (madeCells #[.bool false] n) 4)).setCell ⟨O, i, none⟩ (.slice (some ⟨wr.heap.size, 0, none⟩) n n)).drew).setCells wr.heap.size 0 (bl n (M i))) R n M ∧
    Below w0.heap.size w0 ((((wr.alloc (.cells (madeCells #[.bool false] n) 4)).setCell ⟨O, i, none⟩ (.slice (some ⟨wr.heap.size, 0, none⟩) n n)).drew).setCells wr.heap.size 0 (bl n (M i))) ∧
    Outs ((((wr.alloc (.cells (madeCells #[.bool false] n) 4)).setCell ⟨O, i, none⟩ (.slice (some ⟨wr.heap.size, 0, none⟩) n n)).drew).setCells wr.heap.size 0 (bl n (M i))) O n (i + 1) M := by
  obtain ⟨g, h1, h2, h3, h4⟩ := H
  have hO := h1.lt
  have hs : w0.heap.size ≤ wr.heap.size := hB.size
  have hRl := hT.lt
  refine ⟨?_, ?_, ?_⟩
  · refine hT.of_block ?_
    rw [blk_setCells_other (by omega)]
    show ((wr.alloc _).setCell _ _).heap[R]? = _
    rw [Deep.blk_setCell_other _ _ _ _ (by show R ≠ O; omega)]
    exact Below.heap_alloc _ _ _ hRl
  · refine below_setCells' hs _ _ _ (Below.drew ?_)
    exact (hB.alloc hs _).setCell (by show w0.heap.size ≤ O; omega) _
  · refine ⟨fun x => if x = i then wr.heap.size else g x, ?_, ?_, ?_, ?_⟩
    · have a1 := ((h1.alloc (.cells (madeCells #[.bool false] n) 4)).set i (.slice (some ⟨wr.heap.size, 0, none⟩) n n)).drew
      refine (a1.of_block (blk_setCells_other (by omega) _ _ _)).congr ?_
      intro x _
      dsimp only
      by_cases e : x = i
      · rw [if_pos e, if_pos (by omega), if_pos e]
      · rw [if_neg e]
        by_cases e2 : x < i
        · rw [if_pos e2, if_pos (by omega), if_neg e]
        · rw [if_neg e2, if_neg (by omega)]
    · intro x hx
      dsimp only
      by_cases e : x = i
      · subst e
        rw [if_pos rfl]
        refine ⟨by omega, ?_⟩
        have a1 := ((World.rowIs_made wr (.bool false) n 4).setOther (a := ⟨O, x, none⟩) (by show wr.heap.size ≠ O; omega) (.slice (some ⟨wr.heap.size, 0, none⟩) n n)).drew
        refine (rowIs_setCells (bl n (M x)) 0 _ _ a1).congr ?_
        intro j hj
        rw [if_pos (Nat.zero_le _), Nat.sub_zero, bl_get _ _ _ hj]
        rfl
      · rw [if_neg e]
        obtain ⟨k1, k2⟩ := h2 x (by omega)
        have k3 := k2.lt
        refine ⟨k1, ?_⟩
        have a1 := ((k2.alloc (.cells (madeCells #[.bool false] n) 4)).setOther (a := ⟨O, i, none⟩) k1 (.slice (some ⟨wr.heap.size, 0, none⟩) n n)).drew
        exact a1.of_block (blk_setCells_other (by omega) _ _ _)
    · intro x hx
      dsimp only
      by_cases e : x = i
      · rw [if_pos e]
        exact hO
      · rw [if_neg e]
        exact h3 x (by omega)
    · intro x y hxy hy
      dsimp only
      rw [if_neg (show ¬ x = i by omega)]
      by_cases e : y = i
      · rw [if_pos e]
        exact (h2 x (by omega)).2.lt
      · rw [if_neg e]
        exact h4 x y hxy (by omega)
/-- copy, as one step of a region that draws. -/
theorem step_copy {ops : Array Oper} {o : Oper} {a : Act} {w : World} {K : Act → World → Prop} {Q : Exit → Act → World → Prop} {E : Prop}
    (hg : o.guard = none) (d s : Operand) (hop : o.op = Op.call { callee := Callee.builtin Builtin.copy, args := #[d, s], argTypes := #[125, 125] })
    (b m dc : Nat) (ad : Addr) (sc : Nat) (cs : List Value) (hd : a.eval d = .slice (some ⟨b, 0, none⟩) m dc) (hs : a.eval s = .slice (some ad) m sc) (hu : Tryz.prog.underlying 125 = some (.slice 4)) (hl : cs.length = m)
    (hsrc : ∀ j v, cs[j]? = some v → w.cell? (ad.add j) = some v) (hc : ∀ j, j < cs.length → (w.cell? ⟨b, 0 + j, none⟩).isSome = true) (hf : ∀ j, j < cs.length → w.frozen? ⟨b, 0 + j, none⟩ = false) (h1 : ∀ v ∈ cs, v.oneCell' = true)
    (hK : K (a.put o.dst (goInt cs.length)) (w.setCells b 0 cs)) :
    if Region.wanted o (yielded ops a.tmps) = true then Oper.wp Tryz.prog o a w K Q else E := by
  have hw : Region.wanted o (yielded ops a.tmps) = true := by simp [Region.wanted, hg]
  rw [if_pos hw]
  have hrun := run_copy_cells (P := Tryz.prog) w 125 125 o.type 4 b 0 m dc ad m sc cs hu info4 (by rw [hl]; exact (Nat.min_self m).symm) hsrc hc hf h1
  unfold Oper.wp
  simp [execOp, hop, resolve, invoke, builtin, hd, hs, hrun, Result.andThen]
  exact hK
end Go.Proofs.YtajilghlcfheiaaGreatDoor.Rea
/- reaches.Of: its contract. -/
namespace Go.Proofs.YtajilghlcfheiaaGreatDoor.Rea
open Go.RowKit
/-- a list of lists of bools, as a matrix says. -/
def IsM (w : World) (a : Option Addr) (n : Nat) (M : Nat → Nat → Bool) : Prop :=
  ∀ i, i < n → ∃ O, a = some ⟨O, 0, none⟩ ∧ ∃ g, w.cell? ⟨O, i, none⟩ = some (.slice (some ⟨g, 0, none⟩) n n) ∧ ∀ j, j < n → w.cell? ⟨g, j, none⟩ = some (.bool (M i j))
/-- what Of tells. -/
def Res (w : World) (L : List Bd) (n : Nat) (e : Ending) (w' : World) : Prop :=
  Below w.heap.size w w' ∧ ((L.all (·.ok n) = true ∧ ∃ a', e = .returned (.tuple #[.slice a' n n, .int .i64 0]) ∧ IsM w' a' n (reach n L) ∧ ∃ O, a' = some ⟨O, 0, none⟩ ∧ w.heap.size ≤ O ∧ Outs w' O n n (reach n L)) ∨ (L.all (·.ok n) = false ∧ e = .returned (.tuple #[.slice none 0 0, .int .i64 1])))
theorem not_all {n : Nat} {L : List Bd} {k : Nat} (hk : k < L.length) (h : (L[k]).ok n = false) : L.all (·.ok n) = false := by
  rw [Bool.eq_false_iff]
  intro ha
  rw [List.all_eq_true] at ha
  rw [ha _ (List.getElem_mem hk)] at h
  cases h
theorem four_cells (W : World) (c0 c1 c2 c3 : Value) : (W.alloc (.cells #[c0, c1, c2, c3] 99)).heap[W.heap.size]? = some (.cells #[c0, c1, c2, c3] 99 (0, 0)) := heap_alloc_new W _
theorem bnd_next (L : List Bd) (k : Nat) (hk : k < L.length) (i j : Nat) : bnd L (k + 1) i j = (bnd L k i j || (L[k]).edge i j) := by
  unfold bnd
  rw [List.take_succ_eq_append_getElem hk, List.any_append]
  simp [Bool.or_assoc]
theorem bnd_same (L : List Bd) (k : Nat) (hk : k < L.length) (h : ((L[k]).av && (L[k]).bv) = false) (i j : Nat) : bnd L k i j = bnd L (k + 1) i j := by
  rw [bnd_next L k hk]
  simp only [Bd.edge, h]
  simp
theorem bnd_edge (L : List Bd) (k : Nat) (hk : k < L.length) (h1 : (L[k]).av = true) (h2 : (L[k]).bv = true) (na nb : Nat) (e1 : na = (L[k]).an) (e2 : nb = (L[k]).bn) (i j : Nat) : (if i = na ∧ j = nb then true else bnd L k i j) = bnd L (k + 1) i j := by
  rw [bnd_next L k hk]
  simp only [Bd.edge, h1, h2]
  by_cases e : i = na ∧ j = nb
  · rw [if_pos e, ← e1, ← e2, e.1, e.2]
    simp
  · rw [if_neg e, ← e1, ← e2]
    have : (true && true && na == i && nb == j) = false := by
      simp
      omega
    rw [this]
    simp
theorem ok_next {n k : Nat} {L : List Bd} (hk : k < L.length) (h : ∀ b ∈ L.take k, b.ok n = true) (h2 : (L[k]).ok n = true) : ∀ b ∈ L.take (k + 1), b.ok n = true := by
  intro b hb
  rw [List.take_succ_eq_append_getElem hk] at hb
  rcases List.mem_append.1 hb with hb | hb
  · exact h b hb
  · simp at hb
    rw [hb]
    exact h2
theorem Mat.drew {w : World} {R n : Nat} {M : Nat → Nat → Bool} (h : Mat w R n M) : Mat w.drew R n M := h.of_block rfl
/-- what a round of Warshall's holds to. -/
def Two (wr : World) (R n q d : Nat) (M : Nat → Nat → Bool) (w' : World) : Prop :=
  w'.rangeAt R (q * 64) (bl 64 (M q)) ∧ w'.rangeAt R (d * 64) (bl 64 (M d)) ∧ w'.there R (q * 64) 64 ∧ Mat w' R n M ∧ Below wr.heap.size wr w'
theorem two_of {wr w' : World} {R n q d : Nat} {M : Nat → Nat → Bool} (hq : q < n) (hd : d < n) (h : Mat w' R n M) (hb : Below wr.heap.size wr w') : w'.rangeAt R (q * 64) (bl 64 (M q)) ∧ w'.rangeAt R (d * 64) (bl 64 (M d)) ∧ w'.there R (q * 64) 64 ∧ Mat w' R n M ∧ Below wr.heap.size wr w' :=
  ⟨h.range hq, h.range hd, h.there hq, h, hb⟩
theorem pf {a b : Act} {d j : Nat} {v u : Value} (h : a.put (some d) v = b) (hj : d ≠ j) (e : a.tmps[j]?.getD undef = u) : b.tmps[j]?.getD undef = u := by
  rw [← h, ← e]
  simp only [Act.put]
  rw [Array.getElem?_setIfInBounds_ne hj]
theorem ps {a b : Act} {d m : Nat} {v : Value} (h : a.put (some d) v = b) (hm : Hid (a.tmps.size = m)) (hd : d < m) : b.tmps[d]?.getD undef = v := by
  have hm' := hm.out
  rw [← h]
  simp [Act.put, hm', hd]
theorem pz {a b : Act} {d m : Nat} {v : Value} (h : a.put (some d) v = b) (hm : Hid (a.tmps.size = m)) : Hid (b.tmps.size = m) := by
  have hm' := hm.out
  show b.tmps.size = m
  rw [← h, Act.size_put, hm']
theorem put_row {W : World} {R n q : Nat} {M : Nat → Nat → Bool} {z : List Value} {f : Nat → Bool} (h : Mat W R n M) (hq : q < n) (hz : z = bl 64 f) : Mat (W.setCells R (q * 64) z.toArray.toList) R n (fun x => if x = q then f else M x) := by
  rw [hz]
  exact h.put hq f
theorem step_true {W M : Nat → Nat → Bool} {q d : Nat} (hM : M = fun x y => if x < q then mid d W x y else W x y) (ht : true = W q d) (i j : Nat) : (if i = q then fun j => M q j || M d j else M i) j = (if i < q + 1 then mid d W i j else W i j) := by
  have h2 : M d j = W d j := by
    rw [hM]
    dsimp only
    split
    · exact mid_row d W j
    · rfl
  by_cases e : i = q
  · subst e
    rw [if_pos rfl, if_pos (by omega)]
    rw [h2, hM]
    dsimp only
    rw [if_neg (by omega)]
    unfold mid
    rw [← ht, Bool.true_and]
  · rw [if_neg e, hM]
    dsimp only
    by_cases e2 : i < q
    · rw [if_pos e2, if_pos (by omega)]
    · rw [if_neg e2, if_neg (by omega)]
theorem step_false {W : Nat → Nat → Bool} {q d : Nat} (ht : false = W q d) (i j : Nat) : (if i < q then mid d W i j else W i j) = (if i < q + 1 then mid d W i j else W i j) := by
  by_cases e : i = q
  · subst e
    rw [if_neg (by omega), if_pos (by omega)]
    unfold mid
    rw [← ht]
    simp
  · by_cases e2 : i < q
    · rw [if_pos e2, if_pos (by omega)]
    · rw [if_neg e2, if_neg (by omega)]
theorem under23 : Tryz.prog.underlying 82 = some (.slice 125) := by kernel_rfl
theorem under34 : Tryz.prog.underlying 125 = some (.slice 4) := by kernel_rfl
theorem info34 : (Tryz.prog.info? 125).map (fun i => (i.zero, i.size, i.bytes)) = some (some (.slice none 0 0), 1, 24) := by kernel_rfl
theorem info4' : (Tryz.prog.info? 4).map (fun i => (i.zero, i.size, i.bytes)) = some (some (.bool false), 1, 1) := by kernel_rfl
theorem all_ok {n : Nat} {L : List Bd} (h : ∀ b ∈ L, b.ok n = true) : L.all (·.ok n) = true := by rw [List.all_eq_true]; exact h
theorem outs_is {w : World} {O n : Nat} {L : List Bd} (h : Outs w O n n (war (start L) n)) : IsM w (some ⟨O, 0, none⟩) n (reach n L) := by
  obtain ⟨g, h1, h2, _⟩ := h
  intro i hi
  refine ⟨O, rfl, g i, ?_, fun j hj => (h2 i hi).2.cell hj⟩
  rw [h1.cell hi, if_pos hi]
theorem ini_next {k : Nat} (i j : Nat) : (if i = k ∧ j = k then true else ini k i j) = ini (k + 1) i j := by
  unfold ini
  by_cases e : i = k ∧ j = k
  · rw [if_pos e, e.1, e.2]; simp
  · rw [if_neg e, Bool.eq_iff_iff]
    simp
    omega
set_option maxHeartbeats 2000000 in
theorem of_any (a : Option Addr) (cap : Nat) (L : List Bd) (n m : Nat) (hn : n ≤ 64) (hm : m = L.length) (hm' : m ≤ 256) (w : World) (hL : Bds w a L) : Calls Tryz.prog 39 #[.int .i64 (n : Int), .slice a m cap] w (Res w L n) := by
  have h0 : decide ((n : Int) < 0) = false := by simp
  have h1 : decide (64 < (n : Int)) = false := by simp; omega
  have h2 : decide (256 < (m : Int)) = false := by simp; omega
  have hz := zero42
  have HL := Lib.hid hL
  have HM := Lib.hid hm
  clear hL hm
  go_enter Tryz.func39, Tryz.ntmps39
  go_wp2_with fail
  obtain ⟨w1, hw1⟩ : ∃ w1, w1 = w.alloc (.cells zs 122) := ⟨_, rfl⟩
  rw [← hw1]
  have HT := Lib.hid (show Mat w1 w.heap.size n (ini 0) by rw [hw1]; exact (mat_new w n hn).congr (by intro i j _ _; simp [ini]))
  have HB := Lib.hid (show Below w.heap.size w w1 by rw [hw1]; exact (Below.refl _ w).alloc (Nat.le_refl _) _)
  clear hw1
  go_loopw [26] (fun i wr => ∃ k : Nat, k ≤ n ∧ i = .int .i64 k ∧ Hid (Mat wr w.heap.size n (ini k)) ∧ Hid (Below w.heap.size w wr)) (fun i _ => n - (intOf i).toNat)
  case atStart => exact ⟨0, by omega, rfl, HT.out, HB.out⟩
  case round =>
    clear HT HB
    obtain ⟨k, hk, rfl, HT, HB⟩ := hrel
    by_cases hlt : k < n
    · have c1 := HT.out.cell (j := k) hlt (by omega)
      have f1 := HT.out.frozen (k * 64 + k)
      go_wp2
      go_roundw
      case rel => exact ⟨k + 1, by omega, by go_num, (HT.out.set hlt (by omega) true).congr (fun i j _ _ => ini_next i j), HB.out.setCell (Nat.le_refl _) _⟩
      case measure => simp [intOf]; omega
    · obtain rfl : n = k := by omega
      go_wp2
      go_loopw [36] (fun i wr => ∃ k : Nat, k ≤ m ∧ i = .int .i64 k ∧ Hid (Mat wr w.heap.size n (bnd L k)) ∧ Hid (Below w.heap.size w wr) ∧ Hid (∀ b ∈ L.take k, b.ok n = true)) (fun i _ => m - (intOf i).toNat)
      case atStart => exact ⟨0, by omega, rfl, HT.out.congr (by intro i j hi _; simp [ini, bnd, hi]), HB.out, fun _ h => by simp at h⟩
      case round =>
        clear HT HB
        obtain ⟨k, hk, rfl, HT, HB, HO⟩ := hrel
        by_cases hlt : k < m
        · have hkl : k < L.length := by rw [← HM.out]; exact hlt
          obtain ⟨b, o, rfl, c0, c1, c2, c3, l1, l2⟩ := (HL.out.below HB.out) k hkl
          obtain ⟨va, hva⟩ : ∃ va, va = L[k].av := ⟨_, rfl⟩
          obtain ⟨na, hna⟩ : ∃ na, na = L[k].an := ⟨_, rfl⟩
          obtain ⟨vb, hvb⟩ : ∃ vb, vb = L[k].bv := ⟨_, rfl⟩
          obtain ⟨nb, hnb⟩ : ∃ nb, nb = L[k].bn := ⟨_, rfl⟩
          rw [← hva] at c0
          rw [← hna] at c1 l1
          rw [← hvb] at c2
          rw [← hnb] at c3 l2
          have HVA := Lib.hid hva
          have HNA := Lib.hid hna
          have HVB := Lib.hid hvb
          have HNB := Lib.hid hnb
          have HL1 := Lib.hid l1
          have HL2 := Lib.hid l2
          clear hva hna hvb hnb l1 l2
          go_wp2_with fail
          obtain ⟨w2, hw2⟩ : ∃ w2, w2 = wr.alloc (.cells #[.bool va, .int .u64 (na : Int), .bool vb, .int .u64 (nb : Int)] 99) := ⟨_, rfl⟩
          rw [← hw2]
          have hb2 : Below wr.heap.size wr w2 := by rw [hw2]; exact (Below.refl _ wr).alloc (Nat.le_refl _) _
          have hB : w2.heap[wr.heap.size]? = some (.cells #[.bool va, .int .u64 (na : Int), .bool vb, .int .u64 (nb : Int)] 99 (0, 0)) := by rw [hw2]; exact four_cells wr _ _ _ _
          have hs2 : wr.heap.size < w2.heap.size := by rw [hw2, alloc_size]; omega
          refine (none_any va na n hn HL1.out w2).mono ?_
          rintro e w3 ⟨rfl, hb3⟩
          have hB3 := (hb3.block wr.heap.size hs2).trans hB
          have d2 : w3.cell? ⟨wr.heap.size, 2, none⟩ = some (.bool vb) := by rw [cell_of_row _ _ _ _ _ _ hB3]; rfl
          have d3 : w3.cell? ⟨wr.heap.size, 3, none⟩ = some (.int .u64 (nb : Int)) := by rw [cell_of_row _ _ _ _ _ _ hB3]; rfl
          have HB3 := Lib.hid hB3
          have B3 := Lib.hid (on hb2 hb3)
          have S3 := Lib.hid (Nat.lt_of_lt_of_le hs2 hb3.size)
          clear hw2 hb2 hB hs2 hb3 hB3 c0 c1 c2 c3
          by_cases hp : (va && decide (n ≤ na)) = true
          · have HP := Lib.hid hp
            rw [hp]
            clear hp
            go_wp2
            go_ret2
            exact ⟨on HB.out B3.out, .inr ⟨not_all hkl (by simp only [Bd.ok, ← HVA.out, ← HNA.out, HP.out]; rfl), rfl⟩⟩
          · have hp' : (va && decide (n ≤ na)) = false := by simpa using hp
            have HP := Lib.hid hp'
            rw [hp']
            clear hp hp'
            go_wp2_with fail
            refine (none_any vb nb n hn HL2.out w3).mono ?_
            rintro e w4 ⟨rfl, hb4⟩
            have hB4 := (hb4.block wr.heap.size S3.out).trans HB3.out
            have d0 : w4.cell? ⟨wr.heap.size, 0, none⟩ = some (.bool va) := by rw [cell_of_row _ _ _ _ _ _ hB4]; rfl
            have d1 : w4.cell? ⟨wr.heap.size, 1, none⟩ = some (.int .u64 (na : Int)) := by rw [cell_of_row _ _ _ _ _ _ hB4]; rfl
            have d2' : w4.cell? ⟨wr.heap.size, 2, none⟩ = some (.bool vb) := by rw [cell_of_row _ _ _ _ _ _ hB4]; rfl
            have d3' : w4.cell? ⟨wr.heap.size, 3, none⟩ = some (.int .u64 (nb : Int)) := by rw [cell_of_row _ _ _ _ _ _ hB4]; rfl
            have B4 := Lib.hid (on B3.out hb4)
            clear hb4 hB4 d2 d3 HB3 B3 S3
            by_cases hq : (vb && decide (n ≤ nb)) = true
            · have HQ := Lib.hid hq
              rw [hq]
              clear hq
              go_wp2
              go_ret2
              exact ⟨on HB.out B4.out, .inr ⟨not_all hkl (by simp only [Bd.ok, ← HVB.out, ← HNB.out, HQ.out]; simp), rfl⟩⟩
            · have hq' : (vb && decide (n ≤ nb)) = false := by simpa using hq
              have HQ := Lib.hid hq'
              rw [hq']
              clear hq hq'
              have HT4 := Lib.hid (HT.out.below B4.out)
              have HB4 := Lib.hid (on HB.out B4.out)
              have HOK := Lib.hid (show (L[k]).ok n = true by simp only [Bd.ok, ← HVA.out, ← HNA.out, ← HVB.out, ← HNB.out, HP.out, HQ.out]; rfl)
              cases va with
              | false =>
                go_wp2
                go_roundw
                case rel => exact ⟨k + 1, by omega, by go_num, HT4.out.congr (fun i j _ _ => bnd_same L k hkl (by rw [← HVA.out]; rfl) i j), HB4.out, ok_next hkl HO.out HOK.out⟩
                case measure => simp [intOf]; omega
              | true =>
                cases vb with
                | false =>
                  go_wp2
                  go_roundw
                  case rel => exact ⟨k + 1, by omega, by go_num, HT4.out.congr (fun i j _ _ => bnd_same L k hkl (by rw [← HVB.out]; simp) i j), HB4.out, ok_next hkl HO.out HOK.out⟩
                  case measure => simp [intOf]; omega
                | true =>
                  have hna : na < n := by have := HP.out; simp at this; omega
                  have hnb : nb < n := by have := HQ.out; simp at this; omega
                  have r1 := HT4.out.cell (i := na) (j := nb) hna (by omega)
                  have f1 := HT4.out.frozen (na * 64 + nb)
                  go_wp2
                  go_region
                  go_wp2
                  go_roundw
                  case rel => exact ⟨k + 1, by omega, by go_num, (HT4.out.set hna (by omega) true).congr (fun i j _ _ => bnd_edge L k hkl HVA.out.symm HVB.out.symm na nb HNA.out HNB.out i j), Below.drew (HB4.out.setCell (Nat.le_refl _) _), ok_next hkl HO.out HOK.out⟩
                  case measure => simp [intOf]; omega
        · obtain rfl : m = k := by omega
          have HOK := Lib.hid (show ∀ b ∈ L, b.ok n = true by have := HO.out; rwa [HM.out, List.take_length] at this)
          have HT1 := Lib.hid (HT.out.congr (N := war (start L) 0) (by intro i j _ _; unfold bnd; rw [HM.out, List.take_length]; rfl))
          clear HT HO
          go_wp2
          go_loopw [70] (fun i wr => ∃ d : Nat, d ≤ n ∧ i = .int .i64 d ∧ Hid (Mat wr w.heap.size n (war (start L) d)) ∧ Hid (Below w.heap.size w wr)) (fun i _ => n - (intOf i).toNat)
          case atStart => exact ⟨0, by omega, rfl, HT1.out, HB.out⟩
          case round =>
            clear HT1 HB
            obtain ⟨d, hd, rfl, HT, HB⟩ := hrel
            by_cases hdn : d < n
            · go_wp2
              go_loopw [74] (fun i wr => ∃ q : Nat, q ≤ n ∧ i = .int .i64 q ∧ Hid (Mat wr w.heap.size n (fun x y => if x < q then mid d (war (start L) d) x y else war (start L) d x y)) ∧ Hid (Below w.heap.size w wr)) (fun i _ => n - (intOf i).toNat)
              case atStart => exact ⟨0, by omega, rfl, HT.out.congr (by intro i j _ _; simp), HB.out⟩
              case round =>
                clear HT HB
                obtain ⟨q, hq, rfl, HT, HB⟩ := hrel
                by_cases hqn : q < n
                · obtain ⟨t, ht⟩ : ∃ t, t = war (start L) d q d := ⟨_, rfl⟩
                  have c0 : wr.cell? ⟨w.heap.size, q * 64 + d, none⟩ = some (.bool t) := by
                    have := HT.out.cell (i := q) (j := d) hqn (by omega)
                    rw [if_neg (by omega)] at this
                    rw [this, ht]
                  have HTT := Lib.hid ht
                  clear ht
                  cases t with
                  | false =>
                    go_wp2
                    go_roundw
                    case rel => exact ⟨q + 1, by omega, by go_num, HT.out.congr (fun i j _ _ => step_false HTT.out i j), HB.out⟩
                    case measure => simp [intOf]; omega
                  | true =>
                    have hT := HT.out
                    have HB2 := HB
                    obtain ⟨M, hM⟩ : ∃ M, M = (fun x y => if x < q then mid d (war (start L) d) x y else war (start L) d x y) := ⟨_, rfl⟩
                    rw [← hM] at hT
                    obtain ⟨s1, s2, s3, s4, s5⟩ := two_of (wr := wr) hqn hdn hT (Below.refl _ wr)
                    obtain ⟨x, hx⟩ : ∃ x, x = bl 64 (M q) := ⟨_, rfl⟩
                    obtain ⟨y, hy⟩ : ∃ y, y = bl 64 (M d) := ⟨_, rfl⟩
                    obtain ⟨z, hz2⟩ : ∃ z, z = bl 64 (fun j => M q j || M d j) := ⟨_, rfl⟩
                    have HX := Lib.hid hx
                    have HY := Lib.hid hy
                    have HZ := Lib.hid hz2
                    have HM2 := Lib.hid hM
                    have KA := Lib.hid (show Calls Tryz.prog 115 #[.agg x.toArray, .agg y.toArray] wr.drew fun e W' => e = .returned (.agg z.toArray) ∧ W'.there w.heap.size (q * 64) 64 ∧ Mat W' w.heap.size n M ∧ Below wr.heap.size wr W' by
                      rw [hx, hy, hz2]
                      refine (and_any (M q) (M d) wr.drew).mono ?_
                      rintro e W' ⟨rfl, hb⟩
                      have h4 := s4.drew.below hb
                      exact ⟨rfl, h4.there hqn, h4, on s5.drew hb⟩)
                    have R1 := Lib.hid (show wr.drew.rangeAt w.heap.size (q * 64) x by rw [hx]; exact s4.drew.range hqn)
                    have R2 := Lib.hid (show wr.drew.rangeAt w.heap.size (d * 64) y by rw [hy]; exact s4.drew.range hdn)
                    have Z1 := Lib.hid (show (Tryz.prog.info? 121).map (·.size) = some x.length by rw [hx, bl_length]; exact size41)
                    have Z2 := Lib.hid (show (Tryz.prog.info? 121).map (·.size) = some y.length by rw [hy, bl_length]; exact size41)
                    have Z3 := Lib.hid (show z.toArray.size = 64 by rw [hz2]; exact row_size _)
                    have Z4 := Lib.hid (show z.toArray.all (·.oneCell') = true by rw [hz2]; exact row_one _)
                    have i1 : (0 : Int) ≤ (q : Int) := by omega
                    have i2 : (q : Int) < 64 := by omega
                    have i3 : (0 : Int) ≤ (d : Int) := by omega
                    have i4 : (d : Int) < 64 := by omega
                    clear hM hx hy hz2 hT HT HB s1 s2 s3 s4 s5
                    go_wp2_with fail
                    generalize ha : Act.mk _ _ = a0
                    have e6 : a0.tmps[6]?.getD undef = .pointer (some ⟨w.heap.size, 0, none⟩) := by rw [← ha]; rfl
                    have e10 : a0.tmps[10]?.getD undef = .int .i64 d := by rw [← ha]; rfl
                    have e11 : a0.tmps[11]?.getD undef = .int .i64 q := by rw [← ha]; rfl
                    have hsz : Hid (a0.tmps.size = 116) := by rw [← ha]; exact rfl
                    have HA := Lib.hid ha
                    clear ha
                    refine wp_region_any (by kernel_rfl) ?_
                    change wpAny _ _ _ _ _ _ _ (World.drew _)
                    refine wpAny_take (i := 0) (v := .int .i64 q) rfl (by kernel_rfl) (by kernel_rfl) (by kernel_rfl) (fun _ _ _ h => h) (Or.inl ⟨by rfl, by intro w'; go_simp⟩) ?_
                    change wpAny _ _ _ _ _ _ (a0.put (some 82) (.int .i64 q)) _
                    generalize hb1 : a0.put (some 82) (.int .i64 q) = b1
                    replace e6 := pf hb1 (by decide) e6
                    replace e10 := pf hb1 (by decide) e10
                    replace e11 := pf hb1 (by decide) e11
                    have e82 := ps hb1 hsz (by decide)
                    replace hsz := pz hb1 hsz
                    have Hb1 := Lib.hid hb1
                    clear hb1
                    refine wpAny_take (i := 1) (v := .int .i64 q) rfl (by kernel_rfl) (by kernel_rfl) (by kernel_rfl) (fun _ _ _ h => h) (Or.inl ⟨by rfl, by intro w'; go_simp⟩) ?_
                    change wpAny _ _ _ _ _ _ (b1.put (some 83) (.int .i64 q)) _
                    generalize hb2 : b1.put (some 83) (.int .i64 q) = b2
                    replace e6 := pf hb2 (by decide) e6
                    replace e10 := pf hb2 (by decide) e10
                    replace e11 := pf hb2 (by decide) e11
                    replace e82 := pf hb2 (by decide) e82
                    have e83 := ps hb2 hsz (by decide)
                    replace hsz := pz hb2 hsz
                    have Hb2 := Lib.hid hb2
                    clear hb2
                    refine wpAny_take (i := 2) (v := .pointer (some ⟨w.heap.size, q * 64, none⟩)) rfl (by kernel_rfl) (by kernel_rfl) (by kernel_rfl) (fun _ _ _ h => h) (Or.inl ⟨by rfl, by intro w'; go_simp⟩) ?_
                    change wpAny _ _ _ _ _ _ (b2.put (some 84) (.pointer (some ⟨w.heap.size, q * 64, none⟩))) _
                    generalize hb3 : b2.put (some 84) (.pointer (some ⟨w.heap.size, q * 64, none⟩)) = b3
                    replace e6 := pf hb3 (by decide) e6
                    replace e10 := pf hb3 (by decide) e10
                    replace e11 := pf hb3 (by decide) e11
                    replace e82 := pf hb3 (by decide) e82
                    replace e83 := pf hb3 (by decide) e83
                    have e84 := ps hb3 hsz (by decide)
                    replace hsz := pz hb3 hsz
                    have Hb3 := Lib.hid hb3
                    clear hb3
                    refine wpAny_take (i := 4) (v := .int .i64 d) rfl (by kernel_rfl) (by kernel_rfl) (by kernel_rfl) (fun _ _ _ h => h) (Or.inl ⟨by rfl, by intro w'; go_simp⟩) ?_
                    change wpAny _ _ _ _ _ _ (b3.put (some 86) (.int .i64 d)) _
                    generalize hb4 : b3.put (some 86) (.int .i64 d) = b4
                    replace e6 := pf hb4 (by decide) e6
                    replace e10 := pf hb4 (by decide) e10
                    replace e11 := pf hb4 (by decide) e11
                    replace e82 := pf hb4 (by decide) e82
                    replace e83 := pf hb4 (by decide) e83
                    replace e84 := pf hb4 (by decide) e84
                    have e86 := ps hb4 hsz (by decide)
                    replace hsz := pz hb4 hsz
                    have Hb4 := Lib.hid hb4
                    clear hb4
                    refine wpAny_take (i := 5) (v := .pointer (some ⟨w.heap.size, d * 64, none⟩)) rfl (by kernel_rfl) (by kernel_rfl) (by kernel_rfl) (fun _ _ _ h => h) (Or.inl ⟨by rfl, by intro w'; go_simp⟩) ?_
                    change wpAny _ _ _ _ _ _ (b4.put (some 87) (.pointer (some ⟨w.heap.size, d * 64, none⟩))) _
                    generalize hb5 : b4.put (some 87) (.pointer (some ⟨w.heap.size, d * 64, none⟩)) = b5
                    replace e6 := pf hb5 (by decide) e6
                    replace e10 := pf hb5 (by decide) e10
                    replace e11 := pf hb5 (by decide) e11
                    replace e82 := pf hb5 (by decide) e82
                    replace e83 := pf hb5 (by decide) e83
                    replace e84 := pf hb5 (by decide) e84
                    replace e86 := pf hb5 (by decide) e86
                    have e87 := ps hb5 hsz (by decide)
                    replace hsz := pz hb5 hsz
                    have Hb5 := Lib.hid hb5
                    clear hb5
                    refine wpAny_ready (rs := [3, 6]) (by kernel_rfl) (by simp) ?_
                    refine AllReady.cons rfl (fun K hK => ?_) (AllReady.cons rfl (fun K hK => ?_) AllReady.nil)
                    · rw [if_pos (by rfl)]
                      refine wp_load_mid 121 (.tmp 84) rfl w.heap.size (q * 64) (by simpa [Act.eval] using e84) x _ R1.out under41 rfl Z1.out ?_
                      refine hK _ _ ?_
                      clear hK K
                      change wpAny _ _ _ _ _ _ (b5.put (some 85) (.agg x.toArray)) _
                      generalize hb6 : b5.put (some 85) (.agg x.toArray) = b6
                      replace e6 := pf hb6 (by decide) e6
                      replace e10 := pf hb6 (by decide) e10
                      replace e11 := pf hb6 (by decide) e11
                      replace e82 := pf hb6 (by decide) e82
                      replace e83 := pf hb6 (by decide) e83
                      replace e84 := pf hb6 (by decide) e84
                      replace e86 := pf hb6 (by decide) e86
                      replace e87 := pf hb6 (by decide) e87
                      have e85 := ps hb6 hsz (by decide)
                      replace hsz := pz hb6 hsz
                      have Hb6 := Lib.hid hb6
                      clear hb6
                      refine wpAny_ready (rs := [6]) (by kernel_rfl) (by simp) ?_
                      refine AllReady.cons rfl (fun K hK => ?_) AllReady.nil
                      rw [if_pos (by rfl)]
                      refine wp_load_mid 121 (.tmp 87) rfl w.heap.size (d * 64) (by simpa [Act.eval] using e87) y _ R2.out under41 rfl Z2.out ?_
                      refine hK _ _ ?_
                      clear hK K
                      change wpAny _ _ _ _ _ _ (b6.put (some 88) (.agg y.toArray)) _
                      generalize hb7 : b6.put (some 88) (.agg y.toArray) = b7
                      replace e6 := pf hb7 (by decide) e6
                      replace e10 := pf hb7 (by decide) e10
                      replace e11 := pf hb7 (by decide) e11
                      replace e82 := pf hb7 (by decide) e82
                      replace e83 := pf hb7 (by decide) e83
                      replace e84 := pf hb7 (by decide) e84
                      replace e86 := pf hb7 (by decide) e86
                      replace e87 := pf hb7 (by decide) e87
                      replace e85 := pf hb7 (by decide) e85
                      have e88 := ps hb7 hsz (by decide)
                      replace hsz := pz hb7 hsz
                      have Hb7 := Lib.hid hb7
                      clear hb7
                      refine wpAny_ready (rs := [7]) (by kernel_rfl) (by simp) ?_
                      refine AllReady.cons rfl (fun K hK => ?_) AllReady.nil
                      rw [if_pos (by rfl)]
                      have HK := Lib.hid hK
                      clear hK
                      go_simp
                      refine KA.out.mono ?_
                      rintro e w5 ⟨rfl, h3, h4, h5⟩
                      refine HK.out _ _ ?_
                      clear HK K
                      change wpAny _ _ _ _ _ _ (b7.put (some 89) (.agg z.toArray)) _
                      generalize hb8 : b7.put (some 89) (.agg z.toArray) = b8
                      replace e6 := pf hb8 (by decide) e6
                      replace e10 := pf hb8 (by decide) e10
                      replace e11 := pf hb8 (by decide) e11
                      replace e82 := pf hb8 (by decide) e82
                      replace e83 := pf hb8 (by decide) e83
                      replace e84 := pf hb8 (by decide) e84
                      replace e86 := pf hb8 (by decide) e86
                      replace e87 := pf hb8 (by decide) e87
                      replace e85 := pf hb8 (by decide) e85
                      replace e88 := pf hb8 (by decide) e88
                      have e89 := ps hb8 hsz (by decide)
                      replace hsz := pz hb8 hsz
                      have Hb8 := Lib.hid hb8
                      clear hb8
                      refine wpAny_take (i := 8) (v := .pointer (some ⟨w.heap.size, q * 64, none⟩)) rfl (by kernel_rfl) (by kernel_rfl) (by kernel_rfl) (fun _ _ _ h => h) (Or.inl ⟨by rfl, by intro w'; go_simp⟩) ?_
                      change wpAny _ _ _ _ _ _ (b8.put (some 90) (.pointer (some ⟨w.heap.size, q * 64, none⟩))) _
                      generalize hb9 : b8.put (some 90) (.pointer (some ⟨w.heap.size, q * 64, none⟩)) = b9
                      replace e6 := pf hb9 (by decide) e6
                      replace e10 := pf hb9 (by decide) e10
                      replace e11 := pf hb9 (by decide) e11
                      replace e82 := pf hb9 (by decide) e82
                      replace e83 := pf hb9 (by decide) e83
                      replace e84 := pf hb9 (by decide) e84
                      replace e86 := pf hb9 (by decide) e86
                      replace e87 := pf hb9 (by decide) e87
                      replace e85 := pf hb9 (by decide) e85
                      replace e88 := pf hb9 (by decide) e88
                      replace e89 := pf hb9 (by decide) e89
                      have e90 := ps hb9 hsz (by decide)
                      replace hsz := pz hb9 hsz
                      have Hb9 := Lib.hid hb9
                      clear hb9
                      refine wpAny_ready (rs := [9]) (by kernel_rfl) (by simp) ?_
                      refine AllReady.cons rfl (fun K hK => ?_) AllReady.nil
                      rw [if_pos (by rfl)]
                      refine wp_store_mid 121 (.tmp 90) (.tmp 89) rfl w.heap.size (q * 64) z.toArray (by simpa [Act.eval] using e90) (by simpa [Act.eval] using e89) (by rw [Z3.out]; exact h3) (by rw [Z3.out]; exact size41) Z4.out ?_
                      refine hK _ _ ?_
                      clear hK K
                      refine wpAny_done (by kernel_rfl) ?_ _
                      have HM6 := Lib.hid (put_row h4 hqn HZ.out)
                      have HB6 := Lib.hid (below_setCells' (Nat.le_refl _) z.toArray.toList (q * 64) _ (on HB2.out h5))
                      change Exit.inBlock 8 (Exit.then _ _) Exit.normal b9 _
                      rw [← Hb9.out, ← Hb8.out, ← Hb7.out, ← Hb6.out, ← Hb5.out, ← Hb4.out, ← Hb3.out, ← Hb2.out, ← Hb1.out, ← HA.out]
                      simp only [Act.put, List.setIfInBounds_toArray, List.set_cons_zero, List.set_cons_succ]
                      go_wp2
                      go_roundw
                      case rel => exact ⟨q + 1, by omega, by go_num, HM6.out.congr (fun i j _ _ => step_true HM2.out HTT.out i j), HB6.out⟩
                      case measure => simp [intOf]; omega
                    · rw [if_pos (by rfl)]
                      refine wp_load_mid 121 (.tmp 87) rfl w.heap.size (d * 64) (by simpa [Act.eval] using e87) y _ R2.out under41 rfl Z2.out ?_
                      refine hK _ _ ?_
                      clear hK K
                      change wpAny _ _ _ _ _ _ (b5.put (some 88) (.agg y.toArray)) _
                      generalize hb6 : b5.put (some 88) (.agg y.toArray) = b6
                      replace e6 := pf hb6 (by decide) e6
                      replace e10 := pf hb6 (by decide) e10
                      replace e11 := pf hb6 (by decide) e11
                      replace e82 := pf hb6 (by decide) e82
                      replace e83 := pf hb6 (by decide) e83
                      replace e84 := pf hb6 (by decide) e84
                      replace e86 := pf hb6 (by decide) e86
                      replace e87 := pf hb6 (by decide) e87
                      have e88 := ps hb6 hsz (by decide)
                      replace hsz := pz hb6 hsz
                      have Hb6 := Lib.hid hb6
                      clear hb6
                      refine wpAny_ready (rs := [3]) (by kernel_rfl) (by simp) ?_
                      refine AllReady.cons rfl (fun K hK => ?_) AllReady.nil
                      rw [if_pos (by rfl)]
                      refine wp_load_mid 121 (.tmp 84) rfl w.heap.size (q * 64) (by simpa [Act.eval] using e84) x _ R1.out under41 rfl Z1.out ?_
                      refine hK _ _ ?_
                      clear hK K
                      change wpAny _ _ _ _ _ _ (b6.put (some 85) (.agg x.toArray)) _
                      generalize hb7 : b6.put (some 85) (.agg x.toArray) = b7
                      replace e6 := pf hb7 (by decide) e6
                      replace e10 := pf hb7 (by decide) e10
                      replace e11 := pf hb7 (by decide) e11
                      replace e82 := pf hb7 (by decide) e82
                      replace e83 := pf hb7 (by decide) e83
                      replace e84 := pf hb7 (by decide) e84
                      replace e86 := pf hb7 (by decide) e86
                      replace e87 := pf hb7 (by decide) e87
                      replace e88 := pf hb7 (by decide) e88
                      have e85 := ps hb7 hsz (by decide)
                      replace hsz := pz hb7 hsz
                      have Hb7 := Lib.hid hb7
                      clear hb7
                      refine wpAny_ready (rs := [7]) (by kernel_rfl) (by simp) ?_
                      refine AllReady.cons rfl (fun K hK => ?_) AllReady.nil
                      rw [if_pos (by rfl)]
                      have HK := Lib.hid hK
                      clear hK
                      go_simp
                      refine KA.out.mono ?_
                      rintro e w5 ⟨rfl, h3, h4, h5⟩
                      refine HK.out _ _ ?_
                      clear HK K
                      change wpAny _ _ _ _ _ _ (b7.put (some 89) (.agg z.toArray)) _
                      generalize hb8 : b7.put (some 89) (.agg z.toArray) = b8
                      replace e6 := pf hb8 (by decide) e6
                      replace e10 := pf hb8 (by decide) e10
                      replace e11 := pf hb8 (by decide) e11
                      replace e82 := pf hb8 (by decide) e82
                      replace e83 := pf hb8 (by decide) e83
                      replace e84 := pf hb8 (by decide) e84
                      replace e86 := pf hb8 (by decide) e86
                      replace e87 := pf hb8 (by decide) e87
                      replace e88 := pf hb8 (by decide) e88
                      replace e85 := pf hb8 (by decide) e85
                      have e89 := ps hb8 hsz (by decide)
                      replace hsz := pz hb8 hsz
                      have Hb8 := Lib.hid hb8
                      clear hb8
                      refine wpAny_take (i := 8) (v := .pointer (some ⟨w.heap.size, q * 64, none⟩)) rfl (by kernel_rfl) (by kernel_rfl) (by kernel_rfl) (fun _ _ _ h => h) (Or.inl ⟨by rfl, by intro w'; go_simp⟩) ?_
                      change wpAny _ _ _ _ _ _ (b8.put (some 90) (.pointer (some ⟨w.heap.size, q * 64, none⟩))) _
                      generalize hb9 : b8.put (some 90) (.pointer (some ⟨w.heap.size, q * 64, none⟩)) = b9
                      replace e6 := pf hb9 (by decide) e6
                      replace e10 := pf hb9 (by decide) e10
                      replace e11 := pf hb9 (by decide) e11
                      replace e82 := pf hb9 (by decide) e82
                      replace e83 := pf hb9 (by decide) e83
                      replace e84 := pf hb9 (by decide) e84
                      replace e86 := pf hb9 (by decide) e86
                      replace e87 := pf hb9 (by decide) e87
                      replace e88 := pf hb9 (by decide) e88
                      replace e85 := pf hb9 (by decide) e85
                      replace e89 := pf hb9 (by decide) e89
                      have e90 := ps hb9 hsz (by decide)
                      replace hsz := pz hb9 hsz
                      have Hb9 := Lib.hid hb9
                      clear hb9
                      refine wpAny_ready (rs := [9]) (by kernel_rfl) (by simp) ?_
                      refine AllReady.cons rfl (fun K hK => ?_) AllReady.nil
                      rw [if_pos (by rfl)]
                      refine wp_store_mid 121 (.tmp 90) (.tmp 89) rfl w.heap.size (q * 64) z.toArray (by simpa [Act.eval] using e90) (by simpa [Act.eval] using e89) (by rw [Z3.out]; exact h3) (by rw [Z3.out]; exact size41) Z4.out ?_
                      refine hK _ _ ?_
                      clear hK K
                      refine wpAny_done (by kernel_rfl) ?_ _
                      have HM6 := Lib.hid (put_row h4 hqn HZ.out)
                      have HB6 := Lib.hid (below_setCells' (Nat.le_refl _) z.toArray.toList (q * 64) _ (on HB2.out h5))
                      change Exit.inBlock 8 (Exit.then _ _) Exit.normal b9 _
                      rw [← Hb9.out, ← Hb8.out, ← Hb7.out, ← Hb6.out, ← Hb5.out, ← Hb4.out, ← Hb3.out, ← Hb2.out, ← Hb1.out, ← HA.out]
                      simp only [Act.put, List.setIfInBounds_toArray, List.set_cons_zero, List.set_cons_succ]
                      go_wp2
                      go_roundw
                      case rel => exact ⟨q + 1, by omega, by go_num, HM6.out.congr (fun i j _ _ => step_true HM2.out HTT.out i j), HB6.out⟩
                      case measure => simp [intOf]; omega
                · obtain rfl : n = q := by omega
                  go_wp2
                  go_roundw
                  case rel => exact ⟨d + 1, by omega, by go_num, HT.out.congr (fun i j hi _ => by rw [if_pos hi]; rfl), HB.out⟩
                  case measure => simp [intOf]; omega
            · obtain rfl : n = d := by omega
              have mk1 := run_make_row' (P := Tryz.prog) 82 125 (.slice none 0 0) 24 under23 info34 rfl .i64 .i64 n (by omega) (by omega)
              go_wp2
              have bO : Below wr.heap.size wr (wr.alloc (.cells (madeCells #[.slice none 0 0] n) 125)) := (Below.refl _ wr).alloc (Nat.le_refl _) _
              obtain ⟨O, hO⟩ : ∃ O, O = wr.heap.size := ⟨_, rfl⟩
              have HO1 := Lib.hid (show (wr.alloc (.cells (madeCells #[.slice none 0 0] n) 125)).rowIs O 125 n (fun _ => .slice none 0 0) by rw [hO]; exact World.rowIs_made wr _ n 125)
              have HT1 := Lib.hid (HT.out.below bO)
              have HB1 := Lib.hid (on HB.out bO)
              have LO := Lib.hid (show w.heap.size < O by rw [hO]; exact HT.out.lt)
              rw [← hO]
              generalize wr.alloc (.cells (madeCells #[.slice none 0 0] n) 125) = wo at *
              clear mk1 bO HT HB hO
              go_loopw [97] (fun i wr => ∃ q : Nat, q ≤ n ∧ i = .int .i64 q ∧ Hid (Mat wr w.heap.size n (war (start L) n)) ∧ Hid (Below w.heap.size w wr) ∧ Hid (Outs wr O n q (war (start L) n))) (fun i _ => n - (intOf i).toNat)
              case atStart => exact ⟨0, by omega, rfl, HT1.out, HB1.out, ⟨fun _ => 0, HO1.out.congr (by intro i _; simp), fun x hx => by omega, fun x hx => by omega, fun x y _ hy => by omega⟩⟩
              case round =>
                clear HT1 HB1 HO1
                obtain ⟨q, hq, rfl, HT, HB, HO⟩ := hrel
                by_cases hqn : q < n
                · have mk2 := run_make_row' (P := Tryz.prog) 125 4 (.bool false) 1 under34 info4' rfl .i64 .i64 n (by omega) (by omega)
                  obtain ⟨g, ho1, ho2⟩ := HO.out
                  have s1 := out_step hqn HT.out HB.out (Nat.le_refl _) LO.out HO.out
                  rw [World.setCell_alloc_past _ O q _ ho1.lt] at s1
                  obtain ⟨w2, hw2⟩ : ∃ w2, w2 = (wr.setCell ⟨O, q, none⟩ (.slice (some ⟨wr.heap.size, 0, none⟩) n n)).alloc (.cells (madeCells #[.bool false] n) 4) := ⟨_, rfl⟩
                  rw [← hw2] at s1
                  have hs2 : (wr.setCell ⟨O, q, none⟩ (.slice (some ⟨wr.heap.size, 0, none⟩) n n)).heap.size = wr.heap.size := by simp
                  have hm2 : w2.rowIs wr.heap.size 4 n (fun _ => .bool false) := by
                    have h := World.rowIs_made (wr.setCell ⟨O, q, none⟩ (.slice (some ⟨wr.heap.size, 0, none⟩) n n)) (.bool false) n 4
                    rw [hs2] at h
                    rw [hw2]
                    exact h
                  have hb2 : Mat w2 w.heap.size n (war (start L) n) := by
                    refine HT.out.of_block ?_
                    rw [hw2, Below.heap_alloc _ _ _ (by rw [hs2]; exact HT.out.lt)]
                    exact Deep.blk_setCell_other _ _ _ _ (by have := LO.out; show w.heap.size ≠ O; omega)
                  have cX : w2.cell? ⟨O, q, none⟩ = some (.slice (some ⟨wr.heap.size, 0, none⟩) n n) := by
                    have := (ho1.set q (.slice (some ⟨wr.heap.size, 0, none⟩) n n)).alloc (.cells (madeCells #[.bool false] n) 4)
                    rw [← hw2] at this
                    have := this.cell hqn
                    rw [if_pos rfl] at this
                    exact this
                  have SRC := Lib.hid (show ∀ j v, (bl n (war (start L) n q))[j]? = some v → w2.drew.cell? ((⟨w.heap.size, q * 64, none⟩ : Addr).add j) = some v by
                    intro j v hv
                    have hj : j < n := by have := (List.getElem?_eq_some_iff.1 hv).1; rwa [bl_length] at this
                    rw [bl_get _ _ _ hj] at hv
                    rw [Addr.add_mid, ← hv]
                    exact hb2.cell hqn (by omega))
                  have CC := Lib.hid (show ∀ j, j < (bl n (war (start L) n q)).length → (w2.drew.cell? ⟨wr.heap.size, 0 + j, none⟩).isSome = true by
                    intro j hj
                    rw [bl_length] at hj
                    rw [Nat.zero_add]
                    have := hm2.cell hj
                    show (w2.cell? _).isSome = true
                    rw [this]
                    rfl)
                  have FF := Lib.hid (show ∀ j, j < (bl n (war (start L) n q)).length → w2.drew.frozen? ⟨wr.heap.size, 0 + j, none⟩ = false from fun j _ => hm2.frozen _)
                  have OO := Lib.hid (show ∀ v ∈ bl n (war (start L) n q), v.oneCell' = true by intro v hv; simp [bl] at hv; obtain ⟨a, _, rfl⟩ := hv; rfl)
                  have S1 := Lib.hid s1
                  have HW2 := Lib.hid hw2
                  have LN := Lib.hid (bl_length n (war (start L) n q))
                  clear s1 hw2 hs2 hm2 hb2
                  have c0 := ho1.cell hqn
                  rw [if_neg (by omega)] at c0
                  have f0 := ho1.frozen q
                  have hlt := ho1.lt
                  have i1 : (0 : Int) ≤ (q : Int) := by omega
                  have i2 : (q : Int) < 64 := by omega
                  have i3 : (q : Int) < (n : Int) := by omega
                  have hn64 : (n : Int) ≤ 64 := by omega
                  clear ho1 ho2
                  go_wp2
                  rw [← HW2.out]
                  clear HT HB HO c0 f0 hlt
                  go_region_law (refine step_copy rfl (.tmp 108) (.tmp 112) rfl wr.heap.size n n ⟨w.heap.size, q * 64, none⟩ 64 (bl n (war (start L) n q)) rfl rfl under34 LN.out SRC.out CC.out FF.out OO.out ?_)
                  go_wp2
                  go_roundw
                  case rel => exact ⟨q + 1, by omega, by go_num, S1.out.1, S1.out.2.1, S1.out.2.2⟩
                  case measure => simp [intOf]; omega
                · obtain rfl : n = q := by omega
                  go_wp2
                  go_ret2
                  exact ⟨HB.out, .inl ⟨all_ok HOK.out, some ⟨O, 0, none⟩, rfl, outs_is HO.out, O, rfl, Nat.le_of_lt LO.out, HO.out⟩⟩
end Go.Proofs.YtajilghlcfheiaaGreatDoor.Rea
/- Whether two lists of lists of bools are the same, whether one is a square, and what a bound's sides are: the program's contracts. -/
namespace Go.Proofs.YtajilghlcfheiaaGreatDoor.Rea
open Go.RowKit
/-- the same bools. -/
def same (n : Nat) (f g : Nat → Bool) : Bool := (List.range n).all fun j => f j == g j
def sameM (n : Nat) (M N : Nat → Nat → Bool) : Bool := (List.range n).all fun i => same n (M i) (N i)
theorem same_no {n k : Nat} {f g : Nat → Bool} (hk : k < n) (h : f k ≠ g k) : same n f g = false := by
  rw [Bool.eq_false_iff]
  intro ha
  simp only [same, List.all_eq_true, List.mem_range, beq_iff_eq] at ha
  exact h (ha k hk)
theorem same_yes {n : Nat} {f g : Nat → Bool} (h : ∀ j, j < n → f j = g j) : same n f g = true := by
  simp only [same, List.all_eq_true, List.mem_range, beq_iff_eq]
  exact h
theorem sameM_no {n k : Nat} {M N : Nat → Nat → Bool} (hk : k < n) (h : same n (M k) (N k) = false) : sameM n M N = false := by
  rw [Bool.eq_false_iff]
  intro ha
  simp only [sameM, List.all_eq_true, List.mem_range] at ha
  rw [ha k hk] at h
  cases h
theorem sameM_yes {n : Nat} {M N : Nat → Nat → Bool} (h : ∀ i, i < n → same n (M i) (N i) = true) : sameM n M N = true := by
  simp only [sameM, List.all_eq_true, List.mem_range]
  exact h
theorem IsM.below {w w' : World} {a : Option Addr} {n : Nat} {M : Nat → Nat → Bool} (h : IsM w a n M) (hb : Below w.heap.size w w') : IsM w' a n M := by
  intro i hi
  obtain ⟨O, e, g, h1, h2⟩ := h i hi
  exact ⟨O, e, g, (hb.cell (World.block_lt_of_cell? w _ h1)).trans h1, fun j hj => (hb.cell (World.block_lt_of_cell? w _ (h2 j hj))).trans (h2 j hj)⟩
/-- bools in a block. -/
def Bs (w : World) (g n : Nat) (f : Nat → Bool) : Prop := ∀ j, j < n → w.cell? ⟨g, j, none⟩ = some (.bool (f j))
theorem Bs.below {w w' : World} {g n : Nat} {f : Nat → Bool} (h : Bs w g n f) (hb : Below w.heap.size w w') : Bs w' g n f := fun j hj => (hb.cell (World.block_lt_of_cell? w _ (h j hj))).trans (h j hj)
set_option maxHeartbeats 1000000 in
theorem bools_any (ga gb n : Nat) (hn : n ≤ 64) (f g : Nat → Bool) (w : World) (ha : Bs w ga n f) (hb : Bs w gb n g) : Calls Tryz.prog 116 #[.slice (some ⟨ga, 0, none⟩) n n, .slice (some ⟨gb, 0, none⟩) n n] w fun e w' => e = .returned (.bool (same n f g)) ∧ Below w.heap.size w w' := by
  have HA := Lib.hid ha
  have HB := Lib.hid hb
  clear ha hb
  go_enter Tryz.func116, Tryz.ntmps116
  go_wp2
  go_loopw [5] (fun i wr => ∃ k : Nat, k ≤ n ∧ i = .int .i64 k ∧ Hid (∀ j, j < k → f j = g j) ∧ Hid (Below w.heap.size w wr)) (fun i _ => n - (intOf i).toNat)
  case atStart => exact ⟨0, by omega, rfl, fun j hj => by omega, Below.refl _ w⟩
  case round =>
    obtain ⟨k, hk, rfl, HE, HW⟩ := hrel
    by_cases hlt : k < n
    · have c1 := HA.out.below HW.out k hlt
      have c2 := HB.out.below HW.out k hlt
      obtain ⟨p, hp⟩ : ∃ p, p = f k := ⟨_, rfl⟩
      obtain ⟨q, hq⟩ : ∃ q, q = g k := ⟨_, rfl⟩
      rw [← hp] at c1
      rw [← hq] at c2
      have HP := Lib.hid hp
      have HQ := Lib.hid hq
      clear hp hq
      by_cases e : p = q
      · subst e
        go_wp2
        go_region
        go_wp2
        go_roundw
        case rel => exact ⟨k + 1, by omega, by go_num, fun j hj => by
          by_cases ej : j = k
          · subst ej; rw [← HP.out, ← HQ.out]
          · exact HE.out j (by omega), HW.out.drew⟩
        case measure => simp [intOf]; omega
      · have HN := Lib.hid e
        have e1 : (p == q) = false := by simpa using e
        have e2 : (p != q) = true := by simpa using e
        go_wp2
        go_region
        go_wp2
        go_ret
        exact ⟨ret_bool (same_no hlt (by rw [← HP.out, ← HQ.out]; exact HN.out)).symm, HW.out.drew⟩
    · obtain rfl : k = n := by omega
      go_wp2
      go_ret
      exact ⟨ret_bool (same_yes HE.out).symm, HW.out⟩
set_option maxHeartbeats 2000000 in
theorem lists_any (a b : Option Addr) (n c : Nat) (hn : n ≤ 64) (M N : Nat → Nat → Bool) (w : World) (ha : IsM w a n M) (hb : IsM w b n N) : Calls Tryz.prog 41 #[.slice a n n, .slice b n c] w fun e w' => e = .returned (.bool (sameM n M N)) ∧ Below w.heap.size w w' := by
  have HA := Lib.hid ha
  have HB := Lib.hid hb
  clear ha hb
  go_enter Tryz.func41, Tryz.ntmps41
  go_wp2
  go_loopw [5] (fun i wr => ∃ k : Nat, k ≤ n ∧ i = .int .i64 k ∧ Hid (∀ j, j < k → same n (M j) (N j) = true) ∧ Hid (Below w.heap.size w wr)) (fun i _ => n - (intOf i).toNat)
  case atStart => exact ⟨0, by omega, rfl, fun j hj => by omega, Below.refl _ w⟩
  case round =>
    obtain ⟨k, hk, rfl, HE, HW⟩ := hrel
    by_cases hlt : k < n
    · obtain ⟨O1, e1, g1, c1, d1⟩ := HA.out.below HW.out k hlt
      obtain ⟨O2, e2, g2, c2, d2⟩ := HB.out.below HW.out k hlt
      subst e1 e2
      obtain ⟨r, hr⟩ : ∃ r, r = same n (M k) (N k) := ⟨_, rfl⟩
      have D1 := Lib.hid (show Bs wr g1 n (M k) from d1)
      have D2 := Lib.hid (show Bs wr g2 n (N k) from d2)
      have KC := Lib.hid (fun W (h : W.cell? ⟨O1, k, none⟩ = some (.slice (some ⟨g1, 0, none⟩) n n) ∧ W.cell? ⟨O2, k, none⟩ = some (.slice (some ⟨g2, 0, none⟩) n n) ∧ Below wr.heap.size wr W) => (by
        rw [hr]
        refine (bools_any g1 g2 n hn (M k) (N k) W (D1.out.below h.2.2) (D2.out.below h.2.2)).mono ?_
        rintro e W' ⟨rfl, hb⟩
        exact ⟨rfl, (hb.cell (World.block_lt_of_cell? W _ h.1)).trans h.1, (hb.cell (World.block_lt_of_cell? W _ h.2.1)).trans h.2.1, on h.2.2 hb⟩ :
          Calls Tryz.prog 116 #[.slice (some ⟨g1, 0, none⟩) n n, .slice (some ⟨g2, 0, none⟩) n n] W fun e W' => e = .returned (.bool r) ∧ W'.cell? ⟨O1, k, none⟩ = some (.slice (some ⟨g1, 0, none⟩) n n) ∧ W'.cell? ⟨O2, k, none⟩ = some (.slice (some ⟨g2, 0, none⟩) n n) ∧ Below wr.heap.size wr W'))
      have RF := Below.refl wr.heap.size wr
      have i0 : (0 : Int) ≤ (k : Int) := by omega
      have i1 : (k : Int) < (n : Int) := by omega
      have i6 : ((k : Int)).toNat = k := by omega
      have HR := Lib.hid hr
      clear hr d1 d2
      go_wp2
      go_region_held3 (fun W => W.cell? ⟨O1, k, none⟩ = some (.slice (some ⟨g1, 0, none⟩) n n) ∧ W.cell? ⟨O2, k, none⟩ = some (.slice (some ⟨g2, 0, none⟩) n n) ∧ Below wr.heap.size wr W) (first | exact ⟨by assumption, by assumption, by first | assumption | exact Below.drew (by assumption)⟩)
        (first | (go_at_call 116; refine (KC.out _ ⟨by assumption, by assumption, by first | assumption | exact Below.drew (by assumption)⟩).mono ?_; rintro e w' ⟨rfl, h1, h2, h3⟩))
      have HW3 := Lib.hid (on HW.out (c := _) (by assumption))
      cases r with
      | true =>
        go_wp2
        go_roundw
        case rel => exact ⟨k + 1, by omega, by go_num, fun j hj => by
          by_cases ej : j = k
          · subst ej; exact HR.out.symm
          · exact HE.out j (by omega), HW3.out⟩
        case measure => simp [intOf]; omega
      | false =>
        go_wp2
        go_ret
        exact ⟨ret_bool (sameM_no hlt HR.out.symm).symm, HW3.out⟩
    · obtain rfl : k = n := by omega
      go_wp2
      go_ret
      exact ⟨ret_bool (sameM_yes HE.out).symm, HW.out⟩
end Go.Proofs.YtajilghlcfheiaaGreatDoor.Rea
/- What is alive of reaches: some answers that the document fixes; and where Of is refused for its size. -/
namespace Go.Proofs.YtajilghlcfheiaaGreatDoor.Rea
open Go.RowKit
theorem of_lim (a : Option Addr) (cap m : Nat) (n : Int) (h : n < 0 ∨ 64 < n ∨ 256 < m) (hm : (m : Int) ≤ 9223372036854775807) (w : World) : Calls Tryz.prog 39 #[.int .i64 n, .slice a m cap] w fun e w' => e = .returned (.tuple #[.slice none 0 0, .int .i64 3]) ∧ Below w.heap.size w w' := by
  by_cases h1 : n < 0
  · have d1 : decide (n < 0) = true := by simpa using h1
    go_enter Tryz.func39, Tryz.ntmps39
    go_wp2
    go_ret2
    exact ⟨rfl, Below.refl _ w⟩
  · have d1 : decide (n < 0) = false := by simpa using h1
    by_cases h2 : 64 < n
    · have d2 : decide (64 < n) = true := by simpa using h2
      go_enter Tryz.func39, Tryz.ntmps39
      go_wp2
      go_ret2
      exact ⟨rfl, Below.refl _ w⟩
    · have d2 : decide (64 < n) = false := by simpa using h2
      have d3 : decide (256 < (m : Int)) = true := by simp; omega
      clear h
      go_enter Tryz.func39, Tryz.ntmps39
      go_wp2
      go_ret2
      exact ⟨rfl, Below.refl _ w⟩
theorem of_ok (a : Option Addr) (cap : Nat) (L : List Bd) (n m : Nat) (hn : n ≤ 64) (hm : m = L.length) (hm' : m ≤ 256) (ho : L.all (·.ok n) = true) (w : World) (hL : Bds w a L) : Calls Tryz.prog 39 #[.int .i64 (n : Int), .slice a m cap] w fun e w' => Below w.heap.size w w' ∧ ∃ a', e = .returned (.tuple #[.slice a' n n, .int .i64 0]) ∧ IsM w' a' n (reach n L) ∧ ∃ O, a' = some ⟨O, 0, none⟩ ∧ w.heap.size ≤ O ∧ Outs w' O n n (reach n L) :=
  (of_any a cap L n m hn hm hm' w hL).mono (by
    rintro e w' ⟨hb, ⟨_, h⟩ | ⟨h, _⟩⟩
    · exact ⟨hb, h⟩
    · rw [ho] at h
      cases h)
theorem of_bad (a : Option Addr) (cap : Nat) (L : List Bd) (n m : Nat) (hn : n ≤ 64) (hm : m = L.length) (hm' : m ≤ 256) (ho : L.all (·.ok n) = false) (w : World) (hL : Bds w a L) : Calls Tryz.prog 39 #[.int .i64 (n : Int), .slice a m cap] w fun e w' => Below w.heap.size w w' ∧ e = .returned (.tuple #[.slice none 0 0, .int .i64 1]) :=
  (of_any a cap L n m hn hm hm' w hL).mono (by
    rintro e w' ⟨hb, ⟨h, _⟩ | ⟨_, h⟩⟩
    · rw [ho] at h
      cases h
    · exact ⟨hb, h⟩)
end Go.Proofs.YtajilghlcfheiaaGreatDoor.Rea
/- A list of bounds that came in, as the row reads it: where its cells lie. -/
namespace Go.Proofs.YtajilghlcfheiaaGreatDoor.Rea
open Go.RowKit Go.ChangeShapes Go.WideShapes Go.Deep
theorem nat_of_u64 {a : Int} (h : (Lit.int .u64 a).wf = true) : ∃ x : Nat, a = (x : Int) ∧ x < 18446744073709551616 := by
  simp [Lit.wf, IntKind.min, IntKind.max, IntKind.signed, IntKind.bits] at h
  exact ⟨a.toNat, by omega, by omega⟩
theorem spot_none {w : World} {x : Addr} {v : Value} (h : w.cell? x = some v) : x = ⟨x.block, x.off, none⟩ := by
  unfold World.cell? at h
  split at h
  · split at h
    · cases h
    · rename_i hs
      cases x with
      | mk b o s => cases s with
        | none => rfl
        | some s => simp at hs
  · cases h
section
variable {H : Type} {enc : TypeId × Value → H} {w : World} {base : Nat} {spare : Nat → Bool} {held : Bool}
/-- a term's two cells. -/
theorem open_term {fuel : Nat} {c0 c1 : Value} {x : DataW H × List MemPlace} (h : DataW.trod enc Tryz.prog w base spare held fuel 97 [c0, c1] = some x) : ∃ (v : Bool) (n : Nat), c0 = .bool v ∧ c1 = .int .u64 (n : Int) ∧ n < 18446744073709551616 := by
  obtain ⟨y0, y1, n, _, _, h0, h1⟩ := trod_struct2 Tryz.underlying97 h
  have e0 : Tryz.prog.cellsOf 4 = 1 := by kernel_rfl
  have e1 : Tryz.prog.cellsOf 66 = 1 := by kernel_rfl
  simp [e0] at h0
  simp [e1] at h1
  obtain ⟨b, hb, _⟩ := DataW.trod_bool Tryz.underlying4 h0
  obtain ⟨m, hm, _, hw⟩ := DataW.trod_int Tryz.underlying66 h1
  cases hb
  cases hm
  obtain ⟨k, rfl, hk⟩ := nat_of_u64 hw
  exact ⟨b, k, rfl, rfl, hk⟩
set_option maxRecDepth 100000 in
theorem open_bound {fuel : Nat} {c0 c1 c2 c3 : Value} {x : DataW H × List MemPlace} (h : DataW.trod enc Tryz.prog w base spare held fuel 99 [c0, c1, c2, c3] = some x) : ∃ b : Bd, c0 = .bool b.av ∧ c1 = .int .u64 (b.an : Int) ∧ c2 = .bool b.bv ∧ c3 = .int .u64 (b.bn : Int) ∧ b.an < 18446744073709551616 ∧ b.bn < 18446744073709551616 := by
  obtain ⟨y0, y1, n, _, _, h0, h1⟩ := trod_struct2 Tryz.underlying99 h
  have e0 : Tryz.prog.cellsOf 97 = 2 := by kernel_rfl
  simp [e0] at h0 h1
  obtain ⟨v0, n0, rfl, rfl, l0⟩ := open_term h0
  obtain ⟨v1, n1, rfl, rfl, l1⟩ := open_term h1
  exact ⟨⟨v0, n0, v1, n1⟩, rfl, rfl, rfl, rfl, l0, l1⟩
theorem list_of {len : Nat} {P : Nat → Bd → Prop} (h : ∀ k, k < len → ∃ b, P k b) : ∃ L : List Bd, L.length = len ∧ ∀ k (hk : k < L.length), P k L[k] := by
  induction len with
  | zero => exact ⟨[], rfl, fun k hk => by simp at hk⟩
  | succ len ih =>
    obtain ⟨L, h1, h2⟩ := ih (fun k hk => h k (by omega))
    obtain ⟨b, hb⟩ := h len (by omega)
    refine ⟨L ++ [b], by simp [h1], fun k hk => ?_⟩
    simp [h1] at hk
    by_cases e : k < L.length
    · rw [List.getElem_append_left e]
      exact h2 k e
    · have e2 : k = len := by omega
      subst e2
      rw [List.getElem_append_right (by omega)]
      simpa using hb
set_option maxRecDepth 100000 in
theorem open_bounds {v : Value} {d : DataW H} {p : List MemPlace} (ho : ∃ r b0, Value.okWide Tryz.prog w r b0 23 v) (h : DataW.Trod enc Tryz.prog w base spare held 23 v d p) :
    ∃ (a : Option Addr) (len cap : Nat) (L : List Bd), v = .slice a len cap ∧ L.length = len ∧ len ≤ maxLen ∧ Bds w a L := by
  obtain ⟨r, b0, ho⟩ := ho
  obtain ⟨a0, len0, cap0, rfl⟩ := okWide_slice Tryz.underlying23 ho
  obtain ⟨fuel, hf⟩ := h
  rcases open_slice Tryz.underlying23 hf with ⟨hcs, _⟩ | ⟨a, len, cap, m, n, D, Pl, hcs, _, hl, hm, hmm, _, hi⟩
  · simp [Value.cells] at hcs
    obtain ⟨rfl, rfl, rfl⟩ := hcs
    exact ⟨none, 0, 0, [], rfl, rfl, by unfold maxLen; omega, fun k hk => by simp at hk⟩
  · simp [Value.cells] at hcs
    obtain ⟨rfl, rfl, rfl⟩ := hcs
    have e4 : Tryz.prog.cellsOf 99 = 4 := by kernel_rfl
    have hle : len0 ≤ m := by rw [hmm]; split <;> omega
    obtain ⟨L, h1, h2⟩ := list_of (len := len0) (P := fun k b => ∃ bb o, some a = some ⟨bb, o, none⟩ ∧ w.cell? ⟨bb, o + k * 4, none⟩ = some (.bool b.av) ∧ w.cell? ⟨bb, o + k * 4 + 1, none⟩ = some (.int .u64 (b.an : Int)) ∧ w.cell? ⟨bb, o + k * 4 + 2, none⟩ = some (.bool b.bv) ∧ w.cell? ⟨bb, o + k * 4 + 3, none⟩ = some (.int .u64 (b.bn : Int)) ∧ b.an < 18446744073709551616 ∧ b.bn < 18446744073709551616) (by
      intro k hk
      have h0 : ∃ c, w.cell? a = some c := by
        obtain ⟨cs', hc, ht⟩ := hi 0 (by omega)
        obtain ⟨_, hcl, hat⟩ := World.cells?_some hc
        have := hat 0 (by rw [e4]; omega)
        have ha : (a.add (0 * Tryz.prog.cellsOf 99)).add 0 = a := by simp [Addr.add]
        rw [ha] at this
        rw [e4] at hcl
        exact ⟨_, this.trans (List.getElem?_eq_getElem (by omega))⟩
      obtain ⟨c, hc0⟩ := h0
      have ea := spot_none hc0
      obtain ⟨bb, o, sp⟩ := a
      obtain rfl : sp = none := congrArg Addr.spot ea
      obtain ⟨cs', hc, ht⟩ := hi k (by omega)
      obtain ⟨_, hcl, hat⟩ := World.cells?_some hc
      rw [e4] at hcl hat
      match cs', hcl with
      | [c0, c1, c2, c3], _ =>
        obtain ⟨b, rfl, rfl, rfl, rfl, l1, l2⟩ := open_bound ht
        have g0 := hat 0 (by omega)
        have g1 := hat 1 (by omega)
        have g2 := hat 2 (by omega)
        have g3 := hat 3 (by omega)
        rw [Addr.add_mid, Addr.add_mid] at g0 g1 g2 g3
        exact ⟨b, bb, o, rfl, g0, g1, g2, g3, l1, l2⟩)
    exact ⟨some a, len0, cap0, L, rfl, h1, Nat.le_trans hl hm, h2⟩
end
end Go.Proofs.YtajilghlcfheiaaGreatDoor.Rea
/- Appending bounds: a row of bounds that the call owns. -/
namespace Go.Proofs.YtajilghlcfheiaaGreatDoor.Rea
open Go.RowKit
def Bd.cells (b : Bd) : List Value := [.bool b.av, .int .u64 (b.an : Int), .bool b.bv, .int .u64 (b.bn : Int)]
def flat (L : List Bd) : List Value := L.flatMap Bd.cells
/-- their numbers are numbers. -/
def Fit (L : List Bd) : Prop := ∀ b ∈ L, b.an < 18446744073709551616 ∧ b.bn < 18446744073709551616
theorem flat_length (L : List Bd) : (flat L).length = L.length * 4 := by
  induction L with
  | nil => rfl
  | cons b L ih => simp [flat, Bd.cells] at ih ⊢; omega
theorem flat_append (L K : List Bd) : flat (L ++ K) = flat L ++ flat K := by simp [flat]
theorem flat_one (L : List Bd) : ∀ u ∈ flat L, u.oneCell' = true := by
  intro u hu
  simp only [flat, List.mem_flatMap, Bd.cells] at hu
  obtain ⟨b, _, hu⟩ := hu
  simp at hu
  rcases hu with rfl | rfl | rfl | rfl <;> rfl
theorem flat_get (L : List Bd) : ∀ k (hk : k < L.length), (flat L)[k * 4]? = some (.bool L[k].av) ∧ (flat L)[k * 4 + 1]? = some (.int .u64 (L[k].an : Int)) ∧ (flat L)[k * 4 + 2]? = some (.bool L[k].bv) ∧ (flat L)[k * 4 + 3]? = some (.int .u64 (L[k].bn : Int)) := by
  induction L with
  | nil => intro k hk; simp at hk
  | cons b L ih =>
    intro k hk
    have e : flat (b :: L) = Bd.cells b ++ flat L := rfl
    cases k with
    | zero => simp [e, Bd.cells]
    | succ k =>
      have h := ih k (by simpa using hk)
      have e4 : (Bd.cells b).length = 4 := rfl
      have s : ∀ i, (flat (b :: L))[(k + 1) * 4 + i]? = (flat L)[k * 4 + i]? := fun i => by
        rw [e, List.getElem?_append_right (by rw [e4]; omega), e4]
        congr 1
        omega
      have s0 := s 0
      simp only [Nat.add_zero] at s0
      rw [s0, s 1, s 2, s 3]
      simpa using h
theorem Bds.fit {w : World} {a : Option Addr} {L : List Bd} (h : Bds w a L) : Fit L := by
  intro b hb
  obtain ⟨k, hk, rfl⟩ := List.getElem_of_mem hb
  obtain ⟨_, _, _, _, _, _, _, l1, l2⟩ := h k hk
  exact ⟨l1, l2⟩
/-- What lies where bounds lie, cell by cell. -/
theorem Bds.flat {w : World} {b o : Nat} {L : List Bd} (h : Bds w (some ⟨b, o, none⟩) L) : ∀ j u, (flat L)[j]? = some u → w.cell? ((⟨b, o, none⟩ : Addr).add j) = some u := by
  intro j u hu
  have hj : j < L.length * 4 := by rw [← flat_length]; exact (List.getElem?_eq_some_iff.1 hu).1
  have hk : j / 4 < L.length := by omega
  obtain ⟨b', o', e, c0, c1, c2, c3, _, _⟩ := h (j / 4) hk
  obtain ⟨rfl, rfl⟩ : b = b' ∧ o = o' := by simpa using e
  obtain ⟨g0, g1, g2, g3⟩ := flat_get L (j / 4) hk
  have hadd : (⟨b, o, none⟩ : Addr).add j = ⟨b, o + j, none⟩ := by unfold Addr.add; split <;> simp_all
  rw [hadd]
  have hr : j % 4 = 0 ∨ j % 4 = 1 ∨ j % 4 = 2 ∨ j % 4 = 3 := by omega
  rcases hr with hr | hr | hr | hr
  · obtain rfl : u = .bool L[j / 4].av := by rw [show j / 4 * 4 = j by omega, hu] at g0; exact Option.some.inj g0
    rw [← c0]; congr 2; omega
  · obtain rfl : u = .int .u64 (L[j / 4].an : Int) := by rw [show j / 4 * 4 + 1 = j by omega, hu] at g1; exact Option.some.inj g1
    rw [← c1]; congr 2; omega
  · obtain rfl : u = .bool L[j / 4].bv := by rw [show j / 4 * 4 + 2 = j by omega, hu] at g2; exact Option.some.inj g2
    rw [← c2]; congr 2; omega
  · obtain rfl : u = .int .u64 (L[j / 4].bn : Int) := by rw [show j / 4 * 4 + 3 = j by omega, hu] at g3; exact Option.some.inj g3
    rw [← c3]; congr 2; omega
/-- Bounds that the call itself appended. -/
def Own (base : Nat) (w : World) (v : Value) (L : List Bd) : Prop := w.ownsRow base 99 4 v L.length (flat L) ∧ Fit L
theorem Own.nil (base : Nat) (w : World) : Own base w (.slice none 0 0) [] := ⟨World.ownsRow_nil w base 99 4, fun b hb => by simp at hb⟩
theorem Own.bds {base : Nat} {w : World} {v : Value} {L : List Bd} (h : Own base w v L) : ∃ a cap, v = .slice a L.length cap ∧ Bds w a L ∧ (a = none → cap = 0) := by
  obtain ⟨h1, h2⟩ := h
  rcases h1.2 with ⟨rfl, h0⟩ | ⟨g, cap, cur, rfl, _⟩
  · refine ⟨none, 0, by rw [h0], fun k hk => by omega, fun _ => rfl⟩
  · refine ⟨some ⟨g, 0, none⟩, cap, rfl, ?_, fun h => by cases h⟩
    intro k hk
    obtain ⟨g0, g1, g2, g3⟩ := flat_get L k hk
    have hadd : ∀ j, (⟨g, 0, none⟩ : Addr).add j = ⟨g, 0 + j, none⟩ := fun j => by unfold Addr.add; split <;> simp_all
    have hc : ∀ j u, (flat L)[j]? = some u → w.cell? ⟨g, 0 + j, none⟩ = some u := fun j u hu => by rw [← hadd]; exact h1.cells (g := g) rfl j u hu
    have hf := h2 _ (List.getElem_mem hk)
    exact ⟨g, 0, rfl, hc _ _ g0, by rw [Nat.add_assoc]; exact hc _ _ g1, by rw [Nat.add_assoc]; exact hc _ _ g2, by rw [Nat.add_assoc]; exact hc _ _ g3, hf.1, hf.2⟩
theorem under22 : Tryz.prog.underlying 23 = some (.slice 99) := by kernel_rfl
theorem info33 : (Tryz.prog.info? 99).map (fun i => (i.zero, i.size, i.bytes)) = some (some (.agg #[.bool false, .int .u64 0, .bool false, .int .u64 0]), 4, 32) := by kernel_rfl
theorem own_append {base : Nat} {w : World} {ty : TypeId} {v : Value} {K L : List Bd} (h : Own base w v K) (a : Option Addr) (cap : Nat) (hL : Bds w a L) (ha : a = none → v = .slice none 0 0 ∧ cap = 0) (hs : K.length + L.length ≤ 1000) (hb : base ≤ w.heap.size) :
    ∃ v' w', (Builtin.append_ #[23, 23] ty #[v, .slice a L.length cap]).run Tryz.prog w = .ok v' w' ∧ Own base w' v' (K ++ L) ∧ w.grownBy w' v.ownBlock := by
  obtain ⟨i, hi, e⟩ := Option.map_eq_some_iff.1 info33
  simp only [Prod.mk.injEq] at e
  obtain ⟨e1, e2, e3⟩ := e
  have hfit : Fit (K ++ L) := fun b hb => by
    rcases List.mem_append.1 hb with hb | hb
    · exact h.2 b hb
    · exact hL.fit b hb
  cases a with
  | none =>
    obtain ⟨rfl, rfl⟩ := ha rfl
    have hL0 : L = [] := by
      cases L with
      | nil => rfl
      | cons b L => obtain ⟨_, _, e, _⟩ := hL 0 (by simp); cases e
    subst hL0
    have hK0 : K = [] := by
      rcases h.1.2 with ⟨_, h0⟩ | ⟨_, _, _, e, _⟩
      · exact List.eq_nil_of_length_eq_zero h0
      · cases e
    subst hK0
    refine ⟨.slice none 0 0, w, ?_, Own.nil base w, ⟨rfl, rfl, rfl, Nat.le_refl _, fun _ _ _ => rfl⟩⟩
    simp [Builtin.append_, run_underlying under22, sizeOf, typeInfo, hi, Builtin.lenOf, Builtin.firstCells]
  | some ad =>
    have hcells : ∀ j u, (flat L)[j]? = some u → w.cell? (ad.add j) = some u := by
      cases L with
      | nil => intro j u hu; simp [flat] at hu
      | cons b L =>
        obtain ⟨b', o', e, _⟩ := hL 0 (by simp)
        cases e
        exact hL.flat
    obtain ⟨v', w', hr, ho, hg, _⟩ := run_append_own (P := Tryz.prog) w base 23 ty 99 i _ 4 32 under22 hi e1 e2 e3 rfl (by decide) v K.length (flat K) h.1 ad L.length cap (flat L) (flat_length L) hcells (flat_one L) (by unfold maxLen; omega) (by omega) hb
    exact ⟨v', w', hr, ⟨by rw [List.length_append, flat_append]; exact ho, hfit⟩, hg⟩
theorem step_own {ops : Array Oper} {o : Oper} {a : Act} {w : World} {K' : Act → World → Prop} {Q : Exit → Act → World → Prop} {E : Prop} {base : Nat} {v : Value} {K L : List Bd}
    (hg : o.guard = none) (s x : Operand) (hop : o.op = .call { callee := .builtin .append, args := #[s, x], argTypes := #[23, 23] }) (hs : a.eval s = v) (h : Own base w v K)
    (ad : Option Addr) (m cap : Nat) (hx : a.eval x = .slice ad m cap) (hm : m = L.length) (hL : Bds w ad L) (ha : ad = none → v = .slice none 0 0 ∧ cap = 0) (hl : K.length + L.length ≤ 1000) (hb : base ≤ w.heap.size)
    (hK : ∀ v' w', Own base w' v' (K ++ L) → w.grownBy w' v.ownBlock → K' (a.put o.dst v') w') :
    if Region.wanted o (yielded ops a.tmps) = true then Oper.wp Tryz.prog o a w K' Q else E := by
  have hw : Region.wanted o (yielded ops a.tmps) = true := by simp [Region.wanted, hg]
  rw [if_pos hw]
  subst hm
  obtain ⟨v', w', hrun, r1, r2⟩ := own_append (ty := o.type) h ad cap hL ha hl hb
  unfold Oper.wp
  simp [execOp, hop, resolve, invoke, builtin, hs, hx, hrun, Result.andThen]
  exact hK v' w' r1 r2
theorem Own.below {base : Nat} {w w' : World} {v : Value} {L : List Bd} (h : Own base w v L) (hb : Below w.heap.size w w') : Own base w' v L :=
  ⟨h.1.kept (row := none) ⟨hb.os, hb.tape, hb.output, hb.size, fun k hk _ => hb.block k hk⟩ (by cases v.ownBlock <;> simp), h.2⟩
theorem Own.kept {base : Nat} {w w' : World} {v u : Value} {L : List Bd} (h : Own base w v L) (hg : w.grownBy w' u.ownBlock) (hne : v.ownBlock = none ∨ v.ownBlock ≠ u.ownBlock) : Own base w' v L := ⟨h.1.kept hg hne, h.2⟩
end Go.Proofs.YtajilghlcfheiaaGreatDoor.Rea
/- Appending bounds, more: in a row of operations; what lies behind, and ahead; those between two variables. -/
namespace Go.Proofs.YtajilghlcfheiaaGreatDoor.Rea
open Go.RowKit
theorem wpList_own {ops : Array Oper} {rest : List Oper} {o : Oper} {a : Act} {w : World} {Q : Exit → Act → World → Prop} {base : Nat} {v : Value} {K L : List Bd}
    (hg : o.guard = none) (s x : Operand) (hop : o.op = .call { callee := .builtin .append, args := #[s, x], argTypes := #[23, 23] }) (hs : a.eval s = v) (h : Own base w v K)
    (ad : Option Addr) (m cap : Nat) (hx : a.eval x = .slice ad m cap) (hm : m = L.length) (hL : Bds w ad L) (ha : ad = none → v = .slice none 0 0 ∧ cap = 0) (hl : K.length + L.length ≤ 1000) (hb : base ≤ w.heap.size)
    (hk : ∀ v' w', Own base w' v' (K ++ L) → w.grownBy w' v.ownBlock → wpList Tryz.prog ops Q rest (a.put o.dst v') w') : wpList Tryz.prog ops Q (o :: rest) a w :=
  wpList_plain hg fun K' hK => by
    subst hm
    obtain ⟨v', w', hrun, r1, r2⟩ := own_append (ty := o.type) h ad cap hL ha hl hb
    unfold Oper.wp
    simp [execOp, hop, resolve, invoke, builtin, hs, hx, hrun, Result.andThen]
    exact hK _ _ (hk v' w' r1 r2)
theorem Bds.drop {w : World} {b o : Nat} {L : List Bd} (h : Bds w (some ⟨b, o, none⟩) L) (k : Nat) : Bds w (some ⟨b, o + k * 4, none⟩) (L.drop k) := by
  intro j hj
  rw [List.length_drop] at hj
  obtain ⟨b', o', e, h0⟩ := h (k + j) (by omega)
  obtain ⟨rfl, rfl⟩ : b = b' ∧ o = o' := by simpa using e
  rw [List.getElem_drop]
  refine ⟨b, o + k * 4, rfl, ?_⟩
  rw [show o + k * 4 + j * 4 = o + (k + j) * 4 by omega]
  exact h0
theorem Bds.take {w : World} {a : Option Addr} {L : List Bd} (h : Bds w a L) (k : Nat) : Bds w a (L.take k) := by
  intro j hj
  rw [List.length_take] at hj
  rw [List.getElem_take]
  exact h j (by omega)
/-- the bounds between two variables. -/
def filt (L : List Bd) : List Bd := L.filter fun b => b.av && b.bv
theorem filt_take (L : List Bd) (k : Nat) (hk : k < L.length) : filt (L.take (k + 1)) = filt (L.take k) ++ (if L[k].av && L[k].bv then [L[k]] else []) := by
  rw [List.take_succ_eq_append_getElem hk]
  unfold filt
  rw [List.filter_append]
  congr 1
  by_cases h : (L[k].av && L[k].bv) = true
  · simp [h]
  · simp [h]
theorem filt_length (L : List Bd) : (filt L).length ≤ L.length := List.length_filter_le _ _
end Go.Proofs.YtajilghlcfheiaaGreatDoor.Rea
/- Appending bounds, whatever they lie in. -/
namespace Go.Proofs.YtajilghlcfheiaaGreatDoor.Rea
open Go.RowKit
theorem own_append2 {base : Nat} {w : World} {ty : TypeId} {v : Value} {K L : List Bd} (h : Own base w v K) (a : Option Addr) (cap : Nat) (hL : Bds w a L) (hs : K.length + L.length ≤ 1000) (hb : base ≤ w.heap.size) :
    ∃ v' w', (Builtin.append_ #[23, 23] ty #[v, .slice a L.length cap]).run Tryz.prog w = .ok v' w' ∧ Own base w' v' (K ++ L) ∧ w.grownBy w' v.ownBlock := by
  cases a with
  | none =>
    have hL0 : L = [] := by
      cases L with
      | nil => rfl
      | cons b L => obtain ⟨_, _, e, _⟩ := hL 0 (by simp); cases e
    subst hL0
    refine ⟨v, w, ?_, by simpa using h, World.grownBy.refl w _⟩
    obtain ⟨i, hi, _⟩ := Option.map_eq_some_iff.1 info33
    rcases h.1.2 with ⟨rfl, h0⟩ | ⟨g, cap', cur, rfl, _, _, hnc, _⟩
    · simp [Builtin.append_, run_underlying under22, sizeOf, typeInfo, hi, Builtin.lenOf, Builtin.firstCells]
    · simp [Builtin.append_, run_underlying under22, sizeOf, typeInfo, hi, Builtin.lenOf, Builtin.firstCells, hnc, storeCells]
  | some ad => exact own_append h (some ad) cap hL (fun h => by cases h) hs hb
theorem step_own2 {ops : Array Oper} {o : Oper} {a : Act} {w : World} {K' : Act → World → Prop} {Q : Exit → Act → World → Prop} {E : Prop} {base : Nat} {v : Value} {K L : List Bd}
    (hg : o.guard = none) (s x : Operand) (hop : o.op = .call { callee := .builtin .append, args := #[s, x], argTypes := #[23, 23] }) (hs : a.eval s = v) (h : Own base w v K)
    (ad : Option Addr) (m cap : Nat) (hx : a.eval x = .slice ad m cap) (hm : m = L.length) (hL : Bds w ad L) (hl : K.length + L.length ≤ 1000) (hb : base ≤ w.heap.size)
    (hK : ∀ v' w', Own base w' v' (K ++ L) → w.grownBy w' v.ownBlock → K' (a.put o.dst v') w') :
    if Region.wanted o (yielded ops a.tmps) = true then Oper.wp Tryz.prog o a w K' Q else E := by
  have hw : Region.wanted o (yielded ops a.tmps) = true := by simp [Region.wanted, hg]
  rw [if_pos hw]
  subst hm
  obtain ⟨v', w', hrun, r1, r2⟩ := own_append2 (ty := o.type) h ad cap hL hl hb
  unfold Oper.wp
  simp [execOp, hop, resolve, invoke, builtin, hs, hx, hrun, Result.andThen]
  exact hK v' w' r1 r2
theorem wpList_own2 {ops : Array Oper} {rest : List Oper} {o : Oper} {a : Act} {w : World} {Q : Exit → Act → World → Prop} {base : Nat} {v : Value} {K L : List Bd}
    (hg : o.guard = none) (s x : Operand) (hop : o.op = .call { callee := .builtin .append, args := #[s, x], argTypes := #[23, 23] }) (hs : a.eval s = v) (h : Own base w v K)
    (ad : Option Addr) (m cap : Nat) (hx : a.eval x = .slice ad m cap) (hm : m = L.length) (hL : Bds w ad L) (hl : K.length + L.length ≤ 1000) (hb : base ≤ w.heap.size)
    (hk : ∀ v' w', Own base w' v' (K ++ L) → w.grownBy w' v.ownBlock → wpList Tryz.prog ops Q rest (a.put o.dst v') w') : wpList Tryz.prog ops Q (o :: rest) a w :=
  wpList_plain hg fun K' hK => by
    subst hm
    obtain ⟨v', w', hrun, r1, r2⟩ := own_append2 (ty := o.type) h ad cap hL hl hb
    unfold Oper.wp
    simp [execOp, hop, resolve, invoke, builtin, hs, hx, hrun, Result.andThen]
    exact hK _ _ (hk v' w' r1 r2)
end Go.Proofs.YtajilghlcfheiaaGreatDoor.Rea
/- A list of bounds that came in: where there is none, it has no room. One bound by value. -/
namespace Go.Proofs.YtajilghlcfheiaaGreatDoor.Rea
open Go.RowKit Go.ChangeShapes Go.WideShapes Go.Deep
section
variable {H : Type} {enc : TypeId × Value → H} {w : World} {base : Nat} {spare : Nat → Bool} {held : Bool}
set_option maxRecDepth 100000 in
theorem open_bounds2 {v : Value} {d : DataW H} {p : List MemPlace} (ho : ∃ r b0, Value.okWide Tryz.prog w r b0 23 v) (h : DataW.Trod enc Tryz.prog w base spare held 23 v d p) :
    ∃ (a : Option Addr) (len cap : Nat) (L : List Bd), v = .slice a len cap ∧ L.length = len ∧ len ≤ maxLen ∧ Bds w a L ∧ (a = none → cap = 0) := by
  obtain ⟨a, len, cap, L, rfl, h1, h2, h3⟩ := open_bounds ho h
  refine ⟨a, len, cap, L, rfl, h1, h2, h3, ?_⟩
  obtain ⟨fuel, hf⟩ := h
  rcases open_slice Tryz.underlying23 hf with ⟨hcs, _⟩ | ⟨a', len', cap', m, n, D, Pl, hcs, _⟩
  · simp [Value.cells] at hcs
    exact fun _ => hcs.2.2
  · simp [Value.cells] at hcs
    rintro rfl
    cases hcs.1
set_option maxRecDepth 100000 in
/-- one bound. -/
theorem open_bound_value {v : Value} {d : DataW H} {p : List MemPlace} {r : Reach} {b0 : Nat} (ho : Value.okWide Tryz.prog w r b0 99 v) (h : DataW.Trod enc Tryz.prog w base spare held 99 v d p) :
    ∃ b : Bd, v = .agg #[.bool b.av, .int .u64 (b.an : Int), .bool b.bv, .int .u64 (b.bn : Int)] ∧ b.an < 18446744073709551616 ∧ b.bn < 18446744073709551616 := by
  obtain ⟨cs, rfl, hs⟩ := okWide_struct Tryz.underlying99 ho
  have e4 : Tryz.prog.cellsOf 99 = 4 := by kernel_rfl
  rw [e4] at hs
  obtain ⟨fuel, hf⟩ := h
  obtain ⟨l⟩ := cs
  match l, hs with
  | [c0, c1, c2, c3], _ =>
    obtain ⟨b, rfl, rfl, rfl, rfl, l1, l2⟩ := open_bound hf
    exact ⟨b, rfl, l1, l2⟩
end
end Go.Proofs.YtajilghlcfheiaaGreatDoor.Rea
