/- reaches.Of: its contract. -/
import Derived.Test.YtappaokjlnpbnaaDoorReaOut
import Derived.Deep.RegionWith
import Derived.Deep.RegionLaw
import Derived.Great.Frames
namespace Go.Proofs.YtappaokjlnpbnaaDoor.Rea
open Go.RowKit
/-- a list of lists of bools, as a matrix says. -/
def IsM (w : World) (a : Option Addr) (n : Nat) (M : Nat → Nat → Bool) : Prop :=
  ∀ i, i < n → ∃ O, a = some ⟨O, 0, none⟩ ∧ ∃ g, w.cell? ⟨O, i, none⟩ = some (.slice (some ⟨g, 0, none⟩) n n) ∧ ∀ j, j < n → w.cell? ⟨g, j, none⟩ = some (.bool (M i j))
/-- what Of tells. -/
def Res (w : World) (L : List Bd) (n : Nat) (e : Ending) (w' : World) : Prop :=
  Below w.heap.size w w' ∧ ((L.all (·.ok n) = true ∧ ∃ a', e = .returned (.tuple #[.slice a' n n, .int .i64 0]) ∧ IsM w' a' n (reach n L)) ∨ (L.all (·.ok n) = false ∧ e = .returned (.tuple #[.slice none 0 0, .int .i64 1])))
theorem not_all {n : Nat} {L : List Bd} {k : Nat} (hk : k < L.length) (h : (L[k]).ok n = false) : L.all (·.ok n) = false := by
  rw [Bool.eq_false_iff]
  intro ha
  rw [List.all_eq_true] at ha
  rw [ha _ (List.getElem_mem hk)] at h
  cases h
theorem four_cells (W : World) (c0 c1 c2 c3 : Value) : (W.alloc (.cells #[c0, c1, c2, c3] 72)).heap[W.heap.size]? = some (.cells #[c0, c1, c2, c3] 72 (0, 0)) := heap_alloc_new W _
theorem bnd_next (L : List Bd) (k : Nat) (hk : k < L.length) (i j : Nat) : bnd L (k + 1) i j = (bnd L k i j || (L[k]).edge i j) := by
  unfold bnd
  rw [List.take_succ_eq_append_getElem hk, List.any_append]
  simp [Bool.or_assoc]
theorem bnd_same (L : List Bd) (k : Nat) (hk : k < L.length) (h : ((L[k]).av && (L[k]).bv) = false) (i j : Nat) : bnd L k i j = bnd L (k + 1) i j := by
  rw [bnd_next L k hk]
  simp only [Bd.edge, h]
  simp
theorem bnd_edge (L : List Bd) (k : Nat) (hk : k < L.length) (h1 : (L[k]).av = true) (h2 : (L[k]).bv = true) (na nb : Nat) (e1 : na = (L[k]).an) (e2 : nb = (L[k]).bn) (i j : Nat) : (if i = na ∧ j = nb then true else bnd L k i j) = bnd L (k + 1) i j := by
  rw [bnd_next L k hk]
  simp only [Bd.edge, h1, h2]
  by_cases e : i = na ∧ j = nb
  · rw [if_pos e, ← e1, ← e2, e.1, e.2]
    simp
  · rw [if_neg e, ← e1, ← e2]
    have : (true && true && na == i && nb == j) = false := by
      simp
      omega
    rw [this]
    simp
theorem ok_next {n k : Nat} {L : List Bd} (hk : k < L.length) (h : ∀ b ∈ L.take k, b.ok n = true) (h2 : (L[k]).ok n = true) : ∀ b ∈ L.take (k + 1), b.ok n = true := by
  intro b hb
  rw [List.take_succ_eq_append_getElem hk] at hb
  rcases List.mem_append.1 hb with hb | hb
  · exact h b hb
  · simp at hb
    rw [hb]
    exact h2
theorem Mat.drew {w : World} {R n : Nat} {M : Nat → Nat → Bool} (h : Mat w R n M) : Mat w.drew R n M := h.of_block rfl
/-- what a round of Warshall's holds to. -/
def Two (wr : World) (R n q d : Nat) (M : Nat → Nat → Bool) (w' : World) : Prop :=
  w'.rangeAt R (q * 64) (bl 64 (M q)) ∧ w'.rangeAt R (d * 64) (bl 64 (M d)) ∧ w'.there R (q * 64) 64 ∧ Mat w' R n M ∧ Below wr.heap.size wr w'
theorem two_of {wr w' : World} {R n q d : Nat} {M : Nat → Nat → Bool} (hq : q < n) (hd : d < n) (h : Mat w' R n M) (hb : Below wr.heap.size wr w') : w'.rangeAt R (q * 64) (bl 64 (M q)) ∧ w'.rangeAt R (d * 64) (bl 64 (M d)) ∧ w'.there R (q * 64) 64 ∧ Mat w' R n M ∧ Below wr.heap.size wr w' :=
  ⟨h.range hq, h.range hd, h.there hq, h, hb⟩
theorem pf {a b : Act} {d j : Nat} {v u : Value} (h : a.put (some d) v = b) (hj : d ≠ j) (e : a.tmps[j]?.getD undef = u) : b.tmps[j]?.getD undef = u := by
  rw [← h, ← e]
  simp only [Act.put]
  rw [Array.getElem?_setIfInBounds_ne hj]
theorem ps {a b : Act} {d m : Nat} {v : Value} (h : a.put (some d) v = b) (hm : Hid (a.tmps.size = m)) (hd : d < m) : b.tmps[d]?.getD undef = v := by
  have hm' := hm.out
  rw [← h]
  simp [Act.put, hm', hd]
theorem pz {a b : Act} {d m : Nat} {v : Value} (h : a.put (some d) v = b) (hm : Hid (a.tmps.size = m)) : Hid (b.tmps.size = m) := by
  have hm' := hm.out
  show b.tmps.size = m
  rw [← h, Act.size_put, hm']
theorem put_row {W : World} {R n q : Nat} {M : Nat → Nat → Bool} {z : List Value} {f : Nat → Bool} (h : Mat W R n M) (hq : q < n) (hz : z = bl 64 f) : Mat (W.setCells R (q * 64) z.toArray.toList) R n (fun x => if x = q then f else M x) := by
  rw [hz]
  exact h.put hq f
theorem step_true {W M : Nat → Nat → Bool} {q d : Nat} (hM : M = fun x y => if x < q then mid d W x y else W x y) (ht : true = W q d) (i j : Nat) : (if i = q then fun j => M q j || M d j else M i) j = (if i < q + 1 then mid d W i j else W i j) := by
  have h2 : M d j = W d j := by
    rw [hM]
    dsimp only
    split
    · exact mid_row d W j
    · rfl
  by_cases e : i = q
  · subst e
    rw [if_pos rfl, if_pos (by omega)]
    rw [h2, hM]
    dsimp only
    rw [if_neg (by omega)]
    unfold mid
    rw [← ht, Bool.true_and]
  · rw [if_neg e, hM]
    dsimp only
    by_cases e2 : i < q
    · rw [if_pos e2, if_pos (by omega)]
    · rw [if_neg e2, if_neg (by omega)]
theorem step_false {W : Nat → Nat → Bool} {q d : Nat} (ht : false = W q d) (i j : Nat) : (if i < q then mid d W i j else W i j) = (if i < q + 1 then mid d W i j else W i j) := by
  by_cases e : i = q
  · subst e
    rw [if_neg (by omega), if_pos (by omega)]
    unfold mid
    rw [← ht]
    simp
  · by_cases e2 : i < q
    · rw [if_pos e2, if_pos (by omega)]
    · rw [if_neg e2, if_neg (by omega)]
theorem under23 : Tryd.prog.underlying 78 = some (.slice 82) := by kernel_rfl
theorem under34 : Tryd.prog.underlying 82 = some (.slice 4) := by kernel_rfl
theorem info34 : (Tryd.prog.info? 82).map (fun i => (i.zero, i.size, i.bytes)) = some (some (.slice none 0 0), 1, 24) := by kernel_rfl
theorem info4' : (Tryd.prog.info? 4).map (fun i => (i.zero, i.size, i.bytes)) = some (some (.bool false), 1, 1) := by kernel_rfl
theorem all_ok {n : Nat} {L : List Bd} (h : ∀ b ∈ L, b.ok n = true) : L.all (·.ok n) = true := by rw [List.all_eq_true]; exact h
theorem outs_is {w : World} {O n : Nat} {L : List Bd} (h : Outs w O n n (war (start L) n)) : IsM w (some ⟨O, 0, none⟩) n (reach n L) := by
  obtain ⟨g, h1, h2⟩ := h
  intro i hi
  refine ⟨O, rfl, g i, ?_, fun j hj => (h2 i hi).2.cell hj⟩
  rw [h1.cell hi, if_pos hi]
theorem ini_next {k : Nat} (i j : Nat) : (if i = k ∧ j = k then true else ini k i j) = ini (k + 1) i j := by
  unfold ini
  by_cases e : i = k ∧ j = k
  · rw [if_pos e, e.1, e.2]; simp
  · rw [if_neg e, Bool.eq_iff_iff]
    simp
    omega
set_option maxHeartbeats 2000000 in
theorem of_any (a : Option Addr) (cap : Nat) (L : List Bd) (n m : Nat) (hn : n ≤ 64) (hm : m = L.length) (hm' : m ≤ 256) (w : World) (hL : Bds w a L) : Calls Tryd.prog 43 #[.int .i64 (n : Int), .slice a m cap] w (Res w L n) := by
  have h0 : decide ((n : Int) < 0) = false := by simp
  have h1 : decide (64 < (n : Int)) = false := by simp; omega
  have h2 : decide (256 < (m : Int)) = false := by simp; omega
  have hz := zero42
  have HL := Lib.hid hL
  have HM := Lib.hid hm
  clear hL hm
  go_enter Tryd.func43, Tryd.ntmps43
  go_wp2_with fail
  obtain ⟨w1, hw1⟩ : ∃ w1, w1 = w.alloc (.cells zs 102) := ⟨_, rfl⟩
  rw [← hw1]
  have HT := Lib.hid (show Mat w1 w.heap.size n (ini 0) by rw [hw1]; exact (mat_new w n hn).congr (by intro i j _ _; simp [ini]))
  have HB := Lib.hid (show Below w.heap.size w w1 by rw [hw1]; exact (Below.refl _ w).alloc (Nat.le_refl _) _)
  clear hw1
  go_loopw [26] (fun i wr => ∃ k : Nat, k ≤ n ∧ i = .int .i64 k ∧ Hid (Mat wr w.heap.size n (ini k)) ∧ Hid (Below w.heap.size w wr)) (fun i _ => n - (intOf i).toNat)
  case atStart => exact ⟨0, by omega, rfl, HT.out, HB.out⟩
  case round =>
    clear HT HB
    obtain ⟨k, hk, rfl, HT, HB⟩ := hrel
    by_cases hlt : k < n
    · have c1 := HT.out.cell (j := k) hlt (by omega)
      have f1 := HT.out.frozen (k * 64 + k)
      go_wp2
      go_roundw
      case rel => exact ⟨k + 1, by omega, by go_num, (HT.out.set hlt (by omega) true).congr (fun i j _ _ => ini_next i j), HB.out.setCell (Nat.le_refl _) _⟩
      case measure => simp [intOf]; omega
    · obtain rfl : n = k := by omega
      go_wp2
      go_loopw [36] (fun i wr => ∃ k : Nat, k ≤ m ∧ i = .int .i64 k ∧ Hid (Mat wr w.heap.size n (bnd L k)) ∧ Hid (Below w.heap.size w wr) ∧ Hid (∀ b ∈ L.take k, b.ok n = true)) (fun i _ => m - (intOf i).toNat)
      case atStart => exact ⟨0, by omega, rfl, HT.out.congr (by intro i j hi _; simp [ini, bnd, hi]), HB.out, fun _ h => by simp at h⟩
      case round =>
        clear HT HB
        obtain ⟨k, hk, rfl, HT, HB, HO⟩ := hrel
        by_cases hlt : k < m
        · have hkl : k < L.length := by rw [← HM.out]; exact hlt
          obtain ⟨b, o, rfl, c0, c1, c2, c3, l1, l2⟩ := (HL.out.below HB.out) k hkl
          obtain ⟨va, hva⟩ : ∃ va, va = L[k].av := ⟨_, rfl⟩
          obtain ⟨na, hna⟩ : ∃ na, na = L[k].an := ⟨_, rfl⟩
          obtain ⟨vb, hvb⟩ : ∃ vb, vb = L[k].bv := ⟨_, rfl⟩
          obtain ⟨nb, hnb⟩ : ∃ nb, nb = L[k].bn := ⟨_, rfl⟩
          rw [← hva] at c0
          rw [← hna] at c1 l1
          rw [← hvb] at c2
          rw [← hnb] at c3 l2
          have HVA := Lib.hid hva
          have HNA := Lib.hid hna
          have HVB := Lib.hid hvb
          have HNB := Lib.hid hnb
          have HL1 := Lib.hid l1
          have HL2 := Lib.hid l2
          clear hva hna hvb hnb l1 l2
          go_wp2_with fail
          obtain ⟨w2, hw2⟩ : ∃ w2, w2 = wr.alloc (.cells #[.bool va, .int .u64 (na : Int), .bool vb, .int .u64 (nb : Int)] 72) := ⟨_, rfl⟩
          rw [← hw2]
          have hb2 : Below wr.heap.size wr w2 := by rw [hw2]; exact (Below.refl _ wr).alloc (Nat.le_refl _) _
          have hB : w2.heap[wr.heap.size]? = some (.cells #[.bool va, .int .u64 (na : Int), .bool vb, .int .u64 (nb : Int)] 72 (0, 0)) := by rw [hw2]; exact four_cells wr _ _ _ _
          have hs2 : wr.heap.size < w2.heap.size := by rw [hw2, alloc_size]; omega
          refine (none_any va na n hn HL1.out w2).mono ?_
          rintro e w3 ⟨rfl, hb3⟩
          have hB3 := (hb3.block wr.heap.size hs2).trans hB
          have d2 : w3.cell? ⟨wr.heap.size, 2, none⟩ = some (.bool vb) := by rw [cell_of_row _ _ _ _ _ _ hB3]; rfl
          have d3 : w3.cell? ⟨wr.heap.size, 3, none⟩ = some (.int .u64 (nb : Int)) := by rw [cell_of_row _ _ _ _ _ _ hB3]; rfl
          have HB3 := Lib.hid hB3
          have B3 := Lib.hid (on hb2 hb3)
          have S3 := Lib.hid (Nat.lt_of_lt_of_le hs2 hb3.size)
          clear hw2 hb2 hB hs2 hb3 hB3 c0 c1 c2 c3
          by_cases hp : (va && decide (n ≤ na)) = true
          · have HP := Lib.hid hp
            rw [hp]
            clear hp
            go_wp2
            go_ret2
            exact ⟨on HB.out B3.out, .inr ⟨not_all hkl (by simp only [Bd.ok, ← HVA.out, ← HNA.out, HP.out]; rfl), rfl⟩⟩
          · have hp' : (va && decide (n ≤ na)) = false := by simpa using hp
            have HP := Lib.hid hp'
            rw [hp']
            clear hp hp'
            go_wp2_with fail
            refine (none_any vb nb n hn HL2.out w3).mono ?_
            rintro e w4 ⟨rfl, hb4⟩
            have hB4 := (hb4.block wr.heap.size S3.out).trans HB3.out
            have d0 : w4.cell? ⟨wr.heap.size, 0, none⟩ = some (.bool va) := by rw [cell_of_row _ _ _ _ _ _ hB4]; rfl
            have d1 : w4.cell? ⟨wr.heap.size, 1, none⟩ = some (.int .u64 (na : Int)) := by rw [cell_of_row _ _ _ _ _ _ hB4]; rfl
            have d2' : w4.cell? ⟨wr.heap.size, 2, none⟩ = some (.bool vb) := by rw [cell_of_row _ _ _ _ _ _ hB4]; rfl
            have d3' : w4.cell? ⟨wr.heap.size, 3, none⟩ = some (.int .u64 (nb : Int)) := by rw [cell_of_row _ _ _ _ _ _ hB4]; rfl
            have B4 := Lib.hid (on B3.out hb4)
            clear hb4 hB4 d2 d3 HB3 B3 S3
            by_cases hq : (vb && decide (n ≤ nb)) = true
            · have HQ := Lib.hid hq
              rw [hq]
              clear hq
              go_wp2
              go_ret2
              exact ⟨on HB.out B4.out, .inr ⟨not_all hkl (by simp only [Bd.ok, ← HVB.out, ← HNB.out, HQ.out]; simp), rfl⟩⟩
            · have hq' : (vb && decide (n ≤ nb)) = false := by simpa using hq
              have HQ := Lib.hid hq'
              rw [hq']
              clear hq hq'
              have HT4 := Lib.hid (HT.out.below B4.out)
              have HB4 := Lib.hid (on HB.out B4.out)
              have HOK := Lib.hid (show (L[k]).ok n = true by simp only [Bd.ok, ← HVA.out, ← HNA.out, ← HVB.out, ← HNB.out, HP.out, HQ.out]; rfl)
              cases va with
              | false =>
                go_wp2
                go_roundw
                case rel => exact ⟨k + 1, by omega, by go_num, HT4.out.congr (fun i j _ _ => bnd_same L k hkl (by rw [← HVA.out]; rfl) i j), HB4.out, ok_next hkl HO.out HOK.out⟩
                case measure => simp [intOf]; omega
              | true =>
                cases vb with
                | false =>
                  go_wp2
                  go_roundw
                  case rel => exact ⟨k + 1, by omega, by go_num, HT4.out.congr (fun i j _ _ => bnd_same L k hkl (by rw [← HVB.out]; simp) i j), HB4.out, ok_next hkl HO.out HOK.out⟩
                  case measure => simp [intOf]; omega
                | true =>
                  have hna : na < n := by have := HP.out; simp at this; omega
                  have hnb : nb < n := by have := HQ.out; simp at this; omega
                  have r1 := HT4.out.cell (i := na) (j := nb) hna (by omega)
                  have f1 := HT4.out.frozen (na * 64 + nb)
                  go_wp2
                  go_region
                  go_wp2
                  go_roundw
                  case rel => exact ⟨k + 1, by omega, by go_num, (HT4.out.set hna (by omega) true).congr (fun i j _ _ => bnd_edge L k hkl HVA.out.symm HVB.out.symm na nb HNA.out HNB.out i j), Below.drew (HB4.out.setCell (Nat.le_refl _) _), ok_next hkl HO.out HOK.out⟩
                  case measure => simp [intOf]; omega
        · obtain rfl : m = k := by omega
          have HOK := Lib.hid (show ∀ b ∈ L, b.ok n = true by have := HO.out; rwa [HM.out, List.take_length] at this)
          have HT1 := Lib.hid (HT.out.congr (N := war (start L) 0) (by intro i j _ _; unfold bnd; rw [HM.out, List.take_length]; rfl))
          clear HT HO
          go_wp2
          go_loopw [70] (fun i wr => ∃ d : Nat, d ≤ n ∧ i = .int .i64 d ∧ Hid (Mat wr w.heap.size n (war (start L) d)) ∧ Hid (Below w.heap.size w wr)) (fun i _ => n - (intOf i).toNat)
          case atStart => exact ⟨0, by omega, rfl, HT1.out, HB.out⟩
          case round =>
            clear HT1 HB
            obtain ⟨d, hd, rfl, HT, HB⟩ := hrel
            by_cases hdn : d < n
            · go_wp2
              go_loopw [74] (fun i wr => ∃ q : Nat, q ≤ n ∧ i = .int .i64 q ∧ Hid (Mat wr w.heap.size n (fun x y => if x < q then mid d (war (start L) d) x y else war (start L) d x y)) ∧ Hid (Below w.heap.size w wr)) (fun i _ => n - (intOf i).toNat)
              case atStart => exact ⟨0, by omega, rfl, HT.out.congr (by intro i j _ _; simp), HB.out⟩
              case round =>
                clear HT HB
                obtain ⟨q, hq, rfl, HT, HB⟩ := hrel
                by_cases hqn : q < n
                · obtain ⟨t, ht⟩ : ∃ t, t = war (start L) d q d := ⟨_, rfl⟩
                  have c0 : wr.cell? ⟨w.heap.size, q * 64 + d, none⟩ = some (.bool t) := by
                    have := HT.out.cell (i := q) (j := d) hqn (by omega)
                    rw [if_neg (by omega)] at this
                    rw [this, ht]
                  have HTT := Lib.hid ht
                  clear ht
                  cases t with
                  | false =>
                    go_wp2
                    go_roundw
                    case rel => exact ⟨q + 1, by omega, by go_num, HT.out.congr (fun i j _ _ => step_false HTT.out i j), HB.out⟩
                    case measure => simp [intOf]; omega
                  | true =>
                    have hT := HT.out
                    have HB2 := HB
                    obtain ⟨M, hM⟩ : ∃ M, M = (fun x y => if x < q then mid d (war (start L) d) x y else war (start L) d x y) := ⟨_, rfl⟩
                    rw [← hM] at hT
                    obtain ⟨s1, s2, s3, s4, s5⟩ := two_of (wr := wr) hqn hdn hT (Below.refl _ wr)
                    obtain ⟨x, hx⟩ : ∃ x, x = bl 64 (M q) := ⟨_, rfl⟩
                    obtain ⟨y, hy⟩ : ∃ y, y = bl 64 (M d) := ⟨_, rfl⟩
                    obtain ⟨z, hz2⟩ : ∃ z, z = bl 64 (fun j => M q j || M d j) := ⟨_, rfl⟩
                    have HX := Lib.hid hx
                    have HY := Lib.hid hy
                    have HZ := Lib.hid hz2
                    have HM2 := Lib.hid hM
                    have KA := Lib.hid (show Calls Tryd.prog 66 #[.agg x.toArray, .agg y.toArray] wr.drew fun e W' => e = .returned (.agg z.toArray) ∧ W'.there w.heap.size (q * 64) 64 ∧ Mat W' w.heap.size n M ∧ Below wr.heap.size wr W' by
                      rw [hx, hy, hz2]
                      refine (and_any (M q) (M d) wr.drew).mono ?_
                      rintro e W' ⟨rfl, hb⟩
                      have h4 := s4.drew.below hb
                      exact ⟨rfl, h4.there hqn, h4, on s5.drew hb⟩)
                    have R1 := Lib.hid (show wr.drew.rangeAt w.heap.size (q * 64) x by rw [hx]; exact s4.drew.range hqn)
                    have R2 := Lib.hid (show wr.drew.rangeAt w.heap.size (d * 64) y by rw [hy]; exact s4.drew.range hdn)
                    have Z1 := Lib.hid (show (Tryd.prog.info? 101).map (·.size) = some x.length by rw [hx, bl_length]; exact size41)
                    have Z2 := Lib.hid (show (Tryd.prog.info? 101).map (·.size) = some y.length by rw [hy, bl_length]; exact size41)
                    have Z3 := Lib.hid (show z.toArray.size = 64 by rw [hz2]; exact row_size _)
                    have Z4 := Lib.hid (show z.toArray.all (·.oneCell') = true by rw [hz2]; exact row_one _)
                    have i1 : (0 : Int) ≤ (q : Int) := by omega
                    have i2 : (q : Int) < 64 := by omega
                    have i3 : (0 : Int) ≤ (d : Int) := by omega
                    have i4 : (d : Int) < 64 := by omega
                    clear hM hx hy hz2 hT HT HB s1 s2 s3 s4 s5
                    go_wp2_with fail
                    generalize ha : Act.mk _ _ = a0
                    have e6 : a0.tmps[6]?.getD undef = .pointer (some ⟨w.heap.size, 0, none⟩) := by rw [← ha]; rfl
                    have e10 : a0.tmps[10]?.getD undef = .int .i64 d := by rw [← ha]; rfl
                    have e11 : a0.tmps[11]?.getD undef = .int .i64 q := by rw [← ha]; rfl
                    have hsz : Hid (a0.tmps.size = 116) := by rw [← ha]; exact rfl
                    have HA := Lib.hid ha
                    clear ha
                    refine wp_region_any (by kernel_rfl) ?_
                    change wpAny _ _ _ _ _ _ _ (World.drew _)
                    refine wpAny_take (i := 0) (v := .int .i64 q) rfl (by kernel_rfl) (by kernel_rfl) (by kernel_rfl) (fun _ _ _ h => h) (Or.inl ⟨by rfl, by intro w'; go_simp⟩) ?_
                    change wpAny _ _ _ _ _ _ (a0.put (some 82) (.int .i64 q)) _
                    generalize hb1 : a0.put (some 82) (.int .i64 q) = b1
                    replace e6 := pf hb1 (by decide) e6
                    replace e10 := pf hb1 (by decide) e10
                    replace e11 := pf hb1 (by decide) e11
                    have e82 := ps hb1 hsz (by decide)
                    replace hsz := pz hb1 hsz
                    have Hb1 := Lib.hid hb1
                    clear hb1
                    refine wpAny_take (i := 1) (v := .int .i64 q) rfl (by kernel_rfl) (by kernel_rfl) (by kernel_rfl) (fun _ _ _ h => h) (Or.inl ⟨by rfl, by intro w'; go_simp⟩) ?_
                    change wpAny _ _ _ _ _ _ (b1.put (some 83) (.int .i64 q)) _
                    generalize hb2 : b1.put (some 83) (.int .i64 q) = b2
                    replace e6 := pf hb2 (by decide) e6
                    replace e10 := pf hb2 (by decide) e10
                    replace e11 := pf hb2 (by decide) e11
                    replace e82 := pf hb2 (by decide) e82
                    have e83 := ps hb2 hsz (by decide)
                    replace hsz := pz hb2 hsz
                    have Hb2 := Lib.hid hb2
                    clear hb2
                    refine wpAny_take (i := 2) (v := .pointer (some ⟨w.heap.size, q * 64, none⟩)) rfl (by kernel_rfl) (by kernel_rfl) (by kernel_rfl) (fun _ _ _ h => h) (Or.inl ⟨by rfl, by intro w'; go_simp⟩) ?_
                    change wpAny _ _ _ _ _ _ (b2.put (some 84) (.pointer (some ⟨w.heap.size, q * 64, none⟩))) _
                    generalize hb3 : b2.put (some 84) (.pointer (some ⟨w.heap.size, q * 64, none⟩)) = b3
                    replace e6 := pf hb3 (by decide) e6
                    replace e10 := pf hb3 (by decide) e10
                    replace e11 := pf hb3 (by decide) e11
                    replace e82 := pf hb3 (by decide) e82
                    replace e83 := pf hb3 (by decide) e83
                    have e84 := ps hb3 hsz (by decide)
                    replace hsz := pz hb3 hsz
                    have Hb3 := Lib.hid hb3
                    clear hb3
                    refine wpAny_take (i := 4) (v := .int .i64 d) rfl (by kernel_rfl) (by kernel_rfl) (by kernel_rfl) (fun _ _ _ h => h) (Or.inl ⟨by rfl, by intro w'; go_simp⟩) ?_
                    change wpAny _ _ _ _ _ _ (b3.put (some 86) (.int .i64 d)) _
                    generalize hb4 : b3.put (some 86) (.int .i64 d) = b4
                    replace e6 := pf hb4 (by decide) e6
                    replace e10 := pf hb4 (by decide) e10
                    replace e11 := pf hb4 (by decide) e11
                    replace e82 := pf hb4 (by decide) e82
                    replace e83 := pf hb4 (by decide) e83
                    replace e84 := pf hb4 (by decide) e84
                    have e86 := ps hb4 hsz (by decide)
                    replace hsz := pz hb4 hsz
                    have Hb4 := Lib.hid hb4
                    clear hb4
                    refine wpAny_take (i := 5) (v := .pointer (some ⟨w.heap.size, d * 64, none⟩)) rfl (by kernel_rfl) (by kernel_rfl) (by kernel_rfl) (fun _ _ _ h => h) (Or.inl ⟨by rfl, by intro w'; go_simp⟩) ?_
                    change wpAny _ _ _ _ _ _ (b4.put (some 87) (.pointer (some ⟨w.heap.size, d * 64, none⟩))) _
                    generalize hb5 : b4.put (some 87) (.pointer (some ⟨w.heap.size, d * 64, none⟩)) = b5
                    replace e6 := pf hb5 (by decide) e6
                    replace e10 := pf hb5 (by decide) e10
                    replace e11 := pf hb5 (by decide) e11
                    replace e82 := pf hb5 (by decide) e82
                    replace e83 := pf hb5 (by decide) e83
                    replace e84 := pf hb5 (by decide) e84
                    replace e86 := pf hb5 (by decide) e86
                    have e87 := ps hb5 hsz (by decide)
                    replace hsz := pz hb5 hsz
                    have Hb5 := Lib.hid hb5
                    clear hb5
                    refine wpAny_ready (rs := [3, 6]) (by kernel_rfl) (by simp) ?_
                    refine AllReady.cons rfl (fun K hK => ?_) (AllReady.cons rfl (fun K hK => ?_) AllReady.nil)
                    · rw [if_pos (by rfl)]
                      refine wp_load_mid 101 (.tmp 84) rfl w.heap.size (q * 64) (by simpa [Act.eval] using e84) x _ R1.out under41 rfl Z1.out ?_
                      refine hK _ _ ?_
                      clear hK K
                      change wpAny _ _ _ _ _ _ (b5.put (some 85) (.agg x.toArray)) _
                      generalize hb6 : b5.put (some 85) (.agg x.toArray) = b6
                      replace e6 := pf hb6 (by decide) e6
                      replace e10 := pf hb6 (by decide) e10
                      replace e11 := pf hb6 (by decide) e11
                      replace e82 := pf hb6 (by decide) e82
                      replace e83 := pf hb6 (by decide) e83
                      replace e84 := pf hb6 (by decide) e84
                      replace e86 := pf hb6 (by decide) e86
                      replace e87 := pf hb6 (by decide) e87
                      have e85 := ps hb6 hsz (by decide)
                      replace hsz := pz hb6 hsz
                      have Hb6 := Lib.hid hb6
                      clear hb6
                      refine wpAny_ready (rs := [6]) (by kernel_rfl) (by simp) ?_
                      refine AllReady.cons rfl (fun K hK => ?_) AllReady.nil
                      rw [if_pos (by rfl)]
                      refine wp_load_mid 101 (.tmp 87) rfl w.heap.size (d * 64) (by simpa [Act.eval] using e87) y _ R2.out under41 rfl Z2.out ?_
                      refine hK _ _ ?_
                      clear hK K
                      change wpAny _ _ _ _ _ _ (b6.put (some 88) (.agg y.toArray)) _
                      generalize hb7 : b6.put (some 88) (.agg y.toArray) = b7
                      replace e6 := pf hb7 (by decide) e6
                      replace e10 := pf hb7 (by decide) e10
                      replace e11 := pf hb7 (by decide) e11
                      replace e82 := pf hb7 (by decide) e82
                      replace e83 := pf hb7 (by decide) e83
                      replace e84 := pf hb7 (by decide) e84
                      replace e86 := pf hb7 (by decide) e86
                      replace e87 := pf hb7 (by decide) e87
                      replace e85 := pf hb7 (by decide) e85
                      have e88 := ps hb7 hsz (by decide)
                      replace hsz := pz hb7 hsz
                      have Hb7 := Lib.hid hb7
                      clear hb7
                      refine wpAny_ready (rs := [7]) (by kernel_rfl) (by simp) ?_
                      refine AllReady.cons rfl (fun K hK => ?_) AllReady.nil
                      rw [if_pos (by rfl)]
                      have HK := Lib.hid hK
                      clear hK
                      go_simp
                      refine KA.out.mono ?_
                      rintro e w5 ⟨rfl, h3, h4, h5⟩
                      refine HK.out _ _ ?_
                      clear HK K
                      change wpAny _ _ _ _ _ _ (b7.put (some 89) (.agg z.toArray)) _
                      generalize hb8 : b7.put (some 89) (.agg z.toArray) = b8
                      replace e6 := pf hb8 (by decide) e6
                      replace e10 := pf hb8 (by decide) e10
                      replace e11 := pf hb8 (by decide) e11
                      replace e82 := pf hb8 (by decide) e82
                      replace e83 := pf hb8 (by decide) e83
                      replace e84 := pf hb8 (by decide) e84
                      replace e86 := pf hb8 (by decide) e86
                      replace e87 := pf hb8 (by decide) e87
                      replace e85 := pf hb8 (by decide) e85
                      replace e88 := pf hb8 (by decide) e88
                      have e89 := ps hb8 hsz (by decide)
                      replace hsz := pz hb8 hsz
                      have Hb8 := Lib.hid hb8
                      clear hb8
                      refine wpAny_take (i := 8) (v := .pointer (some ⟨w.heap.size, q * 64, none⟩)) rfl (by kernel_rfl) (by kernel_rfl) (by kernel_rfl) (fun _ _ _ h => h) (Or.inl ⟨by rfl, by intro w'; go_simp⟩) ?_
                      change wpAny _ _ _ _ _ _ (b8.put (some 90) (.pointer (some ⟨w.heap.size, q * 64, none⟩))) _
                      generalize hb9 : b8.put (some 90) (.pointer (some ⟨w.heap.size, q * 64, none⟩)) = b9
                      replace e6 := pf hb9 (by decide) e6
                      replace e10 := pf hb9 (by decide) e10
                      replace e11 := pf hb9 (by decide) e11
                      replace e82 := pf hb9 (by decide) e82
                      replace e83 := pf hb9 (by decide) e83
                      replace e84 := pf hb9 (by decide) e84
                      replace e86 := pf hb9 (by decide) e86
                      replace e87 := pf hb9 (by decide) e87
                      replace e85 := pf hb9 (by decide) e85
                      replace e88 := pf hb9 (by decide) e88
                      replace e89 := pf hb9 (by decide) e89
                      have e90 := ps hb9 hsz (by decide)
                      replace hsz := pz hb9 hsz
                      have Hb9 := Lib.hid hb9
                      clear hb9
                      refine wpAny_ready (rs := [9]) (by kernel_rfl) (by simp) ?_
                      refine AllReady.cons rfl (fun K hK => ?_) AllReady.nil
                      rw [if_pos (by rfl)]
                      refine wp_store_mid 101 (.tmp 90) (.tmp 89) rfl w.heap.size (q * 64) z.toArray (by simpa [Act.eval] using e90) (by simpa [Act.eval] using e89) (by rw [Z3.out]; exact h3) (by rw [Z3.out]; exact size41) Z4.out ?_
                      refine hK _ _ ?_
                      clear hK K
                      refine wpAny_done (by kernel_rfl) ?_ _
                      have HM6 := Lib.hid (put_row h4 hqn HZ.out)
                      have HB6 := Lib.hid (below_setCells' (Nat.le_refl _) z.toArray.toList (q * 64) _ (on HB2.out h5))
                      change Exit.inBlock 8 (Exit.then _ _) Exit.normal b9 _
                      rw [← Hb9.out, ← Hb8.out, ← Hb7.out, ← Hb6.out, ← Hb5.out, ← Hb4.out, ← Hb3.out, ← Hb2.out, ← Hb1.out, ← HA.out]
                      simp only [Act.put, List.setIfInBounds_toArray, List.set_cons_zero, List.set_cons_succ]
                      go_wp2
                      go_roundw
                      case rel => exact ⟨q + 1, by omega, by go_num, HM6.out.congr (fun i j _ _ => step_true HM2.out HTT.out i j), HB6.out⟩
                      case measure => simp [intOf]; omega
                    · rw [if_pos (by rfl)]
                      refine wp_load_mid 101 (.tmp 87) rfl w.heap.size (d * 64) (by simpa [Act.eval] using e87) y _ R2.out under41 rfl Z2.out ?_
                      refine hK _ _ ?_
                      clear hK K
                      change wpAny _ _ _ _ _ _ (b5.put (some 88) (.agg y.toArray)) _
                      generalize hb6 : b5.put (some 88) (.agg y.toArray) = b6
                      replace e6 := pf hb6 (by decide) e6
                      replace e10 := pf hb6 (by decide) e10
                      replace e11 := pf hb6 (by decide) e11
                      replace e82 := pf hb6 (by decide) e82
                      replace e83 := pf hb6 (by decide) e83
                      replace e84 := pf hb6 (by decide) e84
                      replace e86 := pf hb6 (by decide) e86
                      replace e87 := pf hb6 (by decide) e87
                      have e88 := ps hb6 hsz (by decide)
                      replace hsz := pz hb6 hsz
                      have Hb6 := Lib.hid hb6
                      clear hb6
                      refine wpAny_ready (rs := [3]) (by kernel_rfl) (by simp) ?_
                      refine AllReady.cons rfl (fun K hK => ?_) AllReady.nil
                      rw [if_pos (by rfl)]
                      refine wp_load_mid 101 (.tmp 84) rfl w.heap.size (q * 64) (by simpa [Act.eval] using e84) x _ R1.out under41 rfl Z1.out ?_
                      refine hK _ _ ?_
                      clear hK K
                      change wpAny _ _ _ _ _ _ (b6.put (some 85) (.agg x.toArray)) _
                      generalize hb7 : b6.put (some 85) (.agg x.toArray) = b7
                      replace e6 := pf hb7 (by decide) e6
                      replace e10 := pf hb7 (by decide) e10
                      replace e11 := pf hb7 (by decide) e11
                      replace e82 := pf hb7 (by decide) e82
                      replace e83 := pf hb7 (by decide) e83
                      replace e84 := pf hb7 (by decide) e84
                      replace e86 := pf hb7 (by decide) e86
                      replace e87 := pf hb7 (by decide) e87
                      replace e88 := pf hb7 (by decide) e88
                      have e85 := ps hb7 hsz (by decide)
                      replace hsz := pz hb7 hsz
                      have Hb7 := Lib.hid hb7
                      clear hb7
                      refine wpAny_ready (rs := [7]) (by kernel_rfl) (by simp) ?_
                      refine AllReady.cons rfl (fun K hK => ?_) AllReady.nil
                      rw [if_pos (by rfl)]
                      have HK := Lib.hid hK
                      clear hK
                      go_simp
                      refine KA.out.mono ?_
                      rintro e w5 ⟨rfl, h3, h4, h5⟩
                      refine HK.out _ _ ?_
                      clear HK K
                      change wpAny _ _ _ _ _ _ (b7.put (some 89) (.agg z.toArray)) _
                      generalize hb8 : b7.put (some 89) (.agg z.toArray) = b8
                      replace e6 := pf hb8 (by decide) e6
                      replace e10 := pf hb8 (by decide) e10
                      replace e11 := pf hb8 (by decide) e11
                      replace e82 := pf hb8 (by decide) e82
                      replace e83 := pf hb8 (by decide) e83
                      replace e84 := pf hb8 (by decide) e84
                      replace e86 := pf hb8 (by decide) e86
                      replace e87 := pf hb8 (by decide) e87
                      replace e88 := pf hb8 (by decide) e88
                      replace e85 := pf hb8 (by decide) e85
                      have e89 := ps hb8 hsz (by decide)
                      replace hsz := pz hb8 hsz
                      have Hb8 := Lib.hid hb8
                      clear hb8
                      refine wpAny_take (i := 8) (v := .pointer (some ⟨w.heap.size, q * 64, none⟩)) rfl (by kernel_rfl) (by kernel_rfl) (by kernel_rfl) (fun _ _ _ h => h) (Or.inl ⟨by rfl, by intro w'; go_simp⟩) ?_
                      change wpAny _ _ _ _ _ _ (b8.put (some 90) (.pointer (some ⟨w.heap.size, q * 64, none⟩))) _
                      generalize hb9 : b8.put (some 90) (.pointer (some ⟨w.heap.size, q * 64, none⟩)) = b9
                      replace e6 := pf hb9 (by decide) e6
                      replace e10 := pf hb9 (by decide) e10
                      replace e11 := pf hb9 (by decide) e11
                      replace e82 := pf hb9 (by decide) e82
                      replace e83 := pf hb9 (by decide) e83
                      replace e84 := pf hb9 (by decide) e84
                      replace e86 := pf hb9 (by decide) e86
                      replace e87 := pf hb9 (by decide) e87
                      replace e88 := pf hb9 (by decide) e88
                      replace e85 := pf hb9 (by decide) e85
                      replace e89 := pf hb9 (by decide) e89
                      have e90 := ps hb9 hsz (by decide)
                      replace hsz := pz hb9 hsz
                      have Hb9 := Lib.hid hb9
                      clear hb9
                      refine wpAny_ready (rs := [9]) (by kernel_rfl) (by simp) ?_
                      refine AllReady.cons rfl (fun K hK => ?_) AllReady.nil
                      rw [if_pos (by rfl)]
                      refine wp_store_mid 101 (.tmp 90) (.tmp 89) rfl w.heap.size (q * 64) z.toArray (by simpa [Act.eval] using e90) (by simpa [Act.eval] using e89) (by rw [Z3.out]; exact h3) (by rw [Z3.out]; exact size41) Z4.out ?_
                      refine hK _ _ ?_
                      clear hK K
                      refine wpAny_done (by kernel_rfl) ?_ _
                      have HM6 := Lib.hid (put_row h4 hqn HZ.out)
                      have HB6 := Lib.hid (below_setCells' (Nat.le_refl _) z.toArray.toList (q * 64) _ (on HB2.out h5))
                      change Exit.inBlock 8 (Exit.then _ _) Exit.normal b9 _
                      rw [← Hb9.out, ← Hb8.out, ← Hb7.out, ← Hb6.out, ← Hb5.out, ← Hb4.out, ← Hb3.out, ← Hb2.out, ← Hb1.out, ← HA.out]
                      simp only [Act.put, List.setIfInBounds_toArray, List.set_cons_zero, List.set_cons_succ]
                      go_wp2
                      go_roundw
                      case rel => exact ⟨q + 1, by omega, by go_num, HM6.out.congr (fun i j _ _ => step_true HM2.out HTT.out i j), HB6.out⟩
                      case measure => simp [intOf]; omega
                · obtain rfl : n = q := by omega
                  go_wp2
                  go_roundw
                  case rel => exact ⟨d + 1, by omega, by go_num, HT.out.congr (fun i j hi _ => by rw [if_pos hi]; rfl), HB.out⟩
                  case measure => simp [intOf]; omega
            · obtain rfl : n = d := by omega
              have mk1 := run_make_row' (P := Tryd.prog) 78 82 (.slice none 0 0) 24 under23 info34 rfl .i64 .i64 n (by omega) (by omega)
              go_wp2
              have bO : Below wr.heap.size wr (wr.alloc (.cells (madeCells #[.slice none 0 0] n) 82)) := (Below.refl _ wr).alloc (Nat.le_refl _) _
              obtain ⟨O, hO⟩ : ∃ O, O = wr.heap.size := ⟨_, rfl⟩
              have HO1 := Lib.hid (show (wr.alloc (.cells (madeCells #[.slice none 0 0] n) 82)).rowIs O 82 n (fun _ => .slice none 0 0) by rw [hO]; exact World.rowIs_made wr _ n 82)
              have HT1 := Lib.hid (HT.out.below bO)
              have HB1 := Lib.hid (on HB.out bO)
              have LO := Lib.hid (show w.heap.size < O by rw [hO]; exact HT.out.lt)
              rw [← hO]
              generalize wr.alloc (.cells (madeCells #[.slice none 0 0] n) 82) = wo at *
              clear mk1 bO HT HB hO
              go_loopw [97] (fun i wr => ∃ q : Nat, q ≤ n ∧ i = .int .i64 q ∧ Hid (Mat wr w.heap.size n (war (start L) n)) ∧ Hid (Below w.heap.size w wr) ∧ Hid (Outs wr O n q (war (start L) n))) (fun i _ => n - (intOf i).toNat)
              case atStart => exact ⟨0, by omega, rfl, HT1.out, HB1.out, ⟨fun _ => 0, HO1.out.congr (by intro i _; simp), fun x hx => by omega⟩⟩
              case round =>
                clear HT1 HB1 HO1
                obtain ⟨q, hq, rfl, HT, HB, HO⟩ := hrel
                by_cases hqn : q < n
                · have mk2 := run_make_row' (P := Tryd.prog) 82 4 (.bool false) 1 under34 info4' rfl .i64 .i64 n (by omega) (by omega)
                  obtain ⟨g, ho1, ho2⟩ := HO.out
                  have s1 := out_step hqn HT.out HB.out (Nat.le_refl _) LO.out HO.out
                  rw [World.setCell_alloc_past _ O q _ ho1.lt] at s1
                  obtain ⟨w2, hw2⟩ : ∃ w2, w2 = (wr.setCell ⟨O, q, none⟩ (.slice (some ⟨wr.heap.size, 0, none⟩) n n)).alloc (.cells (madeCells #[.bool false] n) 4) := ⟨_, rfl⟩
                  rw [← hw2] at s1
                  have hs2 : (wr.setCell ⟨O, q, none⟩ (.slice (some ⟨wr.heap.size, 0, none⟩) n n)).heap.size = wr.heap.size := by simp
                  have hm2 : w2.rowIs wr.heap.size 4 n (fun _ => .bool false) := by
                    have h := World.rowIs_made (wr.setCell ⟨O, q, none⟩ (.slice (some ⟨wr.heap.size, 0, none⟩) n n)) (.bool false) n 4
                    rw [hs2] at h
                    rw [hw2]
                    exact h
                  have hb2 : Mat w2 w.heap.size n (war (start L) n) := by
                    refine HT.out.of_block ?_
                    rw [hw2, Below.heap_alloc _ _ _ (by rw [hs2]; exact HT.out.lt)]
                    exact Deep.blk_setCell_other _ _ _ _ (by have := LO.out; show w.heap.size ≠ O; omega)
                  have cX : w2.cell? ⟨O, q, none⟩ = some (.slice (some ⟨wr.heap.size, 0, none⟩) n n) := by
                    have := (ho1.set q (.slice (some ⟨wr.heap.size, 0, none⟩) n n)).alloc (.cells (madeCells #[.bool false] n) 4)
                    rw [← hw2] at this
                    have := this.cell hqn
                    rw [if_pos rfl] at this
                    exact this
                  have SRC := Lib.hid (show ∀ j v, (bl n (war (start L) n q))[j]? = some v → w2.drew.cell? ((⟨w.heap.size, q * 64, none⟩ : Addr).add j) = some v by
                    intro j v hv
                    have hj : j < n := by have := (List.getElem?_eq_some_iff.1 hv).1; rwa [bl_length] at this
                    rw [bl_get _ _ _ hj] at hv
                    rw [Addr.add_mid, ← hv]
                    exact hb2.cell hqn (by omega))
                  have CC := Lib.hid (show ∀ j, j < (bl n (war (start L) n q)).length → (w2.drew.cell? ⟨wr.heap.size, 0 + j, none⟩).isSome = true by
                    intro j hj
                    rw [bl_length] at hj
                    rw [Nat.zero_add]
                    have := hm2.cell hj
                    show (w2.cell? _).isSome = true
                    rw [this]
                    rfl)
                  have FF := Lib.hid (show ∀ j, j < (bl n (war (start L) n q)).length → w2.drew.frozen? ⟨wr.heap.size, 0 + j, none⟩ = false from fun j _ => hm2.frozen _)
                  have OO := Lib.hid (show ∀ v ∈ bl n (war (start L) n q), v.oneCell' = true by intro v hv; simp [bl] at hv; obtain ⟨a, _, rfl⟩ := hv; rfl)
                  have S1 := Lib.hid s1
                  have HW2 := Lib.hid hw2
                  have LN := Lib.hid (bl_length n (war (start L) n q))
                  clear s1 hw2 hs2 hm2 hb2
                  have c0 := ho1.cell hqn
                  rw [if_neg (by omega)] at c0
                  have f0 := ho1.frozen q
                  have hlt := ho1.lt
                  have i1 : (0 : Int) ≤ (q : Int) := by omega
                  have i2 : (q : Int) < 64 := by omega
                  have i3 : (q : Int) < (n : Int) := by omega
                  have hn64 : (n : Int) ≤ 64 := by omega
                  clear ho1 ho2
                  go_wp2
                  rw [← HW2.out]
                  clear HT HB HO c0 f0 hlt
                  go_region_law (refine step_copy rfl (.tmp 108) (.tmp 112) rfl wr.heap.size n n ⟨w.heap.size, q * 64, none⟩ 64 (bl n (war (start L) n q)) rfl rfl under34 LN.out SRC.out CC.out FF.out OO.out ?_)
                  go_wp2
                  go_roundw
                  case rel => exact ⟨q + 1, by omega, by go_num, S1.out.1, S1.out.2.1, S1.out.2.2⟩
                  case measure => simp [intOf]; omega
                · obtain rfl : n = q := by omega
                  go_wp2
                  go_ret2
                  exact ⟨HB.out, .inl ⟨all_ok HOK.out, some ⟨O, 0, none⟩, rfl, outs_is HO.out⟩⟩
end Go.Proofs.YtappaokjlnpbnaaDoor.Rea
