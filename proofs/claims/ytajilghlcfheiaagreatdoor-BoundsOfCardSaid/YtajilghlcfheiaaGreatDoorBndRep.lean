/- bits.Mul of one and a small number; slices.Repeat of one number; bounds.so. -/
import Derived.Test.YtajilghlcfheiaaGreatDoorBndChk
import Derived.Test.YtajilghlcfheiaaGreatDoorRea
import Derived.Deep.RegionLaw
import Derived.Laws.IdiomCopy
import Derived.Deep.Cut
import Derived.IntWalk
namespace Go.Proofs.YtajilghlcfheiaaGreatDoor.Bnd
set_option maxRecDepth 20000
open Go.RowKit Go.Proofs.YtajilghlcfheiaaGreatDoorW.PrintWords
theorem mul64_any (v : Nat) (hv : v ≤ 64) (w : World) : Calls Tryz.prog 177 #[.int .u64 1, .int .u64 (v : Int)] w fun e w' => e = .returned (.tuple #[.int .u64 0, .int .u64 (v : Int)]) ∧ w = w' := by
  have h1 : bits .and .u64 (v : Int) 4294967295 = (v : Int) := by
    have h := u64_and_nat v 4294967295 (by omega) (by decide)
    rw [show v &&& 4294967295 = v by rw [show 4294967295 = 2 ^ 32 - 1 from rfl, Nat.and_two_pow_sub_one_eq_mod]; omega] at h
    exact h
  have h2 : bits .and .u64 (1 : Int) 4294967295 = 1 := by decide
  have h3 : bits .and .u64 (0 : Int) 4294967295 = 0 := by decide
  have h4 : (v : Int) / 4294967296 = 0 := by omega
  go_enter Tryz.func177, Tryz.ntmps177
  go_wp2
  go_ret2
  exact ⟨rfl, rfl⟩
theorem mul_any (v : Nat) (hv : v ≤ 64) (w : World) : Calls Tryz.prog 172 #[.int .u64 1, .int .u64 (v : Int)] w fun e w' => e = .returned (.tuple #[.int .u64 0, .int .u64 (v : Int)]) ∧ w = w' := by
  have H := Lib.hid (mul64_any v hv w)
  go_enter Tryz.func172, Tryz.ntmps172
  go_wp2_with fail
  refine H.out.mono ?_
  rintro e w1 ⟨rfl, rfl⟩
  go_wp2
  go_ret2
  exact ⟨rfl, rfl⟩
/-- copy, as one step of a region that draws. -/
theorem step_cp {ops : Array Oper} {o : Oper} {a : Act} {w : World} {K : Act → World → Prop} {Q : Exit → Act → World → Prop} {E : Prop}
    (hg : o.guard = none) (d s : Operand) (hop : o.op = Op.call { callee := Callee.builtin Builtin.copy, args := #[d, s], argTypes := #[22, 22] })
    (b off dl dc sl sc : Nat) (ad : Addr) (cs : List Value) (hd : a.eval d = .slice (some ⟨b, off, none⟩) dl dc) (hs : a.eval s = .slice (some ad) sl sc) (hl : cs.length = Nat.min sl dl)
    (hsrc : ∀ j v, cs[j]? = some v → w.cell? (ad.add j) = some v) (hc : ∀ j, j < cs.length → (w.cell? ⟨b, off + j, none⟩).isSome = true) (hf : ∀ j, j < cs.length → w.frozen? ⟨b, off + j, none⟩ = false) (h1 : ∀ v ∈ cs, v.oneCell' = true)
    (hK : K (a.put o.dst (goInt cs.length)) (w.setCells b off cs)) :
    if Region.wanted o (yielded ops a.tmps) = true then Oper.wp Tryz.prog o a w K Q else E := by
  have hw : Region.wanted o (yielded ops a.tmps) = true := by simp [Region.wanted, hg]
  rw [if_pos hw]
  have hrun := run_copy_cells (P := Tryz.prog) w 22 22 o.type 66 b off dl dc ad sl sc cs under22 (by kernel_rfl) hl hsrc hc hf h1
  unfold Oper.wp
  simp [execOp, hop, resolve, invoke, builtin, hd, hs, hrun, Result.andThen]
  exact hK
theorem wpList_cp {ops : Array Oper} {o : Oper} {rest : List Oper} {a : Act} {w : World} {Q : Exit → Act → World → Prop}
    (hg : o.guard = none) (d s : Operand) (hop : o.op = Op.call { callee := Callee.builtin Builtin.copy, args := #[d, s], argTypes := #[22, 22] })
    (b off dl dc sl sc : Nat) (ad : Addr) (cs : List Value) (hd : a.eval d = .slice (some ⟨b, off, none⟩) dl dc) (hs : a.eval s = .slice (some ad) sl sc) (hl : cs.length = Nat.min sl dl)
    (hsrc : ∀ j v, cs[j]? = some v → w.cell? (ad.add j) = some v) (hc : ∀ j, j < cs.length → (w.cell? ⟨b, off + j, none⟩).isSome = true) (hf : ∀ j, j < cs.length → w.frozen? ⟨b, off + j, none⟩ = false) (h1 : ∀ v ∈ cs, v.oneCell' = true)
    (hK : wpList Tryz.prog ops Q rest (a.put o.dst (goInt cs.length)) (w.setCells b off cs)) : wpList Tryz.prog ops Q (o :: rest) a w := by
  have hrun := run_copy_cells (P := Tryz.prog) w 22 22 o.type 66 b off dl dc ad sl sc cs under22 (by kernel_rfl) hl hsrc hc hf h1
  refine wpList_plain hg fun K hK2 => ?_
  unfold Oper.wp execOp
  simp only [hop, resolve, invoke, builtin, Sem.run_bind, Sem.run_pure, Result.andThen_ok, List.map_toArray, List.map_cons, List.map_nil, hd, hs, hrun]
  exact hK2 _ _ hK
/-- the first k of a row are x. -/
def fil (x k j : Nat) : Value := .int .u64 ((if j < k then x else 0 : Nat) : Int)
theorem fil_step {w w0 : World} {B N x k c : Nat} (h : w.rowIs B 66 N (fil x k)) (_hc : k + c ≤ N) (hb : Below w0.heap.size w0 w) (hB : w0.heap.size ≤ B) : (w.setCells B k (List.replicate c (.int .u64 (x : Int)))).rowIs B 66 N (fil x (k + c)) ∧ Below w0.heap.size w0 (w.setCells B k (List.replicate c (.int .u64 (x : Int)))) := by
  refine ⟨(Rea.rowIs_setCells (List.replicate c (.int .u64 (x : Int))) k _ _ h).congr (fun j _ => ?_), Rea.below_setCells' hB _ _ _ hb⟩
  unfold fil
  by_cases h1 : k ≤ j
  · rw [if_pos h1, List.getElem?_replicate]
    by_cases h2 : j - k < c
    · rw [if_pos h2, if_pos (show j < k + c by omega)]
      rfl
    · rw [if_neg h2, if_neg (show ¬ j < k by omega), if_neg (show ¬ j < k + c by omega)]
      rfl
  · rw [if_neg h1, if_pos (show j < k by omega), if_pos (show j < k + c by omega)]
set_option maxRecDepth 20000 in
set_option maxHeartbeats 2000000 in
theorem repeat_any (BX : Nat) (x N : Nat) (hN : N ≤ 64) (w : World) (hx : w.cell? ⟨BX, 0, none⟩ = some (.int .u64 (x : Int))) : Calls Tryz.prog 121 #[.slice (some ⟨BX, 0, none⟩) 1 1, .int .i64 (N : Int)] w fun e w' => (e = .returned (.slice (some ⟨w.heap.size, 0, none⟩) N N) ∧ w'.rowIs w.heap.size 66 N (fun _ => .int .u64 (x : Int))) ∧ Below w.heap.size w w' := by
  have mk1 := run_make_row' (P := Tryz.prog) 22 66 (.int .u64 0) 8 under22 info23 rfl .i64 .i64 N (by omega) (by omega)
  have HMUL := Lib.hid (mul_any N hN w)
  have HX := Lib.hid hx
  have d0 : decide ((N : Int) < 0) = false := by simp
  have d1 : decide (9223372036854775807 < (N : Int)) = false := by simp; omega
  have u1 : IntKind.u64.wrap (N : Int) = (N : Int) := by rw [IntKind.wrap_u64]; omega
  have HR0 := Lib.hid ((World.rowIs_made w (.int .u64 0) N 66).congr (g := fil x 0) (fun j _ => by unfold fil; rw [if_neg (by omega)]; rfl))
  have HB0 := Lib.hid (lit_below w (.cells (madeCells #[.int .u64 0] N) 66))
  have hx1 : (w.alloc (.cells (madeCells #[.int .u64 0] N) 66)).cell? ⟨BX, 0, none⟩ = some (.int .u64 (x : Int)) := (HB0.out.cell (p := ⟨BX, 0, none⟩) (World.block_lt_of_cell? _ _ hx)).trans hx
  have HX1 := Lib.hid hx1
  clear hx hx1
  go_enter Tryz.func121, Tryz.ntmps121
  go_wp2_with fail
  refine HMUL.out.mono ?_
  rintro e w1 ⟨rfl, rfl⟩
  go_upto_region 7 with fail
  obtain ⟨B, hB⟩ : ∃ B, B = w.heap.size := ⟨_, rfl⟩
  rw [← hB] at HR0
  rw [← hB]
  have HBB := Lib.hid (show w.heap.size ≤ B by rw [hB]; exact Nat.le_refl _)
  have HBE := Lib.hid hB
  clear hB HMUL mk1
  generalize w.alloc (.cells (madeCells #[.int .u64 0] N) 66) = w2 at *
  obtain ⟨c, hc⟩ : ∃ c, c = min 1 N := ⟨_, rfl⟩
  have HC := Lib.hid hc
  have hcN : c ≤ N := by omega
  have HLEN := Lib.hid (show (List.replicate c (Value.int .u64 (x : Int))).length = Nat.min 1 N by rw [List.length_replicate]; exact hc)
  have HSRC := Lib.hid (show ∀ j v, (List.replicate c (Value.int .u64 (x : Int)))[j]? = some v → w2.cell? ((⟨BX, 0, none⟩ : Addr).add j) = some v from fun j v hj => by
    rw [List.getElem?_replicate] at hj
    split at hj
    · next h =>
      obtain rfl : j = 0 := by omega
      cases hj
      rw [add_of, Nat.zero_add]
      exact HX1.out
    · cases hj)
  have HCE := Lib.hid (show ∀ j, j < (List.replicate c (Value.int .u64 (x : Int))).length → (w2.cell? ⟨B, 0 + j, none⟩).isSome = true from fun j hj => by
    rw [List.length_replicate] at hj
    rw [Nat.zero_add, HR0.out.cell (by omega)]
    rfl)
  have HFR := Lib.hid (show ∀ j, j < (List.replicate c (Value.int .u64 (x : Int))).length → w2.frozen? ⟨B, 0 + j, none⟩ = false from fun j _ => HR0.out.frozen _)
  have HST := Lib.hid (fil_step (c := c) HR0.out (by omega) HB0.out HBB.out)
  have HL2 := Lib.hid (show goInt (List.replicate c (Value.int .u64 (x : Int))).length = .int .i64 (c : Int) by rw [List.length_replicate]; rfl)
  clear hc
  rw [Nat.zero_add] at HST
  have hcp := run_copy_cells (P := Tryz.prog) w2 22 22 3 66 B 0 N N ⟨BX, 0, none⟩ 1 1 (List.replicate c (Value.int .u64 (x : Int))) under22 (by kernel_rfl) HLEN.out HSRC.out HCE.out HFR.out (fun v hv => by rw [List.eq_of_mem_replicate hv]; rfl)
  rw [HL2.out] at hcp
  obtain ⟨w3, hw3⟩ : ∃ w3, w3 = w2.setCells B 0 (List.replicate c (Value.int .u64 (x : Int))) := ⟨_, rfl⟩
  rw [← hw3] at hcp HST
  clear hw3
  go_wp2_with fail
  go_loopw [8] (fun v wr => ∃ k : Nat, k ≤ N ∧ (1 ≤ N → 1 ≤ k) ∧ v = .int .i64 k ∧ Hid (wr.rowIs B 66 N (fil x k)) ∧ Hid (Below w.heap.size w wr)) (fun v _ => N - (intOf v).toNat)
  case atStart => exact ⟨c, hcN, fun h => by have := HC.out; omega, rfl, HST.out.1, HST.out.2⟩
  case round =>
    clear HST HR0 HB0 HLEN HSRC HCE HFR HL2
    obtain ⟨k, hk, hk1, rfl, HR, HB⟩ := hrel
    by_cases hkN : k < N
    · obtain ⟨d, hd⟩ : ∃ d, d = Nat.min k (N - k) := ⟨_, rfl⟩
      have i1 : (0 : Int) ≤ (k : Int) := by omega
      have i2 : (k : Int) ≤ (N : Int) := by omega
      have i3 : ¬ N = k := by omega
      have i4 : ¬ N < k := by omega
      clear hcp
      have hdr : d ≤ N - k := by rw [hd]; exact Nat.min_le_right _ _
      have hdN : k + d ≤ N := by omega
      have hd1 : N ≠ 0 → 1 ≤ d := fun h => by rw [hd]; exact Nat.le_min.2 ⟨hk1 (by omega), by omega⟩
      have hkd : d ≤ k := by rw [hd]; exact Nat.min_le_left _ _
      have hcp := run_copy_cells (P := Tryz.prog) wr.drew 22 22 3 66 B k (N - k) (N - k) ⟨B, 0, none⟩ k N (List.replicate d (Value.int .u64 (x : Int))) under22 (by kernel_rfl) (by rw [List.length_replicate]; exact hd) (fun j v hj => by
        rw [List.getElem?_replicate] at hj
        split at hj
        · next h =>
          cases hj
          rw [add_of, Nat.zero_add]
          show wr.cell? ⟨B, j, none⟩ = _
          rw [HR.out.cell (by omega)]
          unfold fil
          rw [if_pos (by omega)]
        · cases hj) (fun j hj => by
        rw [List.length_replicate] at hj
        show (wr.cell? ⟨B, k + j, none⟩).isSome = true
        rw [HR.out.cell (by omega)]
        rfl) (fun j _ => HR.out.frozen _) (fun v hv => by rw [List.eq_of_mem_replicate hv]; rfl)
      rw [show goInt (List.replicate d (Value.int .u64 (x : Int))).length = .int .i64 (d : Int) by rw [List.length_replicate]; rfl] at hcp
      have HST := Lib.hid (fil_step (w := wr.drew) (c := d) HR.out hdN HB.out.drew HBB.out)
      obtain ⟨w4, hw4⟩ : ∃ w4, w4 = wr.drew.setCells B k (List.replicate d (Value.int .u64 (x : Int))) := ⟨_, rfl⟩
      rw [← hw4] at hcp HST
      have i5 : IntKind.i64.wrap ((k : Int) + (d : Int)) = (k : Int) + (d : Int) := IntWalk.i64_in _ (by omega)
      clear hw4 hd
      go_wp2_with fail
      go_region
      all_goals
        go_wp2
        go_roundw
        case rel => exact ⟨k + d, by omega, fun h => by omega, by go_num, HST.out.1, HST.out.2⟩
        case measure => simp [intOf]; omega
    · obtain rfl : k = N := by omega
      have HRR := Lib.hid (HR.out.congr (g := fun _ => .int .u64 (x : Int)) (fun j hj => by unfold fil; rw [if_pos hj]))
      go_wp2
      go_ret
      exact ⟨⟨by rw [← HBE.out]; rfl, by rw [← HBE.out]; exact HRR.out⟩, HB.out⟩
theorem so_any (x N : Nat) (hN : N ≤ 64) (w : World) : Calls Tryz.prog 50 #[.int .u64 (x : Int), .int .i64 (N : Int)] w fun e w' => (∃ B, e = .returned (.slice (some ⟨B, 0, none⟩) N N) ∧ w.heap.size ≤ B ∧ w'.rowIs B 66 N (fun _ => .int .u64 (x : Int))) ∧ Below w.heap.size w w' := by
  have hB := heap_alloc_new w (.cells #[.int .u64 (x : Int)] 66)
  have H := Lib.hid (repeat_any w.heap.size x N hN (w.alloc (.cells #[.int .u64 (x : Int)] 66)) (by rw [cell_of_row _ _ _ _ _ _ hB]; rfl))
  have HB0 := Lib.hid (lit_below w (.cells #[.int .u64 (x : Int)] 66))
  clear hB
  go_enter Tryz.func50, Tryz.ntmps50
  go_wp2_with fail
  refine H.out.mono ?_
  rintro e w1 ⟨⟨rfl, hr⟩, hb⟩
  have HR := Lib.hid hr
  have HB := Lib.hid (on HB0.out hb)
  have HS := Lib.hid HB0.out.size
  clear hr hb H
  generalize (w.alloc (.cells #[.int .u64 (x : Int)] 66)).heap.size = B at *
  go_wp2
  go_ret
  exact ⟨⟨B, rfl, HS.out, HR.out⟩, HB.out⟩
theorem results_two {fn : Func} {p q : Tmp} {ty : TypeId} (h : fn.results = #[.cell p ty, .cell q ty]) (tmps : Array Value) (w : World) (g g2 : Nat) (x y : Value)
    (hp : tmps.getD p undef = .pointer (some ⟨g, 0, none⟩)) (hq : tmps.getD q undef = .pointer (some ⟨g2, 0, none⟩)) (l1 : (loadVar ty ⟨g, 0, none⟩).run Tryz.prog w = .ok x w) (l2 : (loadVar ty ⟨g2, 0, none⟩).run Tryz.prog w = .ok y w) :
    (results fn tmps).run Tryz.prog w = .ok (.tuple #[x, y]) w := by
  have hp' : tmps[p]?.getD undef = .pointer (some ⟨g, 0, none⟩) := by simpa using hp
  have hq' : tmps[q]?.getD undef = .pointer (some ⟨g2, 0, none⟩) := by simpa using hq
  simp [results, h, hp', hq', asAddr, l1, l2]
theorem row_two {w : World} {B : Nat} {t : TypeId} {x y : Value} (h : w.heap[B]? = some (.cells #[x, y] t (0, 0))) : w.rowIs B t 2 (fun j => if j = 0 then x else y) :=
  ⟨_, h, rfl, fun i hi => by
    have : i = 0 ∨ i = 1 := by omega
    rcases this with rfl | rfl <;> rfl⟩
theorem two_row {w : World} {B : Nat} {t : TypeId} {f : Nat → Value} (h : w.rowIs B t 2 f) : w.heap[B]? = some (.cells #[f 0, f 1] t (0, 0)) := by
  obtain ⟨c, hb, hn, hc⟩ := h
  rw [hb]
  have : c = #[f 0, f 1] := by
    apply Array.ext'
    apply List.ext_getElem
    · simpa using hn
    · intro i h1 h2
      have hi : i = 0 ∨ i = 1 := by simp at h2; omega
      rcases hi with rfl | rfl
      · have := hc 0 (by omega)
        rw [Array.getElem?_eq_some_iff] at this
        exact this.2
      · have := hc 1 (by omega)
        rw [Array.getElem?_eq_some_iff] at this
        exact this.2
  rw [this]
set_option maxRecDepth 20000 in
theorem ends1_any (av bv : Bool) (an bn : Nat) (w : World) : Calls Tryz.prog 49 #[.agg #[.bool av, .int .u64 (an : Int), .bool bv, .int .u64 (bn : Int)]] w fun e w' => e = .returned (.tuple #[.agg #[.bool av, .int .u64 (an : Int)], .agg #[.bool bv, .int .u64 (bn : Int)]]) ∧ Below w.heap.size w w' := by
  go_enter Tryz.func49, Tryz.ntmps49
  go_wp2
  obtain ⟨w1, hw1⟩ : ∃ w1, w1 = w.alloc (.cells #[.bool av, .int .u64 (an : Int), .bool bv, .int .u64 (bn : Int)] 99) := ⟨_, rfl⟩
  obtain ⟨w2, hw2⟩ : ∃ w2, w2 = w1.alloc (.cells #[.bool false, .int .u64 0] 97) := ⟨_, rfl⟩
  obtain ⟨w3, hw3⟩ : ∃ w3, w3 = w2.alloc (.cells #[.bool false, .int .u64 0] 97) := ⟨_, rfl⟩
  have s1 : w1.heap.size = w.heap.size + 1 := by rw [hw1]; show (w.heap.push _).size = _; rw [Array.size_push]
  have s2 : w2.heap.size = w.heap.size + 2 := by rw [hw2]; show (w1.heap.push _).size = _; rw [Array.size_push, s1]
  have k1 : w3.heap[w.heap.size]? = some (.cells #[.bool av, .int .u64 (an : Int), .bool bv, .int .u64 (bn : Int)] 99 (0, 0)) := by
    rw [hw3, Below.heap_alloc _ _ _ (by omega), hw2, Below.heap_alloc _ _ _ (by omega), hw1]
    exact heap_alloc_new w _
  have k2 : w3.heap[w.heap.size + 1]? = some (.cells #[.bool false, .int .u64 0] 97 (0, 0)) := by
    rw [hw3, Below.heap_alloc _ _ _ (by omega), hw2, ← s1]
    exact heap_alloc_new w1 _
  have k3 : w3.heap[w.heap.size + 1 + 1]? = some (.cells #[.bool false, .int .u64 0] 97 (0, 0)) := by
    rw [hw3, show w.heap.size + 1 + 1 = w2.heap.size by rw [s2]]
    exact heap_alloc_new w2 _
  have HB := Lib.hid (show Below w.heap.size w w3 by
    rw [hw3, hw2, hw1]
    exact ((lit_below w _).alloc (by rw [← hw1, s1]; omega) _).alloc (by rw [← hw1, ← hw2, s2]; omega) _)
  rw [← hw1, ← hw2, ← hw3]
  clear hw1 hw2 hw3 s1 s2
  have c0 : w3.cell? ⟨w.heap.size, 0, none⟩ = some (.bool av) := by rw [cell_of_row _ _ _ _ _ _ k1]; rfl
  have c1 : w3.cell? ⟨w.heap.size, 1, none⟩ = some (.int .u64 (an : Int)) := by rw [cell_of_row _ _ _ _ _ _ k1]; rfl
  have c2 : w3.cell? ⟨w.heap.size, 2, none⟩ = some (.bool bv) := by rw [cell_of_row _ _ _ _ _ _ k1]; rfl
  have c3 : w3.cell? ⟨w.heap.size, 3, none⟩ = some (.int .u64 (bn : Int)) := by rw [cell_of_row _ _ _ _ _ _ k1]; rfl
  have d0 : w3.cell? ⟨w.heap.size + 1, 0, none⟩ = some (.bool false) := by rw [cell_of_row _ _ _ _ _ _ k2]; rfl
  have d1 : w3.cell? ⟨w.heap.size + 1, 1, none⟩ = some (.int .u64 0) := by rw [cell_of_row _ _ _ _ _ _ k2]; rfl
  have e0 : w3.cell? ⟨w.heap.size + 1 + 1, 0, none⟩ = some (.bool false) := by rw [cell_of_row _ _ _ _ _ _ k3]; rfl
  have e1 : w3.cell? ⟨w.heap.size + 1 + 1, 1, none⟩ = some (.int .u64 0) := by rw [cell_of_row _ _ _ _ _ _ k3]; rfl
  have f1 : ∀ o, w3.frozen? ⟨w.heap.size + 1, o, none⟩ = false := fun o => by simp [World.frozen?, k2]
  have f2 : ∀ o, w3.frozen? ⟨w.heap.size + 1 + 1, o, none⟩ = false := fun o => by simp [World.frozen?, k3]
  have HK2 := Lib.hid k2
  have HK3 := Lib.hid k3
  clear k1 k2 k3
  have R1 := Lib.hid ((((row_two HK2.out).set 0 (.bool av)).set 1 (.int .u64 (an : Int))).setOther (a := ⟨w.heap.size + 1 + 1, 0, none⟩) (show w.heap.size + 1 ≠ w.heap.size + 1 + 1 by omega) (.bool bv) |>.setOther (a := ⟨w.heap.size + 1 + 1, 1, none⟩) (show w.heap.size + 1 ≠ w.heap.size + 1 + 1 by omega) (.int .u64 (bn : Int)))
  have R2 := Lib.hid (((((row_two HK3.out).setOther (a := ⟨w.heap.size + 1, 0, none⟩) (show w.heap.size + 1 + 1 ≠ w.heap.size + 1 by omega) (.bool av)).setOther (a := ⟨w.heap.size + 1, 1, none⟩) (show w.heap.size + 1 + 1 ≠ w.heap.size + 1 by omega) (.int .u64 (an : Int))).set 0 (.bool bv)).set 1 (.int .u64 (bn : Int)))
  have HB2 := Lib.hid ((((HB.out.setCell (p := ⟨w.heap.size + 1, 0, none⟩) (by show w.heap.size ≤ w.heap.size + 1; omega) (.bool av)).setCell (p := ⟨w.heap.size + 1, 1, none⟩) (by show w.heap.size ≤ w.heap.size + 1; omega) (.int .u64 (an : Int))).setCell (p := ⟨w.heap.size + 1 + 1, 0, none⟩) (by show w.heap.size ≤ w.heap.size + 1 + 1; omega) (.bool bv)).setCell (p := ⟨w.heap.size + 1 + 1, 1, none⟩) (by show w.heap.size ≤ w.heap.size + 1 + 1; omega) (.int .u64 (bn : Int)))
  go_region
  go_wp2
  refine bodyPost_ret_by (results_two (p := 2) (q := 3) (ty := 97) rfl _ _ (w.heap.size + 1) (w.heap.size + 1 + 1) _ _ rfl rfl (run_loadVar_row _ _ 97 97 _ (0, 0) _ (two_row R1.out) Tryz.underlying97 rfl (by kernel_rfl)) (run_loadVar_row _ _ 97 97 _ (0, 0) _ (two_row R2.out) Tryz.underlying97 rfl (by kernel_rfl))) rfl ?_
  exact ⟨rfl, HB2.out.drew⟩
set_option maxRecDepth 20000 in
theorem ends2_any (av bv : Bool) (an bn : Nat) (w : World) : Calls Tryz.prog 51 #[.agg #[.bool av, .int .u64 (an : Int), .bool bv, .int .u64 (bn : Int)]] w fun e w' => e = .returned (.tuple #[.agg #[.bool bv, .int .u64 (bn : Int)], .agg #[.bool av, .int .u64 (an : Int)]]) ∧ Below w.heap.size w w' := by
  go_enter Tryz.func51, Tryz.ntmps51
  go_wp2
  obtain ⟨w1, hw1⟩ : ∃ w1, w1 = w.alloc (.cells #[.bool av, .int .u64 (an : Int), .bool bv, .int .u64 (bn : Int)] 99) := ⟨_, rfl⟩
  obtain ⟨w2, hw2⟩ : ∃ w2, w2 = w1.alloc (.cells #[.bool false, .int .u64 0] 97) := ⟨_, rfl⟩
  obtain ⟨w3, hw3⟩ : ∃ w3, w3 = w2.alloc (.cells #[.bool false, .int .u64 0] 97) := ⟨_, rfl⟩
  have s1 : w1.heap.size = w.heap.size + 1 := by rw [hw1]; show (w.heap.push _).size = _; rw [Array.size_push]
  have s2 : w2.heap.size = w.heap.size + 2 := by rw [hw2]; show (w1.heap.push _).size = _; rw [Array.size_push, s1]
  have k1 : w3.heap[w.heap.size]? = some (.cells #[.bool av, .int .u64 (an : Int), .bool bv, .int .u64 (bn : Int)] 99 (0, 0)) := by
    rw [hw3, Below.heap_alloc _ _ _ (by omega), hw2, Below.heap_alloc _ _ _ (by omega), hw1]
    exact heap_alloc_new w _
  have k2 : w3.heap[w.heap.size + 1]? = some (.cells #[.bool false, .int .u64 0] 97 (0, 0)) := by
    rw [hw3, Below.heap_alloc _ _ _ (by omega), hw2, ← s1]
    exact heap_alloc_new w1 _
  have k3 : w3.heap[w.heap.size + 1 + 1]? = some (.cells #[.bool false, .int .u64 0] 97 (0, 0)) := by
    rw [hw3, show w.heap.size + 1 + 1 = w2.heap.size by rw [s2]]
    exact heap_alloc_new w2 _
  have HB := Lib.hid (show Below w.heap.size w w3 by
    rw [hw3, hw2, hw1]
    exact ((lit_below w _).alloc (by rw [← hw1, s1]; omega) _).alloc (by rw [← hw1, ← hw2, s2]; omega) _)
  rw [← hw1, ← hw2, ← hw3]
  clear hw1 hw2 hw3 s1 s2
  have c0 : w3.cell? ⟨w.heap.size, 0, none⟩ = some (.bool av) := by rw [cell_of_row _ _ _ _ _ _ k1]; rfl
  have c1 : w3.cell? ⟨w.heap.size, 1, none⟩ = some (.int .u64 (an : Int)) := by rw [cell_of_row _ _ _ _ _ _ k1]; rfl
  have c2 : w3.cell? ⟨w.heap.size, 2, none⟩ = some (.bool bv) := by rw [cell_of_row _ _ _ _ _ _ k1]; rfl
  have c3 : w3.cell? ⟨w.heap.size, 3, none⟩ = some (.int .u64 (bn : Int)) := by rw [cell_of_row _ _ _ _ _ _ k1]; rfl
  have d0 : w3.cell? ⟨w.heap.size + 1, 0, none⟩ = some (.bool false) := by rw [cell_of_row _ _ _ _ _ _ k2]; rfl
  have d1 : w3.cell? ⟨w.heap.size + 1, 1, none⟩ = some (.int .u64 0) := by rw [cell_of_row _ _ _ _ _ _ k2]; rfl
  have e0 : w3.cell? ⟨w.heap.size + 1 + 1, 0, none⟩ = some (.bool false) := by rw [cell_of_row _ _ _ _ _ _ k3]; rfl
  have e1 : w3.cell? ⟨w.heap.size + 1 + 1, 1, none⟩ = some (.int .u64 0) := by rw [cell_of_row _ _ _ _ _ _ k3]; rfl
  have f1 : ∀ o, w3.frozen? ⟨w.heap.size + 1, o, none⟩ = false := fun o => by simp [World.frozen?, k2]
  have f2 : ∀ o, w3.frozen? ⟨w.heap.size + 1 + 1, o, none⟩ = false := fun o => by simp [World.frozen?, k3]
  have HK2 := Lib.hid k2
  have HK3 := Lib.hid k3
  clear k1 k2 k3
  have R1 := Lib.hid ((((row_two HK2.out).set 0 (.bool bv)).set 1 (.int .u64 (bn : Int))).setOther (a := ⟨w.heap.size + 1 + 1, 0, none⟩) (show w.heap.size + 1 ≠ w.heap.size + 1 + 1 by omega) (.bool av) |>.setOther (a := ⟨w.heap.size + 1 + 1, 1, none⟩) (show w.heap.size + 1 ≠ w.heap.size + 1 + 1 by omega) (.int .u64 (an : Int)))
  have R2 := Lib.hid (((((row_two HK3.out).setOther (a := ⟨w.heap.size + 1, 0, none⟩) (show w.heap.size + 1 + 1 ≠ w.heap.size + 1 by omega) (.bool bv)).setOther (a := ⟨w.heap.size + 1, 1, none⟩) (show w.heap.size + 1 + 1 ≠ w.heap.size + 1 by omega) (.int .u64 (bn : Int))).set 0 (.bool av)).set 1 (.int .u64 (an : Int)))
  have HB2 := Lib.hid ((((HB.out.setCell (p := ⟨w.heap.size + 1, 0, none⟩) (by show w.heap.size ≤ w.heap.size + 1; omega) (.bool bv)).setCell (p := ⟨w.heap.size + 1, 1, none⟩) (by show w.heap.size ≤ w.heap.size + 1; omega) (.int .u64 (bn : Int))).setCell (p := ⟨w.heap.size + 1 + 1, 0, none⟩) (by show w.heap.size ≤ w.heap.size + 1 + 1; omega) (.bool av)).setCell (p := ⟨w.heap.size + 1 + 1, 1, none⟩) (by show w.heap.size ≤ w.heap.size + 1 + 1; omega) (.int .u64 (an : Int)))
  go_region
  go_wp2
  refine bodyPost_ret_by (results_two (p := 2) (q := 3) (ty := 97) rfl _ _ (w.heap.size + 1) (w.heap.size + 1 + 1) _ _ rfl rfl (run_loadVar_row _ _ 97 97 _ (0, 0) _ (two_row R1.out) Tryz.underlying97 rfl (by kernel_rfl)) (run_loadVar_row _ _ 97 97 _ (0, 0) _ (two_row R2.out) Tryz.underlying97 rfl (by kernel_rfl))) rfl ?_
  exact ⟨rfl, HB2.out.drew⟩
end Go.Proofs.YtajilghlcfheiaaGreatDoor.Bnd
