/- BoundsOf: what its parts tell. -/
import Derived.Test.YtajilghlcfheiaaGreatDoorRTwin
import Derived.Test.YtajilghlcfheiaaGreatDoorApartBN
import Derived.Test.YtajilghlcfheiaaGreatDoorSSolve
import Derived.Test.YtajilghlcfheiaaGreatDoorSHold
namespace Go.Proofs.YtajilghlcfheiaaGreatDoor.BOf
open Go.RowKit Go.Proofs.YtajilghlcfheiaaGreatDoorW.PrintWords
open Rea (Bd Bds on flat flat_length flat_append Fit)
open Bnd (SI Full Sol Low High chkF Nums Tab RS Ans2 intsN SortN SolvedI solved_all chk_vars lst lst_length RowN nums_none sol_lt)
open Trm (lit_below)
set_option maxRecDepth 100000
/-- Book.Bounds. -/
theorem bounds_any (w : World) (base BB : Nat) (F : Nat → Value) (vh : Value) (L : List HL) (A : Option Addr) (n c q : Nat) (hbk : w.rowIs BB 61 16 F) (h0 : F 0 = .int .i64 (q : Int)) (hf : F 9 = vh)
    (ho : w.ownsRow base 149 3 vh L.length (hcells L)) (hne : vh.ownBlock ≠ some BB) (hq : q ≤ 1000) (hlen : L.length ≤ 1000) (hbase : base ≤ w.heap.size) :
    Calls Tryz.prog 21 #[.pointer (some ⟨BB, 0, none⟩), .slice A n c] w fun e w' => e = .returned (.tuple #[]) ∧ Tch (fun k => k = BB ∨ vh.ownBlock = some k) w w' ∧ ∃ vh' F', w'.rowIs BB 61 16 F' ∧ F' 0 = .int .i64 ((q + 1 : Nat) : Int) ∧ F' 9 = vh' ∧ (∀ j, j ≠ 0 → j ≠ 9 → F' j = F j) ∧ w'.ownsRow base 149 3 vh' (L.length + 1) (hcells (L ++ [⟨.slice A n c, .slice none 0 0, n, q + 1⟩])) ∧ (vh'.ownBlock = vh.ownBlock ∨ ∃ b, vh'.ownBlock = some b ∧ w.heap.size ≤ b) := by
  have HK := Lib.hid (KBound.keep_any w base BB F vh L A n c q hbk h0 hf ho hne hq hlen hbase)
  clear hbk h0 hf ho hne
  go_enter Tryz.func21, Tryz.ntmps21
  go_wp2_with fail
  refine HK.out.mono ?_
  rintro e w1 ⟨rfl, h⟩
  have HH := Lib.hid h
  clear h HK
  go_wp2_with fail
  go_end0
  exact ⟨rfl, HH.out⟩
/-- Book.Nums. -/
theorem numsb_any (w : World) (base BB : Nat) (F : Nat → Value) (vh : Value) (L : List HL) (A : Option Addr) (n c q : Nat) (hbk : w.rowIs BB 61 16 F) (h0 : F 0 = .int .i64 (q : Int)) (hf : F 4 = vh)
    (ho : w.ownsRow base 151 3 vh L.length (hcells L)) (hne : vh.ownBlock ≠ some BB) (hq : q ≤ 1000) (hlen : L.length ≤ 1000) (hbase : base ≤ w.heap.size) :
    Calls Tryz.prog 22 #[.pointer (some ⟨BB, 0, none⟩), .slice A n c] w fun e w' => e = .returned (.tuple #[]) ∧ Tch (fun k => k = BB ∨ vh.ownBlock = some k) w w' ∧ ∃ vh' F', w'.rowIs BB 61 16 F' ∧ F' 0 = .int .i64 ((q + 1 : Nat) : Int) ∧ F' 4 = vh' ∧ (∀ j, j ≠ 0 → j ≠ 4 → F' j = F j) ∧ w'.ownsRow base 151 3 vh' (L.length + 1) (hcells (L ++ [⟨.slice A n c, .slice none 0 0, n, q + 1⟩])) ∧ (vh'.ownBlock = vh.ownBlock ∨ ∃ b, vh'.ownBlock = some b ∧ w.heap.size ≤ b) := by
  have HK := Lib.hid (KNum.keep_any w base BB F vh L A n c q hbk h0 hf ho hne hq hlen hbase)
  clear hbk h0 hf ho hne
  go_enter Tryz.func22, Tryz.ntmps22
  go_wp2_with fail
  refine HK.out.mono ?_
  rintro e w1 ⟨rfl, h⟩
  have HH := Lib.hid h
  clear h HK
  go_wp2_with fail
  go_end0
  exact ⟨rfl, HH.out⟩
theorem own_low {w : World} {base b2 : Nat} {e : TypeId} {size n : Nat} {v : Value} {xs : List Value} (h : w.ownsRow base e size v n xs) (hb : b2 ≤ base) : w.ownsRow b2 e size v n xs := by
  refine ⟨h.1, ?_⟩
  rcases h.2 with h0 | ⟨g, cap, cur, e1, h1, h2⟩
  · exact .inl h0
  · exact .inr ⟨g, cap, cur, e1, Nat.le_trans hb h1, h2⟩
def F0 (j : Nat) : Value := if j = 0 then .int .i64 0 else .slice none 0 0
theorem book_new (w : World) : (w.alloc (.cells #[.int .i64 0, .slice none 0 0, .slice none 0 0, .slice none 0 0, .slice none 0 0, .slice none 0 0, .slice none 0 0, .slice none 0 0, .slice none 0 0, .slice none 0 0, .slice none 0 0, .slice none 0 0, .slice none 0 0, .slice none 0 0, .slice none 0 0, .slice none 0 0] 61)).rowIs w.heap.size 61 16 F0 :=
  World.rowIs_alloc w _ _ F0 (fun i hi => by
    have hi' : i < 16 := hi
    have : i = 0 ∨ i = 1 ∨ i = 2 ∨ i = 3 ∨ i = 4 ∨ i = 5 ∨ i = 6 ∨ i = 7 ∨ i = 8 ∨ i = 9 ∨ i = 10 ∨ i = 11 ∨ i = 12 ∨ i = 13 ∨ i = 14 ∨ i = 15 := by omega
    rcases this with rfl | rfl | rfl | rfl | rfl | rfl | rfl | rfl | rfl | rfl | rfl | rfl | rfl | rfl | rfl | rfl <;> rfl)
theorem own_below {w w' : World} {base : Nat} {e : TypeId} {size n : Nat} {v : Value} {xs : List Value} (h : w.ownsRow base e size v n xs) (hb : Below w.heap.size w w') : w'.ownsRow base e size v n xs :=
  World.ownsRow.kept (row := none) h ⟨hb.os, hb.tape, hb.output, hb.size, fun k hk _ => hb.block k hk⟩ (by cases v.ownBlock <;> simp)
theorem blk_one {v g : Value} {n q k : Nat} (h : Blk [(⟨v, g, n, q⟩ : HL)] k) : v.ownBlock = some k := by
  obtain ⟨h, hh, hk⟩ := h
  rw [List.mem_singleton.1 hh] at hk
  exact hk
theorem own_rowIs {w : World} {base B n : Nat} {e : TypeId} {f : Nat → Value} (h : w.rowIs B e n f) (hb : base ≤ B) (hn : n ≤ 1000) : ∃ xs, w.ownsRow base e 1 (.slice (some ⟨B, 0, none⟩) n n) n xs := by
  obtain ⟨c, hc, hs, _⟩ := h
  exact ⟨c.toList, by simp [hs], .inr ⟨B, n, c, rfl, hb, hc, Nat.le_refl _, by unfold maxLen; omega, by rw [hs, Nat.mul_one], List.take_of_length_le (by simp [hs])⟩⟩
theorem row_twin {w : World} {base B n : Nat} {L : List Bd} (hn : n = L.length) (hm : n ≤ 100000) (hB : base ≤ B) (h : w.heap[B]? = some (.cells (flat (L ++ [Rea.mark])).toArray 99 (0, 0))) : w.ownsRow base 99 4 (.slice (some ⟨B, 0, none⟩) n (n + 1)) n (flat L) := by
  refine ⟨by rw [flat_length, hn], .inr ⟨B, n + 1, _, rfl, hB, h, by omega, by unfold maxLen; omega, by rw [List.size_toArray, flat_length, List.length_append, hn]; rfl, ?_⟩⟩
  rw [List.toList_toArray, flat_append, List.take_append_of_le_length (by rw [flat_length, hn]; omega)]
  exact List.take_of_length_le (by rw [flat_length, hn]; omega)
theorem twin_fit {L : List Bd} (h : Fit L) : Fit (L ++ [Rea.mark]) := by
  intro b hb
  rcases List.mem_append.1 hb with hb | hb
  · exact h b hb
  · rw [List.mem_singleton.1 hb]
    decide
theorem bds_front {w : World} {a : Option Addr} {L K : List Bd} (h : Bds w a (L ++ K)) : Bds w a L := by
  have := h.take L.length
  rwa [List.take_left'] at this
  rfl
/-- two rows of the call's own, or none. -/
def Mem2 (base : Nat) (w : World) (A B : Option Addr) (ca : Nat) : Prop :=
  (A = none ∧ B = none ∧ ca = 0) ∨ ∃ Bl Bh, A = some ⟨Bl, 0, none⟩ ∧ B = some ⟨Bh, 0, none⟩ ∧ base ≤ Bl ∧ base ≤ Bh ∧ Bl ≠ Bh ∧ ∃ f g, w.rowIs Bl 66 ca f ∧ w.rowIs Bh 66 ca g
theorem Mem2.tch {X : Nat → Prop} {base ca : Nat} {w w' : World} {A B : Option Addr} (h : Mem2 base w A B ca) (ht : Tch X w w') (hx : ∀ k, k < w.heap.size → ¬ X k) : Mem2 base w' A B ca := by
  rcases h with h | ⟨Bl, Bh, e1, e2, h1, h2, h3, f, g, hf, hg⟩
  · exact .inl h
  · exact .inr ⟨Bl, Bh, e1, e2, h1, h2, h3, f, g, ht.row hf (hx _ hf.lt), ht.row hg (hx _ hg.lt)⟩
theorem Mem2.blk {base ca : Nat} {w : World} {A B : Option Addr} (h : Mem2 base w A B ca) : (∀ j, (Value.slice A ca ca).ownBlock = some j → base ≤ j ∧ j < w.heap.size) ∧ (∀ j, (Value.slice B ca ca).ownBlock = some j → base ≤ j ∧ j < w.heap.size) ∧ NeRow (.slice A ca ca) (.slice B ca ca) := by
  rcases h with ⟨rfl, rfl, rfl⟩ | ⟨Bl, Bh, rfl, rfl, h1, h2, h3, f, g, hf, hg⟩
  · exact ⟨(fun j h => by cases h), (fun j h => by cases h), fun j h => by cases h⟩
  · exact ⟨(fun j h => by cases h; exact ⟨h1, hf.lt⟩), (fun j h => by cases h; exact ⟨h2, hg.lt⟩), fun j h h' => by cases h; cases h'; exact h3 rfl⟩
theorem Mem2.own {base b ca : Nat} {w : World} {A B : Option Addr} (h : Mem2 base w A B ca) (hb : b ≤ base) (hca : ca ≤ 64) : (∃ xs, w.ownsRow b 66 1 (.slice A ca ca) ca xs) ∧ ∃ xs, w.ownsRow b 66 1 (.slice B ca ca) ca xs := by
  rcases h with ⟨rfl, rfl, rfl⟩ | ⟨Bl, Bh, rfl, rfl, h1, h2, h3, f, g, hf, hg⟩
  · exact ⟨⟨[], World.ownsRow_nil w b 66 1⟩, [], World.ownsRow_nil w b 66 1⟩
  · exact ⟨own_rowIs hf (by omega) (by omega), own_rowIs hg (by omega) (by omega)⟩
/-- what Solve answers, and where. -/
theorem solve_own (v : Value) (S : SI) (hFN : Full S ∨ Bnd.None S) (vars : Int) (A2 : Option Addr) (m c2 : Nat) (L : List Bd) (hm : m = L.length) (w : World) (hS : SortN w v S) (hL : Bds w A2 L) :
    Calls Tryz.prog 12 #[v, .int .i64 vars, .slice A2 m c2] w fun e w' => Below w.heap.size w w' ∧ ∃ A B ca xs ys e', e = .returned (.tuple #[.slice A ca ca, .slice B ca ca, .int .i64 ((e' : Nat) : Int)]) ∧ Ans2 S vars L xs ys e' ∧ ca = xs.length ∧ ca = ys.length ∧ ca ≤ 64 ∧ Nums w' A xs ∧ Nums w' B ys ∧ Mem2 w.heap.size w' A B ca := by
  refine (solved_all v S hFN vars A2 m c2 L hm w hS hL).mono ?_
  rintro e w' ⟨hb, ⟨h1, rfl⟩ | ⟨h1, h2, rfl⟩ | ⟨h1, f, g, Bl, Bh, hf, hg, rfl, b1, ⟨b2, b3⟩, r1, r2⟩⟩
  · exact ⟨hb, none, none, 0, [], [], chkF S vars L, rfl, .inl ⟨h1, rfl, rfl, (if_neg h1).symm, fun h => absurd h h1⟩, rfl, rfl, by omega, nums_none _, nums_none _, .inl ⟨rfl, rfl, rfl⟩⟩
  · exact ⟨hb, none, none, 0, [], [], 10, rfl, .inl ⟨by decide, rfl, rfl, (if_pos h1).symm, fun _ => h2⟩, rfl, rfl, by omega, nums_none _, nums_none _, .inl ⟨rfl, rfl, rfl⟩⟩
  · obtain ⟨k1, k2, _, _⟩ := chk_vars h1
    exact ⟨hb, _, _, vars.toNat, lst vars.toNat f, lst vars.toNat g, 0, rfl, .inr ⟨rfl, h1, f, g, hf, hg, rfl, rfl⟩, (lst_length _ _).symm, (lst_length _ _).symm, by omega, RowN.nums r1 (sol_lt hFN hf.1), RowN.nums r2 (sol_lt hFN hg.1), .inr ⟨Bl, Bh, rfl, rfl, b1, b2, b3, _, _, r1, r2⟩⟩
theorem own_twinn {w : World} {base B n : Nat} {bs : List Nat} (hn : n = bs.length) (hm : n ≤ 100000) (hB : base ≤ B) (h : w.heap[B]? = some (.cells (nums .u64 (intsN bs ++ [77])).toArray 66 (0, 0))) : w.ownsRow base 66 1 (.slice (some ⟨B, 0, none⟩) n (n + 1)) n (nums .u64 (intsN bs)) := by
  have hl : (intsN bs).length = n := by simp [intsN, hn]
  refine ⟨by rw [nums_length, hl, Nat.mul_one], .inr ⟨B, n + 1, _, rfl, hB, h, by omega, by unfold maxLen; omega, by rw [List.size_toArray, nums_length, List.length_append, hl]; simp, ?_⟩⟩
  rw [List.toList_toArray, nums_append, List.take_append_of_le_length (by rw [nums_length, hl]; omega)]
  exact List.take_of_length_le (by rw [nums_length, hl]; omega)
theorem ne3 {x y z : HL} (h1 : NeRow x.v y.v) (h2 : NeRow x.v z.v) (h3 : NeRow y.v z.v) : ∀ i j (h : i < [x, y, z].length) (h' : j < [x, y, z].length), i ≠ j → NeRow [x, y, z][i].v [x, y, z][j].v := by
  intro i j h h' hne
  match i, j, h, h' with
  | 0, 0, _, _ => exact absurd rfl hne
  | 0, 1, _, _ => exact h1
  | 0, 2, _, _ => exact h2
  | 1, 0, _, _ => exact ne_symm h1
  | 1, 1, _, _ => exact absurd rfl hne
  | 1, 2, _, _ => exact h3
  | 2, 0, _, _ => exact ne_symm h2
  | 2, 1, _, _ => exact ne_symm h3
  | 2, 2, _, _ => exact absurd rfl hne
theorem all3 {x y z : HL} {p : HL → Prop} (h1 : p x) (h2 : p y) (h3 : p z) : ∀ i (h : i < [x, y, z].length), p [x, y, z][i] := by
  intro i h
  match i, h with
  | 0, _ => exact h1
  | 1, _ => exact h2
  | 2, _ => exact h3
theorem mem3 {x y z h : HL} (hh : h ∈ [x, y, z]) : h = x ∨ h = y ∨ h = z := by simpa using hh
theorem blk3 {x y z : HL} {k : Nat} (h : Blk [x, y, z] k) : x.v.ownBlock = some k ∨ y.v.ownBlock = some k ∨ z.v.ownBlock = some k := by
  obtain ⟨h, hh, hk⟩ := h
  rcases mem3 hh with rfl | rfl | rfl
  · exact .inl hk
  · exact .inr (.inl hk)
  · exact .inr (.inr hk)
theorem six_on {w w' : World} {B : Nat} {a b c d e f : Value} (h : w.cell? ⟨B, 0, none⟩ = some a ∧ w.cell? ⟨B, 1, none⟩ = some b ∧ w.cell? ⟨B, 2, none⟩ = some c ∧ w.cell? ⟨B, 3, none⟩ = some d ∧ w.cell? ⟨B, 4, none⟩ = some e ∧ w.cell? ⟨B, 5, none⟩ = some f) (hb : Below w.heap.size w w') : w'.cell? ⟨B, 0, none⟩ = some a ∧ w'.cell? ⟨B, 1, none⟩ = some b ∧ w'.cell? ⟨B, 2, none⟩ = some c ∧ w'.cell? ⟨B, 3, none⟩ = some d ∧ w'.cell? ⟨B, 4, none⟩ = some e ∧ w'.cell? ⟨B, 5, none⟩ = some f :=
  ⟨Bnd.cell_below h.1 hb, Bnd.cell_below h.2.1 hb, Bnd.cell_below h.2.2.1 hb, Bnd.cell_below h.2.2.2.1 hb, Bnd.cell_below h.2.2.2.2.1 hb, Bnd.cell_below h.2.2.2.2.2 hb⟩
/-- both answers are one. -/
theorem ans_one {S : SI} (hFN : Full S ∨ Bnd.None S) {vars : Int} {L : List Bd} {xs ys xs' ys' : List Nat} {e e' : Nat} (h : Ans2 S vars L xs ys e) (h' : Ans2 S vars L xs' ys' e') : e = e' ∧ xs = xs' ∧ ys = ys' := Bnd.ans_same hFN h h' rfl (fun _ => Iff.rfl)
/-- what a call leaves as it was. -/
def Nine (w9 : World) (BZ BR : Nat) (vr : Int) (A2 : Option Addr) (m c2 : Nat) (A3 : Option Addr) (k c3 : Nat) (so : Int) (sA : Option Addr) (sn sc : Nat) (sy : Int) (W : World) : Prop :=
  W.cell? ⟨BZ, 3, none⟩ = some (.int .i64 vr) ∧ W.cell? ⟨BZ, 4, none⟩ = some (.slice A2 m c2) ∧ W.cell? ⟨BZ, 5, none⟩ = some (.slice A3 k c3) ∧ W.cell? ⟨BR, 0, none⟩ = some (.int .i64 so) ∧ W.cell? ⟨BR, 1, none⟩ = some (.slice sA sn sc) ∧ W.cell? ⟨BR, 2, none⟩ = some (.int .i64 sy) ∧ Below w9.heap.size w9 W
theorem nine_of {w9 : World} {BZ BR : Nat} {vr : Int} {A2 : Option Addr} {m c2 : Nat} {A3 : Option Addr} {k c3 : Nat} {so : Int} {sA : Option Addr} {sn sc : Nat} {sy : Int} {W : World} (z3 : w9.cell? ⟨BZ, 3, none⟩ = some (.int .i64 vr)) (z4 : w9.cell? ⟨BZ, 4, none⟩ = some (.slice A2 m c2)) (z5 : w9.cell? ⟨BZ, 5, none⟩ = some (.slice A3 k c3)) (r0 : w9.cell? ⟨BR, 0, none⟩ = some (.int .i64 so)) (r1 : w9.cell? ⟨BR, 1, none⟩ = some (.slice sA sn sc)) (r2 : w9.cell? ⟨BR, 2, none⟩ = some (.int .i64 sy)) (h : Below w9.heap.size w9 W) : Nine w9 BZ BR vr A2 m c2 A3 k c3 so sA sn sc sy W :=
  ⟨Bnd.cell_below z3 h, Bnd.cell_below z4 h, Bnd.cell_below z5 h, Bnd.cell_below r0 h, Bnd.cell_below r1 h, Bnd.cell_below r2 h, h⟩
end Go.Proofs.YtajilghlcfheiaaGreatDoor.BOf
