/- The Book takes bounds, and lists of bools. -/
import Derived.Test.YtajilghlcfheiaaGreatDoorBBound
import Derived.Test.YtajilghlcfheiaaGreatDoorBBool
import Derived.Test.YtajilghlcfheiaaGreatDoorBBoolList
namespace Go.Proofs.YtajilghlcfheiaaGreatDoor.RBk
open Go.RowKit Go.Proofs.YtajilghlcfheiaaGreatDoorW.PrintWords
set_option maxRecDepth 100000
/-- Book.Bounds. -/
theorem bounds_any (w : World) (base BB : Nat) (F : Nat → Value) (vh : Value) (L : List HL) (A : Option Addr) (n c q : Nat) (hbk : w.rowIs BB 61 16 F) (h0 : F 0 = .int .i64 (q : Int)) (hf : F 9 = vh)
    (ho : w.ownsRow base 149 3 vh L.length (hcells L)) (hne : vh.ownBlock ≠ some BB) (hq : q ≤ 1000) (hlen : L.length ≤ 1000) (hbase : base ≤ w.heap.size) :
    Calls Tryz.prog 21 #[.pointer (some ⟨BB, 0, none⟩), .slice A n c] w fun e w' => e = .returned (.tuple #[]) ∧ Tch (fun k => k = BB ∨ vh.ownBlock = some k) w w' ∧ ∃ vh' F', w'.rowIs BB 61 16 F' ∧ F' 0 = .int .i64 ((q + 1 : Nat) : Int) ∧ F' 9 = vh' ∧ (∀ j, j ≠ 0 → j ≠ 9 → F' j = F j) ∧ w'.ownsRow base 149 3 vh' (L.length + 1) (hcells (L ++ [⟨.slice A n c, .slice none 0 0, n, q + 1⟩])) ∧ (vh'.ownBlock = vh.ownBlock ∨ ∃ b, vh'.ownBlock = some b ∧ w.heap.size ≤ b) := by
  have HK := Lib.hid (KBound.keep_any w base BB F vh L A n c q hbk h0 hf ho hne hq hlen hbase)
  clear hbk h0 hf ho hne
  go_enter Tryz.func21, Tryz.ntmps21
  go_wp2_with fail
  refine HK.out.mono ?_
  rintro e w1 ⟨rfl, h⟩
  have HH := Lib.hid h
  clear h HK
  go_wp2_with fail
  go_end0
  exact ⟨rfl, HH.out⟩
/-- Book.Bools. -/
theorem bools1_any (w : World) (base BB : Nat) (F : Nat → Value) (vh : Value) (L : List HL) (A : Option Addr) (n c q : Nat) (hbk : w.rowIs BB 61 16 F) (h0 : F 0 = .int .i64 (q : Int)) (hf : F 5 = vh)
    (ho : w.ownsRow base 164 3 vh L.length (hcells L)) (hne : vh.ownBlock ≠ some BB) (hq : q ≤ 1000) (hlen : L.length ≤ 1000) (hbase : base ≤ w.heap.size) :
    Calls Tryz.prog 117 #[.pointer (some ⟨BB, 0, none⟩), .slice A n c] w fun e w' => e = .returned (.tuple #[]) ∧ Tch (fun k => k = BB ∨ vh.ownBlock = some k) w w' ∧ ∃ vh' F', w'.rowIs BB 61 16 F' ∧ F' 0 = .int .i64 ((q + 1 : Nat) : Int) ∧ F' 5 = vh' ∧ (∀ j, j ≠ 0 → j ≠ 5 → F' j = F j) ∧ w'.ownsRow base 164 3 vh' (L.length + 1) (hcells (L ++ [⟨.slice A n c, .slice none 0 0, n, q + 1⟩])) ∧ (vh'.ownBlock = vh.ownBlock ∨ ∃ b, vh'.ownBlock = some b ∧ w.heap.size ≤ b) := by
  have HK := Lib.hid (KBool.keep_any w base BB F vh L A n c q hbk h0 hf ho hne hq hlen hbase)
  clear hbk h0 hf ho hne
  go_enter Tryz.func117, Tryz.ntmps117
  go_wp2_with fail
  refine HK.out.mono ?_
  rintro e w1 ⟨rfl, h⟩
  have HH := Lib.hid h
  clear h HK
  go_wp2_with fail
  go_end0
  exact ⟨rfl, HH.out⟩
/-- the lists of bools, as the Book holds them. -/
def hl (g : Nat → Nat) (n q k : Nat) : List HL := (List.range k).map fun i => ⟨.slice (some ⟨g i, 0, none⟩) n n, .slice none 0 0, n, q + i + 1⟩
theorem hl_next (g : Nat → Nat) (n q k : Nat) : hl g n q (k + 1) = hl g n q k ++ [⟨.slice (some ⟨g k, 0, none⟩) n n, .slice none 0 0, n, q + k + 1⟩] := by simp [hl, List.range_succ]
theorem hl_length (g : Nat → Nat) (n q k : Nat) : (hl g n q k).length = k := by simp [hl]
set_option maxHeartbeats 2000000 in
/-- Book.BoolLists. -/
theorem lists_any (w : World) (A : Option Addr) (BB n c q : Nat) (g : Nat → Nat) (F : Nat → Value) (hbk : w.rowIs BB 61 16 F) (h0 : F 0 = .int .i64 (q : Int)) (h5 : F 5 = .slice none 0 0) (h6 : F 6 = .slice none 0 0) (hn : n ≤ 64) (hq : q ≤ 100) (hs : BB + 1 ≤ w.heap.size)
    (hc : ∀ i, i < n → ∃ O, A = some ⟨O, 0, none⟩ ∧ O < BB ∧ w.cell? ⟨O, i, none⟩ = some (.slice (some ⟨g i, 0, none⟩) n n)) :
    Calls Tryz.prog 42 #[.pointer (some ⟨BB, 0, none⟩), .slice A n c] w fun e w' => e = .returned (.tuple #[]) ∧ Tch (fun k => k = BB ∨ w.heap.size ≤ k) w w' ∧ ∃ vh vl F', w'.rowIs BB 61 16 F' ∧ F' 5 = vh ∧ F' 6 = vl ∧ (∀ j, j ≠ 0 → j ≠ 5 → j ≠ 6 → F' j = F j) ∧ w'.ownsRow w.heap.size 164 3 vh n (hcells (hl g n q n)) ∧ (∃ b2, w.heap.size ≤ b2 ∧ (∀ k, vh.ownBlock = some k → k < b2) ∧ w'.ownsRow b2 167 3 vl 1 (hcells [⟨.slice A n c, .slice none 0 0, n, q + n + 1⟩])) := by
  have HBK := Lib.hid hbk
  have HF := Lib.hid (And.intro h0 (And.intro h5 h6))
  have HC := Lib.hid hc
  have HS := Lib.hid hs
  clear hbk h0 h5 h6 hc hs
  go_enter Tryz.func42, Tryz.ntmps42
  go_wp2
  go_loopw [4] (fun v wr => ∃ (k : Nat) (vh : Value) (F' : Nat → Value), k ≤ n ∧ v = .int .i64 k ∧ Hid (wr.rowIs BB 61 16 F' ∧ F' 0 = .int .i64 ((q + k : Nat) : Int) ∧ F' 5 = vh ∧ ∀ j, j ≠ 0 → j ≠ 5 → F' j = F j) ∧ Hid (wr.ownsRow w.heap.size 164 3 vh (hl g n q k).length (hcells (hl g n q k))) ∧ Hid (Tch (fun k => k = BB ∨ w.heap.size ≤ k) w wr)) (fun v _ => n - (intOf v).toNat)
  case atStart => exact ⟨0, .slice none 0 0, F, by omega, rfl, ⟨HBK.out, HF.out.1, HF.out.2.1, fun _ _ _ => rfl⟩, World.ownsRow_nil w w.heap.size 164 3, Tch.of_below (Below.refl _ w)⟩
  case round =>
    obtain ⟨k, vh, F', hk, rfl, HFF, HO, HT⟩ := hrel
    by_cases hlt : k < n
    · obtain ⟨O, rfl, hO, hcl⟩ := HC.out k hlt
      have hcell := (HT.out.cell hcl (by have := HS.out; show ¬ (O = BB ∨ w.heap.size ≤ O); omega))
      clear hcl
      have i1 : (0 : Int) ≤ (k : Int) := by omega
      have i2 : (k : Int) < (n : Int) := by omega
      have HB := Lib.hid (bools1_any wr w.heap.size BB F' vh (hl g n q k) (some ⟨g k, 0, none⟩) n n (q + k) HFF.out.1 HFF.out.2.1 HFF.out.2.2.1 HO.out (fun h => by have := (own_at HO.out h).1; have := HS.out; omega) (by omega) (by rw [hl_length]; omega) HT.out.size)
      have HV := Lib.hid (show ∀ j, vh.ownBlock = some j → w.heap.size ≤ j from fun j h => (own_at HO.out h).1)
      go_wp2_with fail
      refine HB.out.mono ?_
      rintro e w1 ⟨rfl, ht, vh1, F1, hk1, h01, hf1, hj1, ho1, _⟩
      have HT1 := Lib.hid (HT.out.trans (ht.mono (fun j _ hx => hx.elim (fun e => .inl e) (fun e => .inr (HV.out j e)))))
      have HFF1 := Lib.hid (show w1.rowIs BB 61 16 F1 ∧ F1 0 = .int .i64 ((q + (k + 1) : Nat) : Int) ∧ F1 5 = vh1 ∧ ∀ j, j ≠ 0 → j ≠ 5 → F1 j = F j from ⟨hk1, h01, hf1, fun j a b => by rw [hj1 j a b]; exact HFF.out.2.2.2 j a b⟩)
      have HO1 := Lib.hid (show w1.ownsRow w.heap.size 164 3 vh1 (hl g n q (k + 1)).length (hcells (hl g n q (k + 1))) by rw [hl_next]; simpa using ho1)
      clear hk1 h01 hf1 hj1 ho1 ht HB HT HO HFF
      go_wp2
      go_roundw
      case rel => exact ⟨k + 1, vh1, F1, by omega, by go_num, HFF1.out, HO1.out, HT1.out⟩
      case measure => simp [intOf]; omega
    · obtain rfl : n = k := by omega
      have HB := Lib.hid (KBoolList.keep_any wr wr.heap.size BB F' (.slice none 0 0) [] A n c (q + n) HFF.out.1 HFF.out.2.1 (by rw [HFF.out.2.2.2 6 (by omega) (by omega)]; exact HF.out.2.2) (World.ownsRow_nil wr wr.heap.size 167 3) (fun h => by cases h) (by omega) (by simp) (Nat.le_refl _))
      go_wp2_with fail
      refine HB.out.mono ?_
      rintro e w1 ⟨rfl, ht, vl, F1, hk1, h01, hf1, hj1, ho1, _⟩
      have HX := Lib.hid (And.intro ht (And.intro hk1 (And.intro hf1 (And.intro hj1 ho1))))
      clear ht hk1 h01 hf1 hj1 ho1
      go_wp2_with fail
      go_end0
      obtain ⟨ht, hk1, hf1, hj1, ho1⟩ := HX.out
      refine ⟨rfl, HT.out.trans (ht.mono (fun j _ hx => hx.elim (fun e => .inl e) (fun e => by cases e))), vh, vl, F1, hk1, by rw [hj1 5 (by omega) (by omega)]; exact HFF.out.2.2.1, hf1, fun j a b d => by rw [hj1 j a d]; exact HFF.out.2.2.2 j a b, ?_, wr.heap.size, HT.out.size, fun j h => (own_at HO.out h).2, ho1⟩
      have h := ht.own HO.out (fun j h hx => hx.elim (fun e => by have := (own_at HO.out h).1; have := HS.out; omega) (fun e => by cases e))
      rw [hl_length] at h
      exact h
end Go.Proofs.YtajilghlcfheiaaGreatDoor.RBk
