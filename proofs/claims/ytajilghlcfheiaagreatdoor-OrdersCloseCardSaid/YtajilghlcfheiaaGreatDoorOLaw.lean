/- OrdersClose: the walk. -/
import Derived.Test.YtajilghlcfheiaaGreatDoorOTwin
import Derived.Test.YtajilghlcfheiaaGreatDoorORef2
import Derived.Test.YtajilghlcfheiaaGreatDoorApartPN
namespace Go.Proofs.YtajilghlcfheiaaGreatDoor.Ord
open Go.RowKit Go.Proofs.YtajilghlcfheiaaGreatDoorW.PrintWords
set_option maxRecDepth 100000
theorem own_low {w : World} {base b2 : Nat} {e : TypeId} {size n : Nat} {v : Value} {xs : List Value} (h : w.ownsRow base e size v n xs) (hb : b2 ≤ base) : w.ownsRow b2 e size v n xs := by
  refine ⟨h.1, ?_⟩
  rcases h.2 with h0 | ⟨g, cap, cur, e1, h1, h2⟩
  · exact .inl h0
  · exact .inr ⟨g, cap, cur, e1, Nat.le_trans hb h1, h2⟩
def F0 (j : Nat) : Value := if j = 0 then .int .i64 0 else .slice none 0 0
theorem book_new (w : World) : (w.alloc (.cells #[.int .i64 0, .slice none 0 0, .slice none 0 0, .slice none 0 0, .slice none 0 0, .slice none 0 0, .slice none 0 0, .slice none 0 0, .slice none 0 0, .slice none 0 0, .slice none 0 0, .slice none 0 0, .slice none 0 0, .slice none 0 0, .slice none 0 0, .slice none 0 0] 61)).rowIs w.heap.size 61 16 F0 :=
  World.rowIs_alloc w _ _ F0 (fun i hi => by
    have hi' : i < 16 := hi
    have : i = 0 ∨ i = 1 ∨ i = 2 ∨ i = 3 ∨ i = 4 ∨ i = 5 ∨ i = 6 ∨ i = 7 ∨ i = 8 ∨ i = 9 ∨ i = 10 ∨ i = 11 ∨ i = 12 ∨ i = 13 ∨ i = 14 ∨ i = 15 := by omega
    rcases this with rfl | rfl | rfl | rfl | rfl | rfl | rfl | rfl | rfl | rfl | rfl | rfl | rfl | rfl | rfl | rfl <;> rfl)
/-- Book.Pairs. -/
theorem pairs_any (w : World) (base BB : Nat) (F : Nat → Value) (vh : Value) (L : List HL) (A : Option Addr) (n c q : Nat) (hbk : w.rowIs BB 61 16 F) (h0 : F 0 = .int .i64 (q : Int)) (hf : F 7 = vh)
    (ho : w.ownsRow base 170 3 vh L.length (hcells L)) (hne : vh.ownBlock ≠ some BB) (hq : q ≤ 1000) (hlen : L.length ≤ 1000) (hbase : base ≤ w.heap.size) :
    Calls Tryz.prog 38 #[.pointer (some ⟨BB, 0, none⟩), .slice A n c] w fun e w' => e = .returned (.tuple #[]) ∧ Tch (fun k => k = BB ∨ vh.ownBlock = some k) w w' ∧ ∃ vh' F', w'.rowIs BB 61 16 F' ∧ F' 0 = .int .i64 ((q + 1 : Nat) : Int) ∧ F' 7 = vh' ∧ (∀ j, j ≠ 0 → j ≠ 7 → F' j = F j) ∧ w'.ownsRow base 170 3 vh' (L.length + 1) (hcells (L ++ [⟨.slice A n c, .slice none 0 0, n, q + 1⟩])) ∧ (vh'.ownBlock = vh.ownBlock ∨ ∃ b, vh'.ownBlock = some b ∧ w.heap.size ≤ b) := by
  have HK := Lib.hid (KPair.keep_any w base BB F vh L A n c q hbk h0 hf ho hne hq hlen hbase)
  clear hbk h0 hf ho hne
  go_enter Tryz.func38, Tryz.ntmps38
  go_wp2_with fail
  refine HK.out.mono ?_
  rintro e w1 ⟨rfl, h⟩
  have HH := Lib.hid h
  clear h HK
  go_wp2_with fail
  go_end0
  exact ⟨rfl, HH.out⟩
/-- Book.Nums. -/
theorem numsb_any (w : World) (base BB : Nat) (F : Nat → Value) (vh : Value) (L : List HL) (A : Option Addr) (n c q : Nat) (hbk : w.rowIs BB 61 16 F) (h0 : F 0 = .int .i64 (q : Int)) (hf : F 4 = vh)
    (ho : w.ownsRow base 151 3 vh L.length (hcells L)) (hne : vh.ownBlock ≠ some BB) (hq : q ≤ 1000) (hlen : L.length ≤ 1000) (hbase : base ≤ w.heap.size) :
    Calls Tryz.prog 22 #[.pointer (some ⟨BB, 0, none⟩), .slice A n c] w fun e w' => e = .returned (.tuple #[]) ∧ Tch (fun k => k = BB ∨ vh.ownBlock = some k) w w' ∧ ∃ vh' F', w'.rowIs BB 61 16 F' ∧ F' 0 = .int .i64 ((q + 1 : Nat) : Int) ∧ F' 4 = vh' ∧ (∀ j, j ≠ 0 → j ≠ 4 → F' j = F j) ∧ w'.ownsRow base 151 3 vh' (L.length + 1) (hcells (L ++ [⟨.slice A n c, .slice none 0 0, n, q + 1⟩])) ∧ (vh'.ownBlock = vh.ownBlock ∨ ∃ b, vh'.ownBlock = some b ∧ w.heap.size ≤ b) := by
  have HK := Lib.hid (KNum.keep_any w base BB F vh L A n c q hbk h0 hf ho hne hq hlen hbase)
  clear hbk h0 hf ho hne
  go_enter Tryz.func22, Tryz.ntmps22
  go_wp2_with fail
  refine HK.out.mono ?_
  rintro e w1 ⟨rfl, h⟩
  have HH := Lib.hid h
  clear h HK
  go_wp2_with fail
  go_end0
  exact ⟨rfl, HH.out⟩
/-- both tell the same, as lists. -/
theorem both_rows {n : Int} {ps : List (Int × Int)} {W0 w1 w2 : World} {e f : Ending} (h1 : CloseSays n ps W0 e w1) (h2 : RefSays n ps w1 f w2) :
    Below W0.heap.size W0 w1 ∧ Below w1.heap.size w1 w2 ∧ ∃ (E : Int) (AX AY : Option Addr) (cx cy m : Nat) (rows : List Nat), e = .returned (.tuple #[.slice AX m cx, .int .i64 E]) ∧ f = .returned (.tuple #[.slice AY m cy, .int .i64 E]) ∧ m = rows.length ∧ m ≤ 64 ∧ w1.ownsRow W0.heap.size 66 1 (.slice AX m cx) m (nums .u64 (intsN rows)) ∧ Nums w1 AX rows ∧ Nums w2 AY rows := by
  obtain ⟨b1, b2, h⟩ := both_say h1 h2
  refine ⟨b1, b2, ?_⟩
  rcases h with ⟨E, rfl, rfl⟩ | ⟨B, B2, cap, rows, rfl, rfl, hB, hl, hm, hx, hh, hn⟩
  · exact ⟨E, none, none, 0, 0, 0, [], rfl, rfl, rfl, by omega, World.ownsRow_nil w1 _ 66 1, ⟨by simp, fun h => by simp at h⟩, ⟨by simp, fun h => by simp at h⟩⟩
  · refine ⟨0, some ⟨B, 0, none⟩, some ⟨B2, 0, none⟩, rows.length, cap, rows.length, rows, rfl, rfl, rfl, hm, ⟨by simp [nums, intsN], .inr ⟨B, rows.length, _, rfl, hB, hh, by omega, by unfold maxLen; omega, by simp [nums, intsN], ?_⟩⟩, nums_cells hh hx, hn⟩
    rw [List.take_of_length_le (by simp [nums, intsN])]
theorem row_twinp {w : World} {base B n : Nat} {ps : List (Int × Int)} (hn : n = ps.length) (hm : n ≤ 100000) (hB : base ≤ B) (h : w.heap[B]? = some (.cells (pflat (ps ++ [(77, 0)])).toArray 118 (0, 0))) : w.ownsRow base 118 2 (.slice (some ⟨B, 0, none⟩) n (n + 1)) n (pflat ps) := by
  refine ⟨by rw [pflat_length, hn], .inr ⟨B, n + 1, _, rfl, hB, h, by omega, by unfold maxLen; omega, by rw [List.size_toArray, pflat_length, List.length_append, hn]; rfl, ?_⟩⟩
  rw [List.toList_toArray, pflat_append, List.take_append_of_le_length (by rw [pflat_length, hn]; omega)]
  exact List.take_of_length_le (by rw [pflat_length, hn]; omega)
theorem twin_fit {ps : List (Int × Int)} (h : PFit ps) : PFit (ps ++ [(77, 0)]) := by
  intro b hb
  rcases List.mem_append.1 hb with hb | hb
  · exact h b hb
  · rw [List.mem_singleton.1 hb]
    decide
theorem prs_take {w : World} {a : Option Addr} {ps qs : List (Int × Int)} (h : Prs w a (ps ++ qs)) : Prs w a ps := by
  intro k hk
  obtain ⟨b, o, e, c0, c1, l⟩ := h k (by rw [List.length_append]; omega)
  rw [List.getElem_append_left hk] at c0 c1 l
  exact ⟨b, o, e, c0, c1, l⟩
theorem own_below {w w' : World} {base : Nat} {e : TypeId} {size n : Nat} {v : Value} {xs : List Value} (h : w.ownsRow base e size v n xs) (hb : Below w.heap.size w w') : w'.ownsRow base e size v n xs :=
  World.ownsRow.kept (row := none) h ⟨hb.os, hb.tape, hb.output, hb.size, fun k hk _ => hb.block k hk⟩ (by cases v.ownBlock <;> simp)
theorem blk_one {v g : Value} {n q k : Nat} (h : Blk [(⟨v, g, n, q⟩ : HL)] k) : v.ownBlock = some k := by
  obtain ⟨h, hh, hk⟩ := h
  rw [List.mem_singleton.1 hh] at hk
  exact hk
set_option maxHeartbeats 8000000 in
theorem oclose_in (N : Int) (A : Option Addr) (n c : Nat) (ps : List (Int × Int)) (hn : n = ps.length) (w : World) (hP : Prs w A ps) :
    Calls Tryz.prog 5 #[.int .i64 N, .slice A n c] w fun e w' => e = .returned (.bool true) ∧ Below w.heap.size w w' := by
  have HP := Lib.hid hP
  have HN := Lib.hid hn
  clear hP hn
  by_cases h1 : 300 < n
  · have d1 : decide (300 < (n : Int)) = true := by simp; omega
    have d2 : decide (300 < n) = true := by simp; omega
    clear h1
    go_enter Tryz.func5, Tryz.ntmps5
    go_wp2_with fail
    go_ret
    exact ⟨rfl, Below.refl _ _⟩
  · have d1 : decide (300 < (n : Int)) = false := by simp; omega
    have d2 : decide (300 < n) = false := by simp; omega
    have hn3 : n ≤ 300 := by omega
    clear h1
    go_enter Tryz.func5, Tryz.ntmps5
    go_wp2_with fail
    clear d1 d2
    refine (twinp_any A n c ps HN.out (by omega) w HP.out).mono ?_
    rintro e w1 ⟨⟨B, rfl, hB, hH⟩, hb⟩
    have HFT := Lib.hid (twin_fit (HP.out.fit))
    have HR1 := Lib.hid (row_twinp HN.out (by omega) hB hH)
    have HT1 := Lib.hid (prs_lit hH HFT.out)
    have HB1 := Lib.hid hb
    clear hb hB hH
    go_wp2_with fail
    refine (close_all N (some ⟨B, 0, none⟩) n (n + 1) ps HN.out (by omega) w1 (prs_take HT1.out)).mono ?_
    intro e w2 hcs
    have HC := Lib.hid hcs
    have hbc : Below w1.heap.size w1 w2 := hcs.1
    obtain ⟨v2, hv2⟩ : ∃ v2, e = .returned v2 := by
      rcases hcs.2 with ⟨_, h⟩ | ⟨_, _, h⟩ | ⟨_, _, _, _, h, _⟩ <;> exact ⟨_, h⟩
    subst hv2
    have HB2 := Lib.hid hbc
    clear hcs hbc
    obtain ⟨E, AX, cx, m, hv2⟩ : ∃ (E0 : Int) (AX0 : Option Addr) (cx0 m0 : Nat), v2 = .tuple #[.slice AX0 m0 cx0, .int .i64 E0] := by
      rcases HC.out.2 with ⟨_, h⟩ | ⟨_, _, h⟩ | ⟨_, _, _, _, h, _⟩ <;> (cases h; exact ⟨_, _, _, _, rfl⟩)
    subst hv2
    go_wp2_with fail
    refine (ref_all N A n c ps HN.out (by omega) w2 (HP.out.below (on HB1.out HB2.out))).mono ?_
    intro e w3 hrs
    obtain ⟨_, b3, E', AX', AY, cx', cy, m', rows, e1, rfl, hm, hm6, ho, hx, hy⟩ := both_rows HC.out hrs
    cases e1
    have HB3 := Lib.hid b3
    have HM := Lib.hid hm
    have HO2 := Lib.hid ho
    have HX := Lib.hid (hx.below b3)
    have HY := Lib.hid hy
    have dE : (E != E) = false := by simp
    clear hrs b3 hm ho hx hy HC
    go_wp2_with fail
    refine (same_nums AX m cx AY m cy rows rows HM.out HM.out (by omega) (by omega) w3 HX.out HY.out).mono ?_
    rintro e w4 ⟨rfl, hb⟩
    rw [show decide (rows = rows) = true by simp]
    have HB4 := Lib.hid hb
    clear hb
    go_wp2_with fail
    refine (leftp_any A (some ⟨B, 0, none⟩) n c ps HN.out (by omega) w4 (HP.out.below (on (on (on HB1.out HB2.out) HB3.out) HB4.out)) (HT1.out.below (on (on HB2.out HB3.out) HB4.out))).mono ?_
    rintro e w5 ⟨rfl, hb⟩
    have HB5 := Lib.hid (on (on HB3.out HB4.out) hb)
    clear hb
    go_wp2_with fail
    have hbk := book_new w5
    have hba := lit_below w5 (.cells #[.int .i64 0, .slice none 0 0, .slice none 0 0, .slice none 0 0, .slice none 0 0, .slice none 0 0, .slice none 0 0, .slice none 0 0, .slice none 0 0, .slice none 0 0, .slice none 0 0, .slice none 0 0, .slice none 0 0, .slice none 0 0, .slice none 0 0, .slice none 0 0] 61)
    have hsz : (w5.alloc (.cells #[.int .i64 0, .slice none 0 0, .slice none 0 0, .slice none 0 0, .slice none 0 0, .slice none 0 0, .slice none 0 0, .slice none 0 0, .slice none 0 0, .slice none 0 0, .slice none 0 0, .slice none 0 0, .slice none 0 0, .slice none 0 0, .slice none 0 0, .slice none 0 0] 61)).heap.size = w5.heap.size + 1 := by show (w5.heap.push _).size = _; rw [Array.size_push]
    obtain ⟨BB, hBB⟩ : ∃ BB, BB = w5.heap.size := ⟨_, rfl⟩
    rw [← hBB] at hbk hsz ⊢
    have TB := Lib.hid (Tch.of_below (X := fun k => BB ≤ k) hba)
    have HBE := Lib.hid hBB
    have HBK := Lib.hid hbk
    have HSZ := Lib.hid hsz
    clear hbk hba hsz hBB
    generalize w5.alloc _ = w6 at *
    refine (pairs_any w6 (BB + 1) BB F0 (.slice none 0 0) [] (some ⟨B, 0, none⟩) n (n + 1) 0 HBK.out rfl rfl (World.ownsRow_nil w6 (BB + 1) 170 3) (fun h => by cases h) (by omega) (by simp) (by rw [HSZ.out]; exact Nat.le_refl _)).mono ?_
    rintro e w7 ⟨rfl, ht, vh1, F1, hk, h0, hf, hj, ho, _⟩
    have HS7 := Lib.hid (show BB + 1 ≤ w7.heap.size from by rw [← HSZ.out]; exact ht.size)
    replace TB := Lib.hid (TB.out.trans (ht.mono (fun k _ hx => hx.elim (fun e => by omega) (fun e => by cases e))))
    replace HBK := Lib.hid hk
    have HJ1 := Lib.hid hj
    have HF1 := Lib.hid (And.intro h0 hf)
    have HO1 := Lib.hid ho
    have HV1 := Lib.hid (show ∀ k, vh1.ownBlock = some k → BB + 1 ≤ k ∧ k < w7.heap.size from fun k hk => own_at ho hk)
    clear ht hk h0 hf hj ho
    go_wp2_with fail
    refine (numsb_any w7 w7.heap.size BB F1 (.slice none 0 0) [] AX m cx 1 HBK.out HF1.out.1 (by rw [HJ1.out 4 (by omega) (by omega)]; rfl) (World.ownsRow_nil w7 w7.heap.size 151 3) (fun h => by cases h) (by omega) (by simp) (Nat.le_refl _)).mono ?_
    rintro e w8 ⟨rfl, ht, vh2, F2, hk, h0, hf, hj, ho, _⟩
    have HS8 := Lib.hid (Nat.le_trans HS7.out ht.size)
    replace TB := Lib.hid (TB.out.trans (ht.mono (fun k _ hx => hx.elim (fun e => by omega) (fun e => by cases e))))
    replace HBK := Lib.hid hk
    have HF2 := Lib.hid (show F2 7 = vh1 ∧ F2 4 = vh2 from ⟨by rw [hj 7 (by omega) (by omega)]; exact HF1.out.2, hf⟩)
    have HNIL := Lib.hid (show ∀ j, j ≠ 0 → j ≠ 7 → j ≠ 4 → F2 j = .slice none 0 0 from fun j h0 h1 h2 => by
      rw [hj j h0 h2, HJ1.out j h0 h1]
      unfold F0
      rw [if_neg h0])
    have HO1' := Lib.hid (ht.own HO1.out (fun k hk hx => hx.elim (fun e => by have := (HV1.out k hk).1; omega) (fun e => by cases e)))
    have HO2' := Lib.hid ho
    have HV2 := Lib.hid (show ∀ k, vh2.ownBlock = some k → w7.heap.size ≤ k from fun k hk => (own_at ho hk).1)
    clear ht hk h0 hf hj ho
    go_wp2_with fail
    have b15 := on HB2.out HB5.out
    have s1 := HB1.out.size
    have s2 := HB2.out.size
    have s5 := HB5.out.size
    have hBE := HBE.out
    have r1 := own_below HR1.out b15
    have r2 := own_below HO2.out HB5.out
    have q1 := own_low (b2 := w.heap.size) (TB.out.own r1 (fun k hk hle => by have := (own_at r1 hk).2; omega)) (Nat.le_refl _)
    have q2 := own_low (b2 := w.heap.size) (TB.out.own r2 (fun k hk hle => by have := (own_at r2 hk).2; omega)) s1
    have L0 := Lib.hid (show ∀ k, Blk [(⟨.slice (some ⟨B, 0, none⟩) n (n + 1), .slice none 0 0, n, 1⟩ : HL)] k → w.heap.size ≤ k ∧ k < w1.heap.size from fun k h => own_at HR1.out (blk_one h))
    have L1 := Lib.hid (show ∀ k, Blk [(⟨.slice AX m cx, .slice none 0 0, m, 2⟩ : HL)] k → w1.heap.size ≤ k ∧ k < w2.heap.size from fun k h => own_at HO2.out (blk_one h))
    have HBW := Lib.hid (show Below w.heap.size w w8 from (on HB1.out b15).trans (TB.out.below (by have := (on HB1.out b15).size; exact this) (fun k hk => by omega)))
    have HS := Lib.hid (show w.heap.size ≤ w8.heap.size from HBW.out.size)
    have HQ := Lib.hid (And.intro q1 q2)
    have HSS := Lib.hid (show w.heap.size ≤ w1.heap.size ∧ w1.heap.size ≤ w2.heap.size ∧ w2.heap.size ≤ BB ∧ BB + 1 ≤ w7.heap.size from ⟨s1, s2, by omega, HS7.out⟩)
    clear b15 s1 s2 s5 r1 r2 q1 q2 hBE HBE
    refine (apart_pairs w8 w.heap.size BB F2 HBK.out (fun j hj => HNIL.out j (by omega) (by omega) (by omega)) HS.out
      vh1 [⟨.slice (some ⟨B, 0, none⟩) n (n + 1), .slice none 0 0, n, 1⟩] HF2.out.1 (own_low HO1'.out (by have := HSS.out; omega)) ?_ ?_ ?_ ?_ (by simp) (fun h => by have := (HV1.out BB h).1; omega) (fun h => by have := L0.out BB h; have := HSS.out; omega)
      vh2 [⟨.slice AX m cx, .slice none 0 0, m, 2⟩] HF2.out.2 (own_low HO2'.out (by have := HSS.out; omega)) ?_ ?_ ?_ ?_ (by simp) (fun h => by have := HV2.out BB h; have := HSS.out; omega) (fun h => by have := L1.out BB h; have := HSS.out; omega)
      ?_ ?_ ?_ ?_ ?_ ?_ ?_ ?_).mono ?_
    · intro i h
      obtain rfl : i = 0 := by simpa using h
      exact ⟨_, HQ.out.1⟩
    · intro i j h h' hne
      simp at h h'
      omega
    · intro h hh
      rw [List.mem_singleton.1 hh]
      exact ⟨by simp, rfl⟩
    · intro h hh
      rw [List.mem_singleton.1 hh]
      dsimp only
      omega
    · intro i h
      obtain rfl : i = 0 := by simpa using h
      exact ⟨_, HQ.out.2⟩
    · intro i j h h' hne
      simp at h h'
      omega
    · intro h hh
      rw [List.mem_singleton.1 hh]
      exact ⟨by simp, rfl⟩
    · intro h hh
      rw [List.mem_singleton.1 hh]
      dsimp only
      omega
    · intro k hk h
      have := L0.out k hk; have := HV1.out k h; have := HSS.out; omega
    · intro k hk h
      have := L0.out k hk; have := HV2.out k h; have := HSS.out; omega
    · intro k hk h
      have := L0.out k hk; have := L1.out k h; omega
    · intro k hk h
      have := HV1.out k hk; have := HV2.out k h; omega
    · intro k hk h
      have := L1.out k hk; have := HV1.out k h; have := HSS.out; omega
    · intro k hk h
      have := L1.out k hk; have := L0.out k h; omega
    · intro k hk h
      have := HV2.out k hk; have := HV1.out k h; omega
    · intro k hk h
      have := L1.out k hk; have := HV2.out k h; have := HSS.out; omega
    · rintro e w9 ⟨rfl, ht⟩
      have HT := Lib.hid ht
      clear ht
      go_wp2_with fail
      go_ret
      exact ⟨rfl, HBW.out.trans (HT.out.below HS.out (fun k hk => by
        have := HSS.out
        rcases hk with h | h | h | h
        · exact (L0.out k h).1
        · have := HV1.out k h; omega
        · have := L1.out k h; omega
        · have := HV2.out k h; omega))⟩
end Go.Proofs.YtajilghlcfheiaaGreatDoor.Ord
