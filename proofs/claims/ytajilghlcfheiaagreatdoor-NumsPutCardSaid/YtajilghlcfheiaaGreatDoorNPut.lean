/- NumsPut: the walk. -/
import Derived.Test.YtajilghlcfheiaaGreatDoorNumRefPut
import Derived.Test.YtajilghlcfheiaaGreatDoorNumSame
import Derived.Test.YtajilghlcfheiaaGreatDoorApartB
namespace Go.Proofs.YtajilghlcfheiaaGreatDoor.Num
open Go.RowKit Go.Proofs.YtajilghlcfheiaaGreatDoorW.PrintWords
set_option linter.unusedVariables false
set_option maxRecDepth 100000
theorem four_get (x : Nat) : (four4 x).length = 4 := rfl
theorem own_low {w : World} {base b2 : Nat} {e : TypeId} {size n : Nat} {v : Value} {xs : List Value} (h : w.ownsRow base e size v n xs) (hb : b2 ≤ base) : w.ownsRow b2 e size v n xs := by
  refine ⟨h.1, ?_⟩
  rcases h.2 with h0 | ⟨g, cap, cur, e1, h1, h2⟩
  · exact .inl h0
  · exact .inr ⟨g, cap, cur, e1, Nat.le_trans hb h1, h2⟩
theorem ne_of_lo (L : List HL) (lo : Nat → Nat) (hm : ∀ i j, i ≤ j → lo i ≤ lo j) (h : ∀ i (h : i < L.length) k, L[i].v.ownBlock = some k → lo i ≤ k ∧ k < lo (i + 1)) (i j : Nat) (hi : i < L.length) (hj : j < L.length) (hne : i ≠ j) : NeRow L[i].v L[j].v := by
  intro k hk hk'
  have h1 := h i hi k hk
  have h2 := h j hj k hk'
  rcases Nat.lt_or_gt_of_ne hne with hl | hl
  · have := hm (i + 1) j hl
    omega
  · have := hm (j + 1) i hl
    omega
theorem row_twin {w : World} {base B n : Nat} {bs : List UInt8} (hn : n = bs.length) (hm : n ≤ 100000) (hB : base ≤ B) (h : w.heap[B]? = some (.cells (nums .u8 (ints bs ++ [77])).toArray 5 (0, 0))) : Row w base (.slice (some ⟨B, 0, none⟩) n (n + 1)) bs := by
  have hl := ints_length bs
  refine ⟨by simp [nums], .inr ⟨B, n + 1, _, by rw [hl, ← hn], hB, h, by omega, by unfold maxLen; omega, by simp [nums, hl, hn], ?_⟩⟩
  simp only [Go.Proofs.YtajilghlcfheiaaGreatDoorW.PrintWords.nums_append, Nat.mul_one]
  rw [List.take_append_of_le_length (by simp [nums])]
  exact List.take_of_length_le (by simp [nums])
def F0 (j : Nat) : Value := if j = 0 then .int .i64 0 else .slice none 0 0
def nilS : Value := .slice none 0 0
theorem book_new (w : World) : (w.alloc (.cells #[.int .i64 0, .slice none 0 0, .slice none 0 0, .slice none 0 0, .slice none 0 0, .slice none 0 0, .slice none 0 0, .slice none 0 0, .slice none 0 0, .slice none 0 0, .slice none 0 0, .slice none 0 0, .slice none 0 0, .slice none 0 0, .slice none 0 0, .slice none 0 0] 61)).rowIs w.heap.size 61 16 F0 :=
  World.rowIs_alloc w _ _ F0 (fun i hi => by
    have hi' : i < 16 := hi
    have : i = 0 ∨ i = 1 ∨ i = 2 ∨ i = 3 ∨ i = 4 ∨ i = 5 ∨ i = 6 ∨ i = 7 ∨ i = 8 ∨ i = 9 ∨ i = 10 ∨ i = 11 ∨ i = 12 ∨ i = 13 ∨ i = 14 ∨ i = 15 := by omega
    rcases this with rfl | rfl | rfl | rfl | rfl | rfl | rfl | rfl | rfl | rfl | rfl | rfl | rfl | rfl | rfl | rfl <;> rfl)
theorem row_own {w : World} {base n : Nat} {v : Value} {bs : List UInt8} (h : Row w base v bs) (hn : n = bs.length) : w.ownsRow base 5 1 v n (nums .u8 (ints bs)) := by
  have e : (ints bs).length = n := by rw [ints_length, hn]
  unfold Row at h
  rw [e] at h
  exact h
def lo5 (a b c d e : Nat) (i : Nat) : Nat := if i = 0 then a else if i = 1 then b else if i = 2 then c else if i = 3 then d else e
theorem lo5_mono {a b c d e : Nat} (h1 : a ≤ b) (h2 : b ≤ c) (h3 : c ≤ d) (h4 : d ≤ e) (i j : Nat) (h : i ≤ j) : lo5 a b c d e i ≤ lo5 a b c d e j := by
  unfold lo5
  repeat' split
  all_goals omega
/-- Book.Bytes. -/
theorem bytes_any (w : World) (base BB : Nat) (F : Nat → Value) (vh : Value) (L : List HL) (A : Option Addr) (n c q : Nat) (hbk : w.rowIs BB 61 16 F) (h0 : F 0 = .int .i64 (q : Int)) (hf : F 1 = vh)
    (ho : w.ownsRow base 153 3 vh L.length (hcells L)) (hne : vh.ownBlock ≠ some BB) (hq : q ≤ 1000) (hlen : L.length ≤ 1000) (hbase : base ≤ w.heap.size) :
    Calls Tryz.prog 33 #[.pointer (some ⟨BB, 0, none⟩), .slice A n c] w fun e w' => e = .returned (.tuple #[]) ∧ Tch (fun k => k = BB ∨ vh.ownBlock = some k) w w' ∧ ∃ vh' F', w'.rowIs BB 61 16 F' ∧ F' 0 = .int .i64 ((q + 1 : Nat) : Int) ∧ F' 1 = vh' ∧ (∀ j, j ≠ 0 → j ≠ 1 → F' j = F j) ∧ w'.ownsRow base 153 3 vh' (L.length + 1) (hcells (L ++ [⟨.slice A n c, .slice none 0 0, n, q + 1⟩])) ∧ (vh'.ownBlock = vh.ownBlock ∨ ∃ b, vh'.ownBlock = some b ∧ w.heap.size ≤ b) := by
  have HK := Lib.hid (KByte.keep_any w base BB F vh L A n c q hbk h0 hf ho hne hq hlen hbase)
  clear hbk h0 hf ho hne
  go_enter Tryz.func33, Tryz.ntmps33
  go_wp2_with fail
  refine HK.out.mono ?_
  rintro e w1 ⟨rfl, h⟩
  have HH := Lib.hid h
  clear h HK
  go_wp2_with fail
  go_end0
  exact ⟨rfl, HH.out⟩
set_option maxHeartbeats 8000000 in
theorem nput_in (A : Option Addr) (n c : Nat) (bs : List UInt8) (hn : n = bs.length) (hnm : n ≤ 9223372036854775807) (x : Nat) (hx : x < 18446744073709551616) (l : List UInt8) (hl : l.length ≤ 9223372036854775807) (w : World) (hI : Bytes w w.heap.size A bs) :
    Calls Tryz.prog 4 #[.slice A n c, .int .u64 (x : Int), .string ⟨l.toArray⟩] w fun e w' => e = .returned (.bool true) ∧ Below w.heap.size w w' := by
  have HI := Lib.hid hI
  have HN := Lib.hid hn
  clear hI hn
  by_cases h1 : 20000 < n
  · have d1 : decide (20000 < (n : Int)) = true := by simp; omega
    have d2 : decide (20000 < n) = true := by simp; omega
    clear h1
    go_enter Tryz.func4, Tryz.ntmps4
    go_wp2_with fail
    go_ret
    exact ⟨rfl, Below.refl _ _⟩
  · have d1 : decide (20000 < (n : Int)) = false := by simp; omega
    have d2 : decide (20000 < n) = false := by simp; omega
    by_cases h2 : 20000 < l.length
    · have d3 : decide (20000 < (l.length : Int)) = true := by simp; omega
      have d4 : decide (20000 < l.length) = true := by simp; omega
      clear h1 h2
      go_enter Tryz.func4, Tryz.ntmps4
      go_wp2_with fail
      go_ret
      exact ⟨rfl, Below.refl _ _⟩
    · have d3 : decide (20000 < (l.length : Int)) = false := by simp; omega
      have d4 : decide (20000 < l.length) = false := by simp; omega
      have hn2 : n ≤ 20000 := by omega
      have hl2 : l.length ≤ 20000 := by omega
      clear h1 h2
      go_enter Tryz.func4, Tryz.ntmps4
      go_wp2_with fail
      clear d1 d2 d3 d4
      refine (twin_any A n c bs HN.out (by omega) w HI.out).mono ?_
      rintro e w1 ⟨⟨B, rfl, hB, hH⟩, hb⟩
      have HR1 := Lib.hid (row_twin HN.out (by omega) hB hH)
      have HHB := Lib.hid hH
      have HB1 := Lib.hid hb
      have HBY := Lib.hid (show Bytes w1 w1.heap.size (some ⟨B, 0, none⟩) bs from by
        obtain ⟨A', c', e, _, h⟩ := HR1.out.bytes
        cases e
        exact h)
      clear hb hB hH
      go_wp2_with fail
      refine (num_any (some ⟨B, 0, none⟩) n (n + 1) bs HN.out (by omega) x hx w1 HBY.out).mono ?_
      rintro e w2 ⟨⟨v2, rfl, hr⟩, hb⟩
      obtain ⟨A2, c2, rfl, _, hby2⟩ := hr.bytes
      have HR2 := Lib.hid hr
      have HB2 := Lib.hid hb
      have HY2 := Lib.hid hby2
      clear hr hb hby2
      obtain ⟨m2, hm2⟩ : ∃ m, m = (bs ++ num x).length := ⟨_, rfl⟩
      rw [← hm2] at HR2 ⊢
      have HM2 := Lib.hid hm2
      have hm2' : m2 ≤ 30000 := by rw [hm2, List.length_append, ← HN.out]; have := num_le x hx; omega
      clear hm2
      obtain ⟨x4, hx4⟩ : ∃ x4, x4 = x % 4294967296 := ⟨_, rfl⟩
      have hx4l : x4 < 4294967296 := by rw [hx4]; exact Nat.mod_lt _ (by omega)
      have hwx : IntKind.u32.wrap (x : Int) = (x4 : Int) := by rw [IntKind.wrap_u32, hx4]; omega
      have HX4 := Lib.hid hx4
      clear hx4
      go_wp2_with fail
      refine (four4_any (some ⟨B, 0, none⟩) n (n + 1) bs HN.out (by omega) x4 hx4l w2 (HBY.out.later HB2.out)).mono ?_
      rintro e w3 ⟨⟨v3, rfl, hr⟩, hb⟩
      obtain ⟨A3, c3, rfl, _, hby3⟩ := hr.bytes
      have HR3 := Lib.hid hr
      have HB3 := Lib.hid hb
      have HY3 := Lib.hid hby3
      clear hr hb hby3
      obtain ⟨m3, hm3⟩ : ∃ m, m = (bs ++ four4 x4).length := ⟨_, rfl⟩
      rw [← hm3] at HR3 ⊢
      have HM3 := Lib.hid hm3
      have hm3' : m3 ≤ 30000 := by rw [hm3, List.length_append, ← HN.out]; have := four_get x4; omega
      clear hm3
      go_wp2_with fail
      refine (ptext_any (some ⟨B, 0, none⟩) n (n + 1) bs HN.out (by omega) l (by omega) w3 (HBY.out.later (on HB2.out HB3.out))).mono ?_
      rintro e w4 ⟨⟨v4, rfl, hr⟩, hb⟩
      obtain ⟨A4, c4, rfl, _, hby4⟩ := hr.bytes
      have HR4 := Lib.hid hr
      have HB4 := Lib.hid hb
      have HY4 := Lib.hid hby4
      clear hr hb hby4
      obtain ⟨m4, hm4⟩ : ∃ m, m = (bs ++ num l.length ++ l).length := ⟨_, rfl⟩
      rw [← hm4] at HR4 ⊢
      have HM4 := Lib.hid hm4
      have hm4' : m4 ≤ 50000 := by rw [hm4, List.length_append, List.length_append, ← HN.out]; have := num_le l.length (by omega); omega
      clear hm4
      have HI4 := Lib.hid (HI.out.later (on (on (on HB1.out HB2.out) HB3.out) HB4.out))
      have HC2 := Lib.hid (HY2.out.later (on HB3.out HB4.out))
      have HC3 := Lib.hid (HY3.out.later HB4.out)
      go_wp2_with fail
      refine (refput_any A n c bs HN.out (by omega) x hx w4 HI4.out).mono ?_
      rintro e w5 ⟨⟨v5, rfl, hr⟩, hb⟩
      obtain ⟨A5, c5, rfl, _, hby⟩ := hr.bytes
      rw [← HM2.out]
      have HY5 := Lib.hid hby
      have HB5 := Lib.hid hb
      clear hr hb hby
      go_wp2_with fail
      refine (same_any A2 m2 c2 A5 c5 (bs ++ num x) HM2.out w5 (HC2.out.later HB5.out) HY5.out).mono ?_
      rintro e w6 ⟨rfl, hb⟩
      have HB6 := Lib.hid (on HB5.out hb)
      clear hb
      go_wp2_with fail
      refine (reffour_any A n c bs HN.out (by omega) x4 hx4l w6 (HI4.out.later HB6.out)).mono ?_
      rintro e w7 ⟨⟨v7, rfl, hr⟩, hb⟩
      obtain ⟨A7, c7, rfl, _, hby⟩ := hr.bytes
      rw [← HM3.out]
      have HY7 := Lib.hid hby
      have HB7 := Lib.hid (on HB6.out hb)
      clear hr hb hby
      go_wp2_with fail
      refine (same_any A3 m3 c3 A7 c7 (bs ++ four4 x4) HM3.out w7 (HC3.out.later HB7.out) HY7.out).mono ?_
      rintro e w8 ⟨rfl, hb⟩
      have HB8 := Lib.hid (on HB7.out hb)
      clear hb
      go_wp2_with fail
      refine (reftext_any A n c bs HN.out (by omega) l (by omega) w8 (HI4.out.later HB8.out)).mono ?_
      rintro e w9 ⟨⟨v9, rfl, hr⟩, hb⟩
      obtain ⟨A9, c9, rfl, _, hby⟩ := hr.bytes
      rw [← HM4.out]
      have HY9 := Lib.hid hby
      have HB9 := Lib.hid (on HB8.out hb)
      clear hr hb hby
      go_wp2_with fail
      refine (same_any A4 m4 c4 A9 c9 (bs ++ num l.length ++ l) HM4.out w9 (HY4.out.later HB9.out) HY9.out).mono ?_
      rintro e w10 ⟨rfl, hb⟩
      have HB10 := Lib.hid (on HB9.out hb)
      clear hb
      go_wp2_with fail
      refine (left_any A n c B bs HN.out (by omega) w10 (HI4.out.later HB10.out) (blk_below HHB.out (on (on (on HB2.out HB3.out) HB4.out) HB10.out))).mono ?_
      rintro e w11 ⟨rfl, hb⟩
      have HB11 := Lib.hid (on HB10.out hb)
      clear hb
      go_wp2_with fail
      have hbk := book_new w11
      have hba := below_alloc w11 (.cells #[.int .i64 0, .slice none 0 0, .slice none 0 0, .slice none 0 0, .slice none 0 0, .slice none 0 0, .slice none 0 0, .slice none 0 0, .slice none 0 0, .slice none 0 0, .slice none 0 0, .slice none 0 0, .slice none 0 0, .slice none 0 0, .slice none 0 0, .slice none 0 0] 61)
      have hsz : (w11.alloc (.cells #[.int .i64 0, .slice none 0 0, .slice none 0 0, .slice none 0 0, .slice none 0 0, .slice none 0 0, .slice none 0 0, .slice none 0 0, .slice none 0 0, .slice none 0 0, .slice none 0 0, .slice none 0 0, .slice none 0 0, .slice none 0 0, .slice none 0 0, .slice none 0 0] 61)).heap.size = w11.heap.size + 1 := by show (w11.heap.push _).size = _; rw [Array.size_push]
      obtain ⟨BB, hBB⟩ : ∃ BB, BB = w11.heap.size := ⟨_, rfl⟩
      rw [← hBB] at hbk hsz ⊢
      have TB := Lib.hid (Tch.of_below (X := fun k => BB ≤ k) hba)
      have HBE := Lib.hid hBB
      have HBK := Lib.hid hbk
      have HSZ := Lib.hid hsz
      clear hbk hba hsz hBB
      generalize w11.alloc _ = w12 at *
      refine (bytes_any w12 (BB + 1) BB F0 (.slice none 0 0) [] (some ⟨B, 0, none⟩) n (n + 1) 0 HBK.out rfl rfl (World.ownsRow_nil w12 (BB + 1) 153 3) (fun h => by cases h) (by omega) (by simp) (by rw [HSZ.out]; exact Nat.le_refl _)).mono ?_
      rintro e w13 ⟨rfl, ht, vh1, F1, hk, h0, hf, hj, ho, _⟩
      have HS13 := Lib.hid (show BB + 1 ≤ w13.heap.size from by rw [← HSZ.out]; exact ht.size)
      replace TB := Lib.hid (TB.out.trans (ht.mono (fun k _ hx => hx.elim (fun e => by omega) (fun e => by cases e))))
      replace HBK := Lib.hid hk
      have HJ1 := Lib.hid hj
      have HF1 := Lib.hid (And.intro h0 hf)
      have HO1 := Lib.hid ho
      have HV1 := Lib.hid (show ∀ k, vh1.ownBlock = some k → BB + 1 ≤ k from fun k hk => (own_at ho hk).1)
      clear ht hk h0 hf hj ho
      go_wp2_with fail
      refine (bytes_any w13 (BB + 1) BB F1 vh1 [⟨.slice (some ⟨B, 0, none⟩) n (n + 1), .slice none 0 0, n, 1⟩] A2 m2 c2 1 HBK.out HF1.out.1 HF1.out.2 HO1.out (fun h => by have := HV1.out BB h; omega) (by omega) (by simp) HS13.out).mono ?_
      rintro e w14 ⟨rfl, ht, vh2, F2, hk, h0, hf, hj, ho, _⟩
      have HS14 := Lib.hid (Nat.le_trans HS13.out ht.size)
      replace TB := Lib.hid (TB.out.trans (ht.mono (fun k _ hx => hx.elim (fun e => by omega) (fun e => by have := HV1.out k e; omega))))
      replace HBK := Lib.hid hk
      have HJ2 := Lib.hid hj
      have HF2 := Lib.hid (And.intro h0 hf)
      have HO2 := Lib.hid ho
      have HV2 := Lib.hid (show ∀ k, vh2.ownBlock = some k → BB + 1 ≤ k from fun k hk => (own_at ho hk).1)
      clear ht hk h0 hf hj ho
      go_wp2_with fail
      refine (bytes_any w14 (BB + 1) BB F2 vh2 [⟨.slice (some ⟨B, 0, none⟩) n (n + 1), .slice none 0 0, n, 1⟩, ⟨.slice A2 m2 c2, .slice none 0 0, m2, 2⟩] A3 m3 c3 2 HBK.out HF2.out.1 HF2.out.2 HO2.out (fun h => by have := HV2.out BB h; omega) (by omega) (by simp) HS14.out).mono ?_
      rintro e w15 ⟨rfl, ht, vh3, F3, hk, h0, hf, hj, ho, _⟩
      have HS15 := Lib.hid (Nat.le_trans HS14.out ht.size)
      replace TB := Lib.hid (TB.out.trans (ht.mono (fun k _ hx => hx.elim (fun e => by omega) (fun e => by have := HV2.out k e; omega))))
      replace HBK := Lib.hid hk
      have HJ3 := Lib.hid hj
      have HF3 := Lib.hid (And.intro h0 hf)
      have HO3 := Lib.hid ho
      have HV3 := Lib.hid (show ∀ k, vh3.ownBlock = some k → BB + 1 ≤ k from fun k hk => (own_at ho hk).1)
      clear ht hk h0 hf hj ho
      go_wp2_with fail
      refine (bytes_any w15 (BB + 1) BB F3 vh3 [⟨.slice (some ⟨B, 0, none⟩) n (n + 1), .slice none 0 0, n, 1⟩, ⟨.slice A2 m2 c2, .slice none 0 0, m2, 2⟩, ⟨.slice A3 m3 c3, .slice none 0 0, m3, 3⟩] A4 m4 c4 3 HBK.out HF3.out.1 HF3.out.2 HO3.out (fun h => by have := HV3.out BB h; omega) (by omega) (by simp) HS15.out).mono ?_
      rintro e w16 ⟨rfl, ht, vh4, F4, hk, h0, hf, hj, ho, _⟩
      have HS16 := Lib.hid (Nat.le_trans HS15.out ht.size)
      replace TB := Lib.hid (TB.out.trans (ht.mono (fun k _ hx => hx.elim (fun e => by omega) (fun e => by have := HV3.out k e; omega))))
      replace HBK := Lib.hid hk
      have HJ4 := Lib.hid hj
      have HF4 := Lib.hid hf
      have HO4 := Lib.hid ho
      have HV4 := Lib.hid (show ∀ k, vh4.ownBlock = some k → BB + 1 ≤ k from fun k hk => (own_at ho hk).1)
      clear ht hk h0 hf hj ho
      go_wp2_with fail
      have b14 := on (on (on HB2.out HB3.out) HB4.out) HB11.out
      have b24 := on (on HB3.out HB4.out) HB11.out
      have b34 := on HB4.out HB11.out
      have s1 := HB1.out.size
      have s2 := HB2.out.size
      have s3 := HB3.out.size
      have s4 := HB4.out.size
      have s11 := HB11.out.size
      have hBE := HBE.out
      have r1 := row_own (HR1.out.below b14) HN.out
      have r2 := row_own (HR2.out.below b24) HM2.out
      have r3 := row_own (HR3.out.below b34) HM3.out
      have r4 := row_own (HR4.out.below HB11.out) HM4.out
      have q1 := own_low (TB.out.own r1 (fun k hk hle => by have := (own_at r1 hk).2; omega)) (Nat.le_refl w.heap.size)
      have q2 := own_low (b2 := w.heap.size) (TB.out.own r2 (fun k hk hle => by have := (own_at r2 hk).2; omega)) s1
      have q3 := own_low (b2 := w.heap.size) (TB.out.own r3 (fun k hk hle => by have := (own_at r3 hk).2; omega)) (by omega)
      have q4 := own_low (b2 := w.heap.size) (TB.out.own r4 (fun k hk hle => by have := (own_at r4 hk).2; omega)) (by omega)
      have hlo : ∀ i (h : i < [(⟨.slice (some ⟨B, 0, none⟩) n (n + 1), .slice none 0 0, n, 1⟩ : HL), ⟨.slice A2 m2 c2, .slice none 0 0, m2, 2⟩, ⟨.slice A3 m3 c3, .slice none 0 0, m3, 3⟩, ⟨.slice A4 m4 c4, .slice none 0 0, m4, 4⟩].length) k, ([(⟨.slice (some ⟨B, 0, none⟩) n (n + 1), .slice none 0 0, n, 1⟩ : HL), ⟨.slice A2 m2 c2, .slice none 0 0, m2, 2⟩, ⟨.slice A3 m3 c3, .slice none 0 0, m3, 3⟩, ⟨.slice A4 m4 c4, .slice none 0 0, m4, 4⟩][i]'h).v.ownBlock = some k → lo5 w.heap.size w1.heap.size w2.heap.size w3.heap.size w4.heap.size i ≤ k ∧ k < lo5 w.heap.size w1.heap.size w2.heap.size w3.heap.size w4.heap.size (i + 1) := by
        intro i h k hk
        have hi : i = 0 ∨ i = 1 ∨ i = 2 ∨ i = 3 := by simp at h; omega
        rcases hi with rfl | rfl | rfl | rfl
        · exact own_at (row_own HR1.out HN.out) hk
        · exact own_at (row_own HR2.out HM2.out) hk
        · exact own_at (row_own HR3.out HM3.out) hk
        · exact own_at (row_own HR4.out HM4.out) hk
      have hall : ∀ k, Blk [(⟨.slice (some ⟨B, 0, none⟩) n (n + 1), .slice none 0 0, n, 1⟩ : HL), ⟨.slice A2 m2 c2, .slice none 0 0, m2, 2⟩, ⟨.slice A3 m3 c3, .slice none 0 0, m3, 3⟩, ⟨.slice A4 m4 c4, .slice none 0 0, m4, 4⟩] k → w.heap.size ≤ k ∧ k < BB := by
        rintro k ⟨h, hh, hk⟩
        obtain ⟨i, hi, rfl⟩ := List.getElem_of_mem hh
        obtain ⟨h1, h2⟩ := hlo i hi k hk
        have m1 := lo5_mono s1 s2 s3 s4 0 i (Nat.zero_le _)
        have m2 : lo5 w.heap.size w1.heap.size w2.heap.size w3.heap.size w4.heap.size (i + 1) ≤ w4.heap.size := by
          have := lo5_mono s1 s2 s3 s4 (i + 1) (i + 5) (by omega)
          have e : lo5 w.heap.size w1.heap.size w2.heap.size w3.heap.size w4.heap.size (i + 5) = w4.heap.size := by unfold lo5; repeat' split
                                                                                                                    all_goals omega
          omega
        have e0 : lo5 w.heap.size w1.heap.size w2.heap.size w3.heap.size w4.heap.size 0 = w.heap.size := rfl
        omega
      have HAL := Lib.hid hall
      have HLO := Lib.hid hlo
      have HNIL := Lib.hid (show ∀ j, j ≠ 0 → j ≠ 1 → F4 j = .slice none 0 0 from fun j h0 h1 => by
        rw [HJ4.out j h0 h1, HJ3.out j h0 h1, HJ2.out j h0 h1, HJ1.out j h0 h1]
        unfold F0
        rw [if_neg h0])
      have HS := Lib.hid (show w.heap.size ≤ w16.heap.size by have := HS16.out; omega)
      have HBW := Lib.hid (show Below w.heap.size w w16 from (on HB1.out b14).trans (TB.out.below (by have := (on HB1.out b14).size; exact this) (fun k hk => by omega)))
      have HQQ := Lib.hid (And.intro q1 (And.intro q2 (And.intro q3 q4)))
      have HLM := Lib.hid (fun i j => lo5_mono s1 s2 s3 s4 i j)
      clear b14 b24 b34 s1 s2 s3 s4 s11 r1 r2 r3 r4 q1 q2 q3 q4 hlo hall hBE
      refine (apart_bytes w16 w.heap.size BB F4 HBK.out (fun j hj => HNIL.out j (by omega) (by omega)) HS.out vh4 [⟨.slice (some ⟨B, 0, none⟩) n (n + 1), .slice none 0 0, n, 1⟩, ⟨.slice A2 m2 c2, .slice none 0 0, m2, 2⟩, ⟨.slice A3 m3 c3, .slice none 0 0, m3, 3⟩, ⟨.slice A4 m4 c4, .slice none 0 0, m4, 4⟩] HF4.out (own_low HO4.out (by have := HBW.out.size; have := HAL.out; have := HBE.out; have := (on HB1.out (on (on (on HB2.out HB3.out) HB4.out) HB11.out)).size; omega)) ?_ ?_ ?_ ?_ ?_ ?_ ?_ ?_).mono ?_
      · intro i h
        have hi : i = 0 ∨ i = 1 ∨ i = 2 ∨ i = 3 := by simp at h; omega
        rcases hi with rfl | rfl | rfl | rfl
        · exact ⟨_, HQQ.out.1⟩
        · exact ⟨_, HQQ.out.2.1⟩
        · exact ⟨_, HQQ.out.2.2.1⟩
        · exact ⟨_, HQQ.out.2.2.2⟩
      · exact ne_of_lo _ _ HLM.out HLO.out
      · intro h hh
        simp at hh
        rcases hh with rfl | rfl | rfl | rfl <;> exact ⟨by simp, rfl⟩
      · intro h hh
        simp at hh
        rcases hh with rfl | rfl | rfl | rfl <;> (dsimp only; omega)
      · simp
      · intro h
        have := HV4.out BB h
        omega
      · intro h
        have := (HAL.out BB h).2
        omega
      · intro k hk h
        have h1 := (HAL.out k hk).2
        have h2 := HV4.out k h
        omega
      · rintro e w17 ⟨rfl, ht⟩
        have HT := Lib.hid ht
        clear ht
        go_wp2_with fail
        go_ret
        exact ⟨rfl, HBW.out.trans (HT.out.below HS.out (fun k hk => hk.elim (fun h => (HAL.out k h).1) (fun h => by have := HV4.out k h; have := HBE.out; have := (on HB1.out (on (on (on HB2.out HB3.out) HB4.out) HB11.out)).size; omega)))⟩
end Go.Proofs.YtajilghlcfheiaaGreatDoor.Num
