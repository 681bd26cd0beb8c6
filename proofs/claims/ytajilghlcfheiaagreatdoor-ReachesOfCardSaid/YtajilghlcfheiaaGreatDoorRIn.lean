/- ReachesOf: the walk. -/
import Derived.Test.YtajilghlcfheiaaGreatDoorRLaw
namespace Go.Proofs.YtajilghlcfheiaaGreatDoor.Rea
open Go.RowKit Go.Proofs.YtajilghlcfheiaaGreatDoorW.PrintWords
set_option maxRecDepth 100000
set_option maxHeartbeats 8000000 in
theorem rof_in (N : Int) (A : Option Addr) (n c : Nat) (L : List Bd) (hn : n = L.length) (w : World) (hP : Bds w A L) :
    Calls Tryz.prog 6 #[.int .i64 N, .slice A n c] w fun e w' => e = .returned (.bool true) ∧ Below w.heap.size w w' := by
  have HP := Lib.hid hP
  have HN := Lib.hid hn
  clear hP hn
  by_cases h1 : 300 < n
  · have d1 : decide (300 < (n : Int)) = true := by simp; omega
    have d2 : decide (300 < n) = true := by simp; omega
    clear h1
    go_enter Tryz.func6, Tryz.ntmps6
    go_wp2_with fail
    go_ret
    exact ⟨rfl, Below.refl _ _⟩
  · have d1 : decide (300 < (n : Int)) = false := by simp; omega
    have d2 : decide (300 < n) = false := by simp; omega
    have hn3 : n ≤ 300 := by omega
    clear h1
    go_enter Tryz.func6, Tryz.ntmps6
    go_wp2_with fail
    clear d1 d2
    refine (twinb_any A n c L HN.out (by omega) w HP.out).mono ?_
    rintro e w1 ⟨⟨B, rfl, hB, hH⟩, hb⟩
    have HFT := Lib.hid (twin_fit (HP.out.fit))
    have HR1 := Lib.hid (row_twin HN.out (by omega) hB hH)
    have HT1 := Lib.hid (bds_lit hH HFT.out)
    have HB1 := Lib.hid hb
    clear hb hB hH
    go_wp2_with fail
    refine (of_all (some ⟨B, 0, none⟩) (n + 1) n L N HN.out (by omega) w1 (bds_front HT1.out)).mono ?_
    rintro e w2 ⟨hb, AX, g, rfl, hm⟩
    have HM := Lib.hid hm
    have HB2 := Lib.hid hb
    have HRS := Lib.hid (rof_same A c n L N HN.out (by omega) w2 (HP.out.below (on HB1.out hb)))
    have hm6 := rofF_le N n L
    clear hb hm
    generalize rofF N n L = R at *
    obtain ⟨E, m, M⟩ := R
    dsimp only at HM HRS hm6
    go_wp2_with fail
    refine HRS.out.mono ?_
    rintro e w3 ⟨hb, AY, cy, rfl, hi⟩
    have HB3 := Lib.hid hb
    have HX := Lib.hid (IsM.below HM.out.is hb)
    have HY := Lib.hid hi
    have dE : (E != E) = false := by simp
    clear hb hi HRS
    go_wp2_with fail
    refine (lists_any AX AY m cy hm6 M M w3 HX.out HY.out).mono ?_
    rw [sameM_self]
    rintro e w4 ⟨rfl, hb⟩
    have HB4 := Lib.hid hb
    clear hb HX HY
    go_wp2_with fail
    refine (leftb_any A (some ⟨B, 0, none⟩) n c L HN.out (by omega) w4 (HP.out.below (on (on (on HB1.out HB2.out) HB3.out) HB4.out)) (HT1.out.below (on (on HB2.out HB3.out) HB4.out))).mono ?_
    rintro e w5 ⟨rfl, hb⟩
    have HB5 := Lib.hid (on (on HB3.out HB4.out) hb)
    clear hb
    go_wp2_with fail
    have hbk := book_new w5
    have hba := lit_below w5 (.cells #[.int .i64 0, .slice none 0 0, .slice none 0 0, .slice none 0 0, .slice none 0 0, .slice none 0 0, .slice none 0 0, .slice none 0 0, .slice none 0 0, .slice none 0 0, .slice none 0 0, .slice none 0 0, .slice none 0 0, .slice none 0 0, .slice none 0 0, .slice none 0 0] 61)
    have hsz : (w5.alloc (.cells #[.int .i64 0, .slice none 0 0, .slice none 0 0, .slice none 0 0, .slice none 0 0, .slice none 0 0, .slice none 0 0, .slice none 0 0, .slice none 0 0, .slice none 0 0, .slice none 0 0, .slice none 0 0, .slice none 0 0, .slice none 0 0, .slice none 0 0, .slice none 0 0] 61)).heap.size = w5.heap.size + 1 := by show (w5.heap.push _).size = _; rw [Array.size_push]
    obtain ⟨BB, hBB⟩ : ∃ BB, BB = w5.heap.size := ⟨_, rfl⟩
    rw [← hBB] at hbk hsz ⊢
    have TB := Lib.hid (Tch.of_below (X := fun k => BB ≤ k) hba)
    have HBE := Lib.hid hBB
    have HBK := Lib.hid hbk
    have HSZ := Lib.hid hsz
    clear hbk hba hsz hBB
    generalize w5.alloc _ = w6 at *
    refine (RBk.bounds_any w6 (BB + 1) BB F0 (.slice none 0 0) [] (some ⟨B, 0, none⟩) n (n + 1) 0 HBK.out rfl rfl (World.ownsRow_nil w6 (BB + 1) 149 3) (fun h => by cases h) (by omega) (by simp) (by rw [HSZ.out]; exact Nat.le_refl _)).mono ?_
    rintro e w7 ⟨rfl, ht, vh1, F1, hk, h0, hf, hj, ho, _⟩
    have HS7 := Lib.hid (show BB + 1 ≤ w7.heap.size from by rw [← HSZ.out]; exact ht.size)
    replace TB := Lib.hid (TB.out.trans (ht.mono (fun k _ hx => hx.elim (fun e => by omega) (fun e => by cases e))))
    replace HBK := Lib.hid hk
    have HJ1 := Lib.hid hj
    have HF1 := Lib.hid (And.intro h0 hf)
    have HO1 := Lib.hid ho
    have HV1 := Lib.hid (show ∀ k, vh1.ownBlock = some k → BB + 1 ≤ k ∧ k < w7.heap.size from fun k hk => own_at ho hk)
    have HM5 := Lib.hid ((HM.out.tch (Tch.of_below (X := fun _ => False) HB5.out) (fun _ _ h => h)).tch TB.out (fun k hk hle => by have := HBE.out; omega))
    have HS5 := Lib.hid (show w2.heap.size ≤ BB from by rw [HBE.out]; exact HB5.out.size)
    have HMX := Lib.hid (show ∀ O, AX = some ⟨O, 0, none⟩ → O < BB from fun O hO => by
      rcases HM.out with ⟨h, _⟩ | ⟨O', h, _, hr, _⟩
      · rw [h] at hO; cases hO
      · rw [h] at hO; cases hO; exact Nat.lt_of_lt_of_le hr.lt HS5.out)
    have HG := Lib.hid (show (∀ i, i < m → w1.heap.size ≤ g i ∧ g i < BB ∧ ∀ O, AX = some ⟨O, 0, none⟩ → O < g i) ∧ (∀ k, (Value.slice AX m m).ownBlock = some k → w1.heap.size ≤ k ∧ k < BB ∧ AX = some ⟨k, 0, none⟩) ∧ ∀ i j, i < m → j < m → i ≠ j → g i ≠ g j from by
      obtain ⟨x1, x2, x3⟩ := HM.out.blk
      have hs := HS5.out
      exact ⟨fun i hi => ⟨(x1 i hi).1, Nat.lt_of_lt_of_le (x1 i hi).2.1 hs, (x1 i hi).2.2⟩, fun k hk => ⟨(x2 k hk).1, Nat.lt_of_lt_of_le (x2 k hk).2.1 hs, (x2 k hk).2.2⟩, x3⟩)
    clear ht hk h0 hf hj ho
    go_wp2_with fail
    refine (RBk.lists_any w7 AX BB m m 1 g F1 HBK.out HF1.out.1 (by rw [HJ1.out 5 (by omega) (by omega)]; rfl) (by rw [HJ1.out 6 (by omega) (by omega)]; rfl) hm6 (by omega) HS7.out (fun i hi => by
      rcases HM5.out with ⟨_, h⟩ | ⟨O, h0, _, h2, _⟩
      · omega
      · exact ⟨O, h0, HMX.out O h0, h2.cell hi⟩)).mono ?_
    rintro e w8 ⟨rfl, ht, vh, vl, F2, hk, hf5, hf6, hj, ho, b2, hb2, hvb, hol⟩
    have HS8 := Lib.hid (Nat.le_trans HS7.out ht.size)
    have TB8 := Lib.hid (TB.out.trans (ht.mono (fun k _ hx => hx.elim (fun e => by omega) (fun e => by have := HS7.out; omega))))
    have HM8 := Lib.hid ((HM.out.tch (Tch.of_below (X := fun _ => False) HB5.out) (fun _ _ h => h)).tch TB8.out (fun k hk hle => by have := HBE.out; omega))
    replace HBK := Lib.hid hk
    have HF2 := Lib.hid (show F2 9 = vh1 ∧ F2 5 = vh ∧ F2 6 = vl from ⟨by rw [hj 9 (by omega) (by omega) (by omega)]; exact HF1.out.2, hf5, hf6⟩)
    have HNIL := Lib.hid (show ∀ j, j ≠ 0 → j ≠ 9 → j ≠ 5 → j ≠ 6 → F2 j = .slice none 0 0 from fun j h0 h1 h2 h3 => by
      rw [hj j h0 h2 h3, HJ1.out j h0 h1]
      unfold F0
      rw [if_neg h0])
    have HO1' := Lib.hid (ht.own HO1.out (fun k hk hx => hx.elim (fun e => by have := (HV1.out k hk).1; omega) (fun e => by have := (HV1.out k hk).2; omega)))
    have HOV := Lib.hid (show w8.ownsRow w7.heap.size 164 3 vh (RBk.hl g m 1 m).length (hcells (RBk.hl g m 1 m)) by rw [RBk.hl_length]; exact ho)
    have HOL := Lib.hid hol
    have HB2L := Lib.hid hb2
    have HV2 := Lib.hid (show ∀ k, vh.ownBlock = some k → w7.heap.size ≤ k ∧ k < b2 from fun k hk => ⟨(own_at ho hk).1, hvb k hk⟩)
    have HV3 := Lib.hid (show ∀ k, vl.ownBlock = some k → b2 ≤ k from fun k hk => (own_at hol hk).1)
    have HSS := Lib.hid (show w.heap.size ≤ w1.heap.size ∧ w1.heap.size ≤ w2.heap.size ∧ w2.heap.size ≤ BB ∧ BB + 1 ≤ w7.heap.size ∧ w7.heap.size ≤ b2 ∧ w.heap.size ≤ w8.heap.size from ⟨HB1.out.size, HB2.out.size, HS5.out, HS7.out, hb2, by
      have := HB1.out.size; have := HB2.out.size; have := HS5.out; have := HS8.out; omega⟩)
    have HR8 := Lib.hid (own_low (b2 := w.heap.size) (TB8.out.own (own_below HR1.out (on HB2.out HB5.out)) (fun k hk hle => by have := (own_at HR1.out hk).2; have := HSS.out; omega)) (Nat.le_refl _))
    have HBW := Lib.hid (show Below w.heap.size w w8 from (on HB1.out (on HB2.out HB5.out)).trans (TB8.out.below (by have := (on HB1.out (on HB2.out HB5.out)).size; exact this) (fun k hk => by have := HSS.out; omega)))
    clear ht hk hf5 hf6 hj ho hb2 hvb hol TB TB8 HM5 HB1 HB2 HB3 HB4 HB5 HM HBE HSZ HT1 HFT HS8 HO1 HJ1 HF1
    have K0 := Lib.hid (show ∀ k, Blk [(⟨.slice (some ⟨B, 0, none⟩) n (n + 1), .slice none 0 0, n, 1⟩ : HL)] k → w.heap.size ≤ k ∧ k < w1.heap.size from fun k h => own_at HR1.out (blk_one h))
    have K1 := Lib.hid (show ∀ k, Blk (RBk.hl g m 1 m) k → w1.heap.size ≤ k ∧ k < BB ∧ ∀ O, AX = some ⟨O, 0, none⟩ → O < k from fun k h => by
      obtain ⟨i, hi, rfl⟩ := blk_hl h
      exact HG.out.1 i hi)
    have K2 := Lib.hid (show ∀ k, Blk [(⟨.slice AX m m, .slice none 0 0, m, 1 + m + 1⟩ : HL)] k → w1.heap.size ≤ k ∧ k < BB ∧ AX = some ⟨k, 0, none⟩ from fun k h => HG.out.2.1 k (blk_one h))
    go_wp2_with fail
    refine (apart_reaches w8 w.heap.size BB F2 HBK.out (fun j hj => HNIL.out j (by omega) (by omega) (by omega) (by omega)) HSS.out.2.2.2.2.2
      vh1 [⟨.slice (some ⟨B, 0, none⟩) n (n + 1), .slice none 0 0, n, 1⟩] HF2.out.1 (own_low HO1'.out (by have := HSS.out; omega)) ?_ ?_ ?_ ?_ (by simp) (fun h => by have := (HV1.out BB h).1; omega) (fun h => by have := K0.out BB h; have := HSS.out; omega)
      vh (RBk.hl g m 1 m) HF2.out.2.1 (own_low HOV.out (by have := HSS.out; omega)) ?_ ?_ ?_ ?_ (by rw [RBk.hl_length]; omega) (fun h => by have := HV2.out BB h; have := HSS.out; omega) (fun h => by have := K1.out BB h; omega)
      vl [⟨.slice AX m m, .slice none 0 0, m, 1 + m + 1⟩] HF2.out.2.2 (own_low HOL.out (by have := HSS.out; omega)) ?_ ?_ ?_ ?_ (by simp) (fun h => by have := HV3.out BB h; have := HSS.out; omega) (fun h => by have := K2.out BB h; omega)
      ?_ ?_ ?_ ?_ ?_ ?_ ?_ ?_ ?_ ?_ ?_ ?_ ?_ ?_ ?_ ?_ ?_ ?_ ?_ ?_ ?_).mono ?_
    · intro i h
      obtain rfl : i = 0 := by simpa using h
      exact ⟨_, HR8.out⟩
    · intro i j h h' hne
      simp at h h'
      omega
    · intro h hh
      rw [List.mem_singleton.1 hh]
      exact ⟨by simp, rfl⟩
    · intro h hh
      rw [List.mem_singleton.1 hh]
      dsimp only
      omega
    · intro i h
      rw [hl_at h]
      rw [RBk.hl_length] at h
      exact HM8.out.own1 (by have := HSS.out; omega) hm6 i h
    · intro i j h h' hne
      rw [hl_at h, hl_at h']
      rw [RBk.hl_length] at h h'
      intro k hk hk'
      have e1 : g i = k := by simpa [Value.ownBlock] using hk
      have e2 : g j = k := by simpa [Value.ownBlock] using hk'
      exact HG.out.2.2 i j h h' hne (e1.trans e2.symm)
    · intro h hh
      obtain ⟨i, hi, rfl⟩ := List.getElem_of_mem hh
      rw [hl_at hi]
      rw [RBk.hl_length] at hi
      exact ⟨by dsimp only; omega, rfl⟩
    · intro h hh
      obtain ⟨i, hi, rfl⟩ := List.getElem_of_mem hh
      rw [hl_at hi]
      dsimp only
      omega
    · intro i h
      obtain rfl : i = 0 := by simpa using h
      exact HM8.out.own2 (by have := HSS.out; omega) hm6
    · intro i j h h' hne
      simp at h h'
      omega
    · intro h hh
      rw [List.mem_singleton.1 hh]
      exact ⟨by dsimp only; omega, rfl⟩
    · intro h hh
      rw [List.mem_singleton.1 hh]
      dsimp only
      omega
    all_goals first
      | (rintro e w9 ⟨rfl, ht⟩
         have HT := Lib.hid ht
         clear ht
         go_wp2_with fail
         go_ret
         exact ⟨rfl, HBW.out.trans (HT.out.below HSS.out.2.2.2.2.2 (fun k hk => by
           have := HSS.out
           rcases hk with h | h | h | h | h | h
           · exact (K0.out k h).1
           · have := HV1.out k h; omega
           · have := K1.out k h; omega
           · have := HV2.out k h; omega
           · have := K2.out k h; omega
           · have := HV3.out k h; omega))⟩)
      | (intro k hk h
         have hss := HSS.out
         have a0 := K0.out k
         have a1 := K1.out k
         have a2 := K2.out k
         have b0 := HV1.out k
         have b1 := HV2.out k
         have b2 := HV3.out k
         first
           | (have p := a0 hk; have q := a1 h; omega)
           | (have p := a0 hk; have q := a2 h; omega)
           | (have p := a0 hk; have q := b0 h; omega)
           | (have p := a0 hk; have q := b1 h; omega)
           | (have p := a0 hk; have q := b2 h; omega)
           | (have p := a1 hk; have q := a0 h; omega)
           | (have p := a1 hk; have q := a2 h; have r := p.2.2 k q.2.2; omega)
           | (have p := a1 hk; have q := b0 h; omega)
           | (have p := a1 hk; have q := b1 h; omega)
           | (have p := a1 hk; have q := b2 h; omega)
           | (have p := a2 hk; have q := a0 h; omega)
           | (have p := a2 hk; have q := a1 h; have r := q.2.2 k p.2.2; omega)
           | (have p := a2 hk; have q := b0 h; omega)
           | (have p := a2 hk; have q := b1 h; omega)
           | (have p := a2 hk; have q := b2 h; omega)
           | (have p := b0 hk; have q := b1 h; omega)
           | (have p := b0 hk; have q := b2 h; omega)
           | (have p := b1 hk; have q := b0 h; omega)
           | (have p := b1 hk; have q := b2 h; omega)
           | (have p := b2 hk; have q := b0 h; omega)
           | (have p := b2 hk; have q := b1 h; omega))
end Go.Proofs.YtajilghlcfheiaaGreatDoor.Rea
