/- The Book: Apart, where it holds lists of these kinds: Bound, Num. -/
import Derived.Test.YtajilghlcfheiaaGreatDoorBNil
import Derived.Test.YtajilghlcfheiaaGreatDoorBBound
import Derived.Test.YtajilghlcfheiaaGreatDoorBNum
namespace Go.Proofs.YtajilghlcfheiaaGreatDoor
open Go.RowKit Go.Proofs.YtajilghlcfheiaaGreatDoorW.PrintWords
set_option linter.unusedVariables false
set_option maxRecDepth 20000
set_option maxHeartbeats 16000000 in
theorem apart_bounds (w : World) (base BB : Nat) (F : Nat → Value) (hbk : w.rowIs BB 61 16 F) (hnil : ∀ j, j = 1 ∨ j = 2 ∨ j = 3 ∨ j = 5 ∨ j = 6 ∨ j = 7 ∨ j = 8 ∨ j = 10 ∨ j = 11 ∨ j = 12 ∨ j = 13 ∨ j = 14 ∨ j = 15 → F j = .slice none 0 0) (hbase : base ≤ w.heap.size)
    (vh0 : Value) (L0 : List HL) (hf0 : F 9 = vh0) (ho0 : w.ownsRow base 149 3 vh0 L0.length (hcells L0))
    (hr0 : ∀ i (h : i < L0.length), ∃ xs, w.ownsRow base 99 4 L0[i].v L0[i].n xs) (hd0 : ∀ i j (h : i < L0.length) (h' : j < L0.length), i ≠ j → NeRow L0[i].v L0[j].v)
    (hq0 : ∀ h ∈ L0, h.q ≤ 200 ∧ h.g = .slice none 0 0) (hn0 : ∀ h ∈ L0, h.n ≤ 10000000) (hl0 : L0.length ≤ 1000) (hb0 : vh0.ownBlock ≠ some BB) (hk0 : ¬ Blk L0 BB)
    (vh1 : Value) (L1 : List HL) (hf1 : F 4 = vh1) (ho1 : w.ownsRow base 151 3 vh1 L1.length (hcells L1))
    (hr1 : ∀ i (h : i < L1.length), ∃ xs, w.ownsRow base 66 1 L1[i].v L1[i].n xs) (hd1 : ∀ i j (h : i < L1.length) (h' : j < L1.length), i ≠ j → NeRow L1[i].v L1[j].v)
    (hq1 : ∀ h ∈ L1, h.q ≤ 200 ∧ h.g = .slice none 0 0) (hn1 : ∀ h ∈ L1, h.n ≤ 10000000) (hl1 : L1.length ≤ 1000) (hb1 : vh1.ownBlock ≠ some BB) (hk1 : ¬ Blk L1 BB)
    (hs00 : ∀ k, Blk L0 k → vh0.ownBlock ≠ some k)
    (hs01 : ∀ k, Blk L0 k → vh1.ownBlock ≠ some k)
    (hx01 : ∀ k, Blk L0 k → ¬ Blk L1 k)
    (hv01 : ∀ k, vh0.ownBlock = some k → vh1.ownBlock ≠ some k)
    (hs10 : ∀ k, Blk L1 k → vh0.ownBlock ≠ some k)
    (hx10 : ∀ k, Blk L1 k → ¬ Blk L0 k)
    (hv10 : ∀ k, vh1.ownBlock = some k → vh0.ownBlock ≠ some k)
    (hs11 : ∀ k, Blk L1 k → vh1.ownBlock ≠ some k) :
    Calls Tryz.prog 23 #[.pointer (some ⟨BB, 0, none⟩)] w fun e w' => e = .returned (.bool true) ∧ Tch (fun k => Blk L0 k ∨ vh0.ownBlock = some k ∨ Blk L1 k ∨ vh1.ownBlock = some k) w w' := by
  have HBK := Lib.hid hbk
  have HNIL := Lib.hid (fun (w : World) (h : w.rowIs BB 61 16 F) j (hj : j < 16) (hn : j = 1 ∨ j = 2 ∨ j = 3 ∨ j = 5 ∨ j = 6 ∨ j = 7 ∨ j = 8 ∨ j = 10 ∨ j = 11 ∨ j = 12 ∨ j = 13 ∨ j = 14 ∨ j = 15) => (show w.cell? ⟨BB, j, none⟩ = some (.slice none 0 0) by rw [← hnil j hn]; exact h.cell hj))
  have HBS := Lib.hid hbase
  have HH0 := Lib.hid (show HeldAt w base BB 9 149 vh0 L0 from ⟨by rw [← hf0]; exact hbk.cell (by omega), ho0⟩)
  have HR0 := Lib.hid hr0
  have HD0 := Lib.hid hd0
  have HQ0 := Lib.hid hq0
  have HN0 := Lib.hid hn0
  have HK0 := Lib.hid hk0
  have HVB0 := Lib.hid hb0
  have HLT0 := Lib.hid (show ∀ k, Blk L0 k → k < w.heap.size from fun k ⟨h, hh, hk⟩ => by
    obtain ⟨j, hj, rfl⟩ := List.getElem_of_mem hh
    obtain ⟨xs, hx⟩ := hr0 j hj
    exact (own_at hx hk).2)
  have HVT0 := Lib.hid (show ∀ k, vh0.ownBlock = some k → k < w.heap.size from fun k hk => (own_at ho0 hk).2)
  have HH1 := Lib.hid (show HeldAt w base BB 4 151 vh1 L1 from ⟨by rw [← hf1]; exact hbk.cell (by omega), ho1⟩)
  have HR1 := Lib.hid hr1
  have HD1 := Lib.hid hd1
  have HQ1 := Lib.hid hq1
  have HN1 := Lib.hid hn1
  have HK1 := Lib.hid hk1
  have HVB1 := Lib.hid hb1
  have HLT1 := Lib.hid (show ∀ k, Blk L1 k → k < w.heap.size from fun k ⟨h, hh, hk⟩ => by
    obtain ⟨j, hj, rfl⟩ := List.getElem_of_mem hh
    obtain ⟨xs, hx⟩ := hr1 j hj
    exact (own_at hx hk).2)
  have HVT1 := Lib.hid (show ∀ k, vh1.ownBlock = some k → k < w.heap.size from fun k hk => (own_at ho1 hk).2)
  have HS00 := Lib.hid hs00
  have HS01 := Lib.hid hs01
  have HX01 := Lib.hid hx01
  have HV01 := Lib.hid hv01
  have HS10 := Lib.hid hs10
  have HX10 := Lib.hid hx10
  have HV10 := Lib.hid hv10
  have HS11 := Lib.hid hs11
  obtain ⟨w0, hw0⟩ : ∃ w0, w0 = w := ⟨_, rfl⟩
  have HEQ := Lib.hid hw0
  have HTT := Lib.hid (show Tch (fun k => Blk L0 k ∨ vh0.ownBlock = some k ∨ Blk L1 k ∨ vh1.ownBlock = some k) w0 w from by rw [hw0]; exact Tch.refl _ _)
  clear hbk hnil hbase hw0 hf0 ho0 hr0 hd0 hq0 hn0 hb0 hk0 hf1 ho1 hr1 hd1 hq1 hn1 hb1 hk1 hs00 hs01 hx01 hv01 hs10 hx10 hv10 hs11
  go_enter Tryz.func23, Tryz.ntmps23
  rw [← HEQ.out] at HLT0 HVT0 HLT1 HVT1
  go_wp2_with fail
  refine (KNil.fillByte _ BB (HNIL.out _ HBK.out 1 (by omega) (by omega))).mono ?_
  rintro e wz ⟨rfl, rfl⟩
  go_wp2_with fail
  refine (KNil.fillInt _ BB (HNIL.out _ HBK.out 2 (by omega) (by omega))).mono ?_
  rintro e wz ⟨rfl, rfl⟩
  go_wp2_with fail
  refine (KNil.fillText _ BB (HNIL.out _ HBK.out 3 (by omega) (by omega))).mono ?_
  rintro e wz ⟨rfl, rfl⟩
  go_wp2_with fail
  refine (KNum.fill_any _ base BB vh1 L1 HH1.out HR1.out HD1.out (fun k hk => ⟨fun e => HK1.out (e ▸ hk), HS11.out k hk⟩) (fun h hh => HQ1.out h hh) hl1).mono ?_
  rintro e w1 ⟨rfl, ht, hm⟩
  replace HBK := Lib.hid (ht.row HBK.out HK1.out)
  replace HBS := Lib.hid (Nat.le_trans HBS.out ht.size)
  replace HTT := Lib.hid (HTT.out.trans (ht.mono (fun k _ hk => by simp [hk])))
  replace HH0 := Lib.hid (HH0.out.tch ht HK1.out (fun k hk hx => HS10.out k hx hk))
  replace HR0 := Lib.hid (show ∀ i (h : i < L0.length), ∃ xs, w1.ownsRow base 99 4 L0[i].v L0[i].n xs from fun i h => by
    obtain ⟨xs, hx⟩ := HR0.out i h
    exact ⟨xs, ht.own hx (fun k hk hb => HX10.out k hb ⟨_, List.getElem_mem h, hk⟩)⟩)
  replace HH1 := Lib.hid (HH1.out.tch ht HK1.out (fun k hk hx => HS11.out k hx hk))
  replace HR1 := Lib.hid hm
  clear ht hm
  go_wp2_with fail
  refine (KNil.fillBool _ BB (HNIL.out _ HBK.out 5 (by omega) (by omega))).mono ?_
  rintro e wz ⟨rfl, rfl⟩
  go_wp2_with fail
  refine (KNil.fillBoolList _ BB (HNIL.out _ HBK.out 6 (by omega) (by omega))).mono ?_
  rintro e wz ⟨rfl, rfl⟩
  go_wp2_with fail
  refine (KNil.fillPair _ BB (HNIL.out _ HBK.out 7 (by omega) (by omega))).mono ?_
  rintro e wz ⟨rfl, rfl⟩
  go_wp2_with fail
  refine (KNil.fillNode _ BB (HNIL.out _ HBK.out 8 (by omega) (by omega))).mono ?_
  rintro e wz ⟨rfl, rfl⟩
  go_wp2_with fail
  refine (KBound.fill_any _ base BB vh0 L0 HH0.out HR0.out HD0.out (fun k hk => ⟨fun e => HK0.out (e ▸ hk), HS00.out k hk⟩) (fun h hh => HQ0.out h hh) hl0).mono ?_
  rintro e w2 ⟨rfl, ht, hm⟩
  replace HBK := Lib.hid (ht.row HBK.out HK0.out)
  replace HBS := Lib.hid (Nat.le_trans HBS.out ht.size)
  replace HTT := Lib.hid (HTT.out.trans (ht.mono (fun k _ hk => by simp [hk])))
  replace HH0 := Lib.hid (HH0.out.tch ht HK0.out (fun k hk hx => HS00.out k hx hk))
  replace HH1 := Lib.hid (HH1.out.tch ht HK0.out (fun k hk hx => HS01.out k hx hk))
  replace HR1 := Lib.hid (show ∀ i (h : i < L1.length), ∃ xs, w2.ownsRow base 66 1 L1[i].v L1[i].n xs ∧ ∀ x ∈ xs, KNum.ok L1[i].q x from fun i h => by
    obtain ⟨xs, hx, hm2⟩ := HR1.out i h
    exact ⟨xs, ht.own hx (fun k hk hb => HX01.out k hb ⟨_, List.getElem_mem h, hk⟩), hm2⟩)
  replace HR0 := Lib.hid hm
  clear ht hm
  go_wp2_with fail
  refine (KNil.fillTerm _ BB (HNIL.out _ HBK.out 10 (by omega) (by omega))).mono ?_
  rintro e wz ⟨rfl, rfl⟩
  go_wp2_with fail
  refine (KNil.fillSpot _ BB (HNIL.out _ HBK.out 11 (by omega) (by omega))).mono ?_
  rintro e wz ⟨rfl, rfl⟩
  go_wp2_with fail
  refine (KNil.fillImport _ BB (HNIL.out _ HBK.out 12 (by omega) (by omega))).mono ?_
  rintro e wz ⟨rfl, rfl⟩
  go_wp2_with fail
  refine (KNil.fillEntry _ BB (HNIL.out _ HBK.out 13 (by omega) (by omega))).mono ?_
  rintro e wz ⟨rfl, rfl⟩
  go_wp2_with fail
  refine (KNil.fillItem _ BB (HNIL.out _ HBK.out 14 (by omega) (by omega))).mono ?_
  rintro e wz ⟨rfl, rfl⟩
  go_wp2_with fail
  refine (KNil.fillWord _ BB (HNIL.out _ HBK.out 15 (by omega) (by omega))).mono ?_
  rintro e wz ⟨rfl, rfl⟩
  go_wp2_with fail
  refine (KNil.growByte _ BB (HNIL.out _ HBK.out 1 (by omega) (by omega))).mono ?_
  rintro e wz ⟨rfl, rfl⟩
  go_wp2_with fail
  refine (KNil.growInt _ BB (HNIL.out _ HBK.out 2 (by omega) (by omega))).mono ?_
  rintro e wz ⟨rfl, rfl⟩
  go_wp2_with fail
  refine (KNil.growText _ BB (HNIL.out _ HBK.out 3 (by omega) (by omega))).mono ?_
  rintro e wz ⟨rfl, rfl⟩
  go_wp2_with fail
  have HSZ1 := Lib.hid HTT.out.size
  refine (KNum.grow_any _ base BB vh1 L1 HH1.out HR1.out HD1.out (fun k hk => ⟨fun e => HK1.out (e ▸ hk), HS11.out k hk⟩) HVB1.out HQ1.out HN1.out hl1 HBS.out).mono ?_
  rintro e w3 ⟨rfl, ht, L'1, hsm, hhe, hgr⟩
  have hnb : ¬ (Blk L1 BB ∨ vh1.ownBlock = some BB) := fun h => h.elim HK1.out HVB1.out
  replace HBK := Lib.hid (ht.row HBK.out hnb)
  replace HBS := Lib.hid (Nat.le_trans HBS.out ht.size)
  replace HTT := Lib.hid (HTT.out.trans (ht.mono (fun k _ hk => by rcases hk with hk | hk <;> simp [hk])))
  replace HH0 := Lib.hid (HH0.out.tch ht hnb (fun k hk hx => hx.elim (fun h => HS10.out k h hk) (fun h => HV10.out k h hk)))
  replace HR0 := Lib.hid (show ∀ i (h : i < L0.length), ∃ xs, w3.ownsRow base 99 4 L0[i].v L0[i].n xs ∧ KBound.Mks xs L0[i].n L0[i].q from fun i h => by
    obtain ⟨xs, hx, hm2⟩ := HR0.out i h
    exact ⟨xs, ht.own hx (fun k hk hb => hb.elim (fun h2 => HX10.out k h2 ⟨_, List.getElem_mem h, hk⟩) (fun h2 => HS01.out k ⟨_, List.getElem_mem h, hk⟩ h2)), hm2⟩)
  replace HH1 := Lib.hid hhe
  have HSM1 := Lib.hid hsm
  have HG1 := Lib.hid hgr
  have HBL1 := Lib.hid (show ∀ h ∈ L'1, ∀ k, h.v.ownBlock = some k → Blk L1 k from fun h hh k hk => by
    obtain ⟨j, hj, rfl⟩ := List.getElem_of_mem hh
    have hj' : j < L1.length := by rw [← hsm.len]; exact hj
    exact ⟨L1[j], List.getElem_mem hj', by rw [← (hsm.at_ hj' hj).1]; exact hk⟩)
  have HQN1 := Lib.hid (show ∀ h ∈ L'1, h.q ≤ 200 ∧ h.n ≤ 10000000 from fun h hh => by
    obtain ⟨j, hj, rfl⟩ := List.getElem_of_mem hh
    have hj' : j < L1.length := by rw [← hsm.len]; exact hj
    obtain ⟨_, e2, e3⟩ := hsm.at_ hj' hj
    rw [e2, e3]
    exact ⟨(HQ1.out _ (List.getElem_mem hj')).1, HN1.out _ (List.getElem_mem hj')⟩)
  clear ht hsm hhe hgr hnb
  go_wp2_with fail
  refine (KNil.growBool _ BB (HNIL.out _ HBK.out 5 (by omega) (by omega))).mono ?_
  rintro e wz ⟨rfl, rfl⟩
  go_wp2_with fail
  refine (KNil.growBoolList _ BB (HNIL.out _ HBK.out 6 (by omega) (by omega))).mono ?_
  rintro e wz ⟨rfl, rfl⟩
  go_wp2_with fail
  refine (KNil.growPair _ BB (HNIL.out _ HBK.out 7 (by omega) (by omega))).mono ?_
  rintro e wz ⟨rfl, rfl⟩
  go_wp2_with fail
  refine (KNil.growNode _ BB (HNIL.out _ HBK.out 8 (by omega) (by omega))).mono ?_
  rintro e wz ⟨rfl, rfl⟩
  go_wp2_with fail
  have HSZ0 := Lib.hid HTT.out.size
  refine (KBound.grow_any _ base BB vh0 L0 HH0.out HR0.out HD0.out (fun k hk => ⟨fun e => HK0.out (e ▸ hk), HS00.out k hk⟩) HVB0.out HQ0.out HN0.out hl0 HBS.out).mono ?_
  rintro e w4 ⟨rfl, ht, L'0, hsm, hhe, hgr⟩
  have hnb : ¬ (Blk L0 BB ∨ vh0.ownBlock = some BB) := fun h => h.elim HK0.out HVB0.out
  replace HBK := Lib.hid (ht.row HBK.out hnb)
  replace HBS := Lib.hid (Nat.le_trans HBS.out ht.size)
  replace HTT := Lib.hid (HTT.out.trans (ht.mono (fun k _ hk => by rcases hk with hk | hk <;> simp [hk])))
  replace HH1 := Lib.hid (HH1.out.tch ht hnb (fun k hk hx => hx.elim (fun h => HS01.out k h hk) (fun h => HV01.out k h hk)))
  replace HG1 := Lib.hid (fun h (hh : h ∈ L'1) => (HG1.out h hh).tch ht (fun k hk hx => by
    have hb : Blk L1 k := HBL1.out h hh k hk
    exact hx.elim (fun h => HX01.out k h hb) (fun h => HS10.out k hb h)) (fun k hk hx => by
    have h1 := HSZ1.out
    have h2 : k < w0.heap.size := hx.elim (HLT0.out k) (HVT0.out k)
    omega))
  replace HH0 := Lib.hid hhe
  have HSM0 := Lib.hid hsm
  have HG0 := Lib.hid hgr
  have HBL0 := Lib.hid (show ∀ h ∈ L'0, ∀ k, h.v.ownBlock = some k → Blk L0 k from fun h hh k hk => by
    obtain ⟨j, hj, rfl⟩ := List.getElem_of_mem hh
    have hj' : j < L0.length := by rw [← hsm.len]; exact hj
    exact ⟨L0[j], List.getElem_mem hj', by rw [← (hsm.at_ hj' hj).1]; exact hk⟩)
  have HQN0 := Lib.hid (show ∀ h ∈ L'0, h.q ≤ 200 ∧ h.n ≤ 10000000 from fun h hh => by
    obtain ⟨j, hj, rfl⟩ := List.getElem_of_mem hh
    have hj' : j < L0.length := by rw [← hsm.len]; exact hj
    obtain ⟨_, e2, e3⟩ := hsm.at_ hj' hj
    rw [e2, e3]
    exact ⟨(HQ0.out _ (List.getElem_mem hj')).1, HN0.out _ (List.getElem_mem hj')⟩)
  clear ht hsm hhe hgr hnb
  go_wp2_with fail
  refine (KNil.growTerm _ BB (HNIL.out _ HBK.out 10 (by omega) (by omega))).mono ?_
  rintro e wz ⟨rfl, rfl⟩
  go_wp2_with fail
  refine (KNil.growSpot _ BB (HNIL.out _ HBK.out 11 (by omega) (by omega))).mono ?_
  rintro e wz ⟨rfl, rfl⟩
  go_wp2_with fail
  refine (KNil.growImport _ BB (HNIL.out _ HBK.out 12 (by omega) (by omega))).mono ?_
  rintro e wz ⟨rfl, rfl⟩
  go_wp2_with fail
  refine (KNil.growEntry _ BB (HNIL.out _ HBK.out 13 (by omega) (by omega))).mono ?_
  rintro e wz ⟨rfl, rfl⟩
  go_wp2_with fail
  refine (KNil.growItem _ BB (HNIL.out _ HBK.out 14 (by omega) (by omega))).mono ?_
  rintro e wz ⟨rfl, rfl⟩
  go_wp2_with fail
  refine (KNil.growWord _ BB (HNIL.out _ HBK.out 15 (by omega) (by omega))).mono ?_
  rintro e wz ⟨rfl, rfl⟩
  go_wp2_with fail
  refine (KNil.lookByte _ BB (HNIL.out _ HBK.out 1 (by omega) (by omega))).mono ?_
  rintro e wz ⟨rfl, rfl⟩
  go_wp2_with fail
  refine (KNil.lookInt _ BB (HNIL.out _ HBK.out 2 (by omega) (by omega))).mono ?_
  rintro e wz ⟨rfl, rfl⟩
  go_wp2_with fail
  refine (KNil.lookText _ BB (HNIL.out _ HBK.out 3 (by omega) (by omega))).mono ?_
  rintro e wz ⟨rfl, rfl⟩
  go_wp2_with fail
  refine (KNum.look_any _ base BB vh1 L'1 HH1.out (fun h hh => ⟨(HG1.out h hh).1, (HG1.out h hh).2.1⟩) (fun h hh => (HQN1.out h hh).1) (fun h hh => (HQN1.out h hh).2) (by rw [HSM1.out.len]; exact hl1)).mono ?_
  rintro e w5 ⟨rfl, hb⟩
  have ht : Tch (fun _ => False) _ w5 := Tch.of_below hb
  replace HBK := Lib.hid (ht.row HBK.out (fun h => h))
  replace HTT := Lib.hid (HTT.out.trans (Tch.of_below hb))
  replace HH0 := Lib.hid (HH0.out.tch ht (fun h => h) (fun _ _ h => h))
  replace HG0 := Lib.hid (fun h (hh : h ∈ L'0) => (HG0.out h hh).tch ht (fun _ _ h => h) (fun _ _ h => h))
  replace HH1 := Lib.hid (HH1.out.tch ht (fun h => h) (fun _ _ h => h))
  replace HG1 := Lib.hid (fun h (hh : h ∈ L'1) => (HG1.out h hh).tch ht (fun _ _ h => h) (fun _ _ h => h))
  clear ht hb
  go_wp2_with fail
  refine (KNil.lookBool _ BB (HNIL.out _ HBK.out 5 (by omega) (by omega))).mono ?_
  rintro e wz ⟨rfl, rfl⟩
  go_wp2_with fail
  refine (KNil.lookBoolList _ BB (HNIL.out _ HBK.out 6 (by omega) (by omega))).mono ?_
  rintro e wz ⟨rfl, rfl⟩
  go_wp2_with fail
  refine (KNil.lookPair _ BB (HNIL.out _ HBK.out 7 (by omega) (by omega))).mono ?_
  rintro e wz ⟨rfl, rfl⟩
  go_wp2_with fail
  refine (KNil.lookNode _ BB (HNIL.out _ HBK.out 8 (by omega) (by omega))).mono ?_
  rintro e wz ⟨rfl, rfl⟩
  go_wp2_with fail
  refine (KBound.look_any _ base BB vh0 L'0 HH0.out (fun h hh => ⟨(HG0.out h hh).1, (HG0.out h hh).2.1⟩) (fun h hh => (HQN0.out h hh).1) (fun h hh => (HQN0.out h hh).2) (by rw [HSM0.out.len]; exact hl0)).mono ?_
  rintro e w6 ⟨rfl, hb⟩
  have ht : Tch (fun _ => False) _ w6 := Tch.of_below hb
  replace HBK := Lib.hid (ht.row HBK.out (fun h => h))
  replace HTT := Lib.hid (HTT.out.trans (Tch.of_below hb))
  replace HH0 := Lib.hid (HH0.out.tch ht (fun h => h) (fun _ _ h => h))
  replace HG0 := Lib.hid (fun h (hh : h ∈ L'0) => (HG0.out h hh).tch ht (fun _ _ h => h) (fun _ _ h => h))
  replace HH1 := Lib.hid (HH1.out.tch ht (fun h => h) (fun _ _ h => h))
  replace HG1 := Lib.hid (fun h (hh : h ∈ L'1) => (HG1.out h hh).tch ht (fun _ _ h => h) (fun _ _ h => h))
  clear ht hb
  go_wp2_with fail
  refine (KNil.lookTerm _ BB (HNIL.out _ HBK.out 10 (by omega) (by omega))).mono ?_
  rintro e wz ⟨rfl, rfl⟩
  go_wp2_with fail
  refine (KNil.lookSpot _ BB (HNIL.out _ HBK.out 11 (by omega) (by omega))).mono ?_
  rintro e wz ⟨rfl, rfl⟩
  go_wp2_with fail
  refine (KNil.lookImport _ BB (HNIL.out _ HBK.out 12 (by omega) (by omega))).mono ?_
  rintro e wz ⟨rfl, rfl⟩
  go_wp2_with fail
  refine (KNil.lookEntry _ BB (HNIL.out _ HBK.out 13 (by omega) (by omega))).mono ?_
  rintro e wz ⟨rfl, rfl⟩
  go_wp2_with fail
  refine (KNil.lookItem _ BB (HNIL.out _ HBK.out 14 (by omega) (by omega))).mono ?_
  rintro e wz ⟨rfl, rfl⟩
  go_wp2_with fail
  refine (KNil.lookWord _ BB (HNIL.out _ HBK.out 15 (by omega) (by omega))).mono ?_
  rintro e wz ⟨rfl, rfl⟩
  go_wp2_with fail
  go_ret
  rw [← HEQ.out]
  exact ⟨rfl, HTT.out⟩
end Go.Proofs.YtajilghlcfheiaaGreatDoor
