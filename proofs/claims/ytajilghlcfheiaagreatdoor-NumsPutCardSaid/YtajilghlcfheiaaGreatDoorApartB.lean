/- The Book: Apart, where it holds lists of these kinds: Byte. -/
import Derived.Test.YtajilghlcfheiaaGreatDoorBNil
import Derived.Test.YtajilghlcfheiaaGreatDoorBByte
namespace Go.Proofs.YtajilghlcfheiaaGreatDoor
open Go.RowKit Go.Proofs.YtajilghlcfheiaaGreatDoorW.PrintWords
set_option linter.unusedVariables false
set_option maxRecDepth 20000
set_option maxHeartbeats 16000000 in
theorem apart_bytes (w : World) (base BB : Nat) (F : Nat → Value) (hbk : w.rowIs BB 61 16 F) (hnil : ∀ j, j = 2 ∨ j = 3 ∨ j = 4 ∨ j = 5 ∨ j = 6 ∨ j = 7 ∨ j = 8 ∨ j = 9 ∨ j = 10 ∨ j = 11 ∨ j = 12 ∨ j = 13 ∨ j = 14 ∨ j = 15 → F j = .slice none 0 0) (hbase : base ≤ w.heap.size)
    (vh0 : Value) (L0 : List HL) (hf0 : F 1 = vh0) (ho0 : w.ownsRow base 153 3 vh0 L0.length (hcells L0))
    (hr0 : ∀ i (h : i < L0.length), ∃ xs, w.ownsRow base 5 1 L0[i].v L0[i].n xs) (hd0 : ∀ i j (h : i < L0.length) (h' : j < L0.length), i ≠ j → NeRow L0[i].v L0[j].v)
    (hq0 : ∀ h ∈ L0, h.q ≤ 200 ∧ h.g = .slice none 0 0) (hn0 : ∀ h ∈ L0, h.n ≤ 10000000) (hl0 : L0.length ≤ 1000) (hb0 : vh0.ownBlock ≠ some BB) (hk0 : ¬ Blk L0 BB)
    (hs00 : ∀ k, Blk L0 k → vh0.ownBlock ≠ some k) :
    Calls Tryz.prog 23 #[.pointer (some ⟨BB, 0, none⟩)] w fun e w' => e = .returned (.bool true) ∧ Tch (fun k => Blk L0 k ∨ vh0.ownBlock = some k) w w' := by
  have HBK := Lib.hid hbk
  have HNIL := Lib.hid (fun (w : World) (h : w.rowIs BB 61 16 F) j (hj : j < 16) (hn : j = 2 ∨ j = 3 ∨ j = 4 ∨ j = 5 ∨ j = 6 ∨ j = 7 ∨ j = 8 ∨ j = 9 ∨ j = 10 ∨ j = 11 ∨ j = 12 ∨ j = 13 ∨ j = 14 ∨ j = 15) => (show w.cell? ⟨BB, j, none⟩ = some (.slice none 0 0) by rw [← hnil j hn]; exact h.cell hj))
  have HBS := Lib.hid hbase
  have HH0 := Lib.hid (show HeldAt w base BB 1 153 vh0 L0 from ⟨by rw [← hf0]; exact hbk.cell (by omega), ho0⟩)
  have HR0 := Lib.hid hr0
  have HD0 := Lib.hid hd0
  have HQ0 := Lib.hid hq0
  have HN0 := Lib.hid hn0
  have HK0 := Lib.hid hk0
  have HVB0 := Lib.hid hb0
  have HLT0 := Lib.hid (show ∀ k, Blk L0 k → k < w.heap.size from fun k ⟨h, hh, hk⟩ => by
    obtain ⟨j, hj, rfl⟩ := List.getElem_of_mem hh
    obtain ⟨xs, hx⟩ := hr0 j hj
    exact (own_at hx hk).2)
  have HVT0 := Lib.hid (show ∀ k, vh0.ownBlock = some k → k < w.heap.size from fun k hk => (own_at ho0 hk).2)
  have HS00 := Lib.hid hs00
  obtain ⟨w0, hw0⟩ : ∃ w0, w0 = w := ⟨_, rfl⟩
  have HEQ := Lib.hid hw0
  have HTT := Lib.hid (show Tch (fun k => Blk L0 k ∨ vh0.ownBlock = some k) w0 w from by rw [hw0]; exact Tch.refl _ _)
  clear hbk hnil hbase hw0 hf0 ho0 hr0 hd0 hq0 hn0 hb0 hk0 hs00
  go_enter Tryz.func23, Tryz.ntmps23
  rw [← HEQ.out] at HLT0 HVT0
  go_wp2_with fail
  refine (KByte.fill_any _ base BB vh0 L0 HH0.out HR0.out HD0.out (fun k hk => ⟨fun e => HK0.out (e ▸ hk), HS00.out k hk⟩) (fun h hh => HQ0.out h hh) hl0).mono ?_
  rintro e w1 ⟨rfl, ht, hm⟩
  replace HBK := Lib.hid (ht.row HBK.out HK0.out)
  replace HBS := Lib.hid (Nat.le_trans HBS.out ht.size)
  replace HTT := Lib.hid (HTT.out.trans (ht.mono (fun k _ hk => by simp [hk])))
  replace HH0 := Lib.hid (HH0.out.tch ht HK0.out (fun k hk hx => HS00.out k hx hk))
  replace HR0 := Lib.hid hm
  clear ht hm
  go_wp2_with fail
  refine (KNil.fillInt _ BB (HNIL.out _ HBK.out 2 (by omega) (by omega))).mono ?_
  rintro e wz ⟨rfl, rfl⟩
  go_wp2_with fail
  refine (KNil.fillText _ BB (HNIL.out _ HBK.out 3 (by omega) (by omega))).mono ?_
  rintro e wz ⟨rfl, rfl⟩
  go_wp2_with fail
  refine (KNil.fillNum _ BB (HNIL.out _ HBK.out 4 (by omega) (by omega))).mono ?_
  rintro e wz ⟨rfl, rfl⟩
  go_wp2_with fail
  refine (KNil.fillBool _ BB (HNIL.out _ HBK.out 5 (by omega) (by omega))).mono ?_
  rintro e wz ⟨rfl, rfl⟩
  go_wp2_with fail
  refine (KNil.fillBoolList _ BB (HNIL.out _ HBK.out 6 (by omega) (by omega))).mono ?_
  rintro e wz ⟨rfl, rfl⟩
  go_wp2_with fail
  refine (KNil.fillPair _ BB (HNIL.out _ HBK.out 7 (by omega) (by omega))).mono ?_
  rintro e wz ⟨rfl, rfl⟩
  go_wp2_with fail
  refine (KNil.fillNode _ BB (HNIL.out _ HBK.out 8 (by omega) (by omega))).mono ?_
  rintro e wz ⟨rfl, rfl⟩
  go_wp2_with fail
  refine (KNil.fillBound _ BB (HNIL.out _ HBK.out 9 (by omega) (by omega))).mono ?_
  rintro e wz ⟨rfl, rfl⟩
  go_wp2_with fail
  refine (KNil.fillTerm _ BB (HNIL.out _ HBK.out 10 (by omega) (by omega))).mono ?_
  rintro e wz ⟨rfl, rfl⟩
  go_wp2_with fail
  refine (KNil.fillSpot _ BB (HNIL.out _ HBK.out 11 (by omega) (by omega))).mono ?_
  rintro e wz ⟨rfl, rfl⟩
  go_wp2_with fail
  refine (KNil.fillImport _ BB (HNIL.out _ HBK.out 12 (by omega) (by omega))).mono ?_
  rintro e wz ⟨rfl, rfl⟩
  go_wp2_with fail
  refine (KNil.fillEntry _ BB (HNIL.out _ HBK.out 13 (by omega) (by omega))).mono ?_
  rintro e wz ⟨rfl, rfl⟩
  go_wp2_with fail
  refine (KNil.fillItem _ BB (HNIL.out _ HBK.out 14 (by omega) (by omega))).mono ?_
  rintro e wz ⟨rfl, rfl⟩
  go_wp2_with fail
  refine (KNil.fillWord _ BB (HNIL.out _ HBK.out 15 (by omega) (by omega))).mono ?_
  rintro e wz ⟨rfl, rfl⟩
  go_wp2_with fail
  have HSZ0 := Lib.hid HTT.out.size
  refine (KByte.grow_any _ base BB vh0 L0 HH0.out HR0.out HD0.out (fun k hk => ⟨fun e => HK0.out (e ▸ hk), HS00.out k hk⟩) HVB0.out HQ0.out HN0.out hl0 HBS.out).mono ?_
  rintro e w2 ⟨rfl, ht, L'0, hsm, hhe, hgr⟩
  have hnb : ¬ (Blk L0 BB ∨ vh0.ownBlock = some BB) := fun h => h.elim HK0.out HVB0.out
  replace HBK := Lib.hid (ht.row HBK.out hnb)
  replace HBS := Lib.hid (Nat.le_trans HBS.out ht.size)
  replace HTT := Lib.hid (HTT.out.trans (ht.mono (fun k _ hk => by rcases hk with hk | hk <;> simp [hk])))
  replace HH0 := Lib.hid hhe
  have HSM0 := Lib.hid hsm
  have HG0 := Lib.hid hgr
  have HBL0 := Lib.hid (show ∀ h ∈ L'0, ∀ k, h.v.ownBlock = some k → Blk L0 k from fun h hh k hk => by
    obtain ⟨j, hj, rfl⟩ := List.getElem_of_mem hh
    have hj' : j < L0.length := by rw [← hsm.len]; exact hj
    exact ⟨L0[j], List.getElem_mem hj', by rw [← (hsm.at_ hj' hj).1]; exact hk⟩)
  have HQN0 := Lib.hid (show ∀ h ∈ L'0, h.q ≤ 200 ∧ h.n ≤ 10000000 from fun h hh => by
    obtain ⟨j, hj, rfl⟩ := List.getElem_of_mem hh
    have hj' : j < L0.length := by rw [← hsm.len]; exact hj
    obtain ⟨_, e2, e3⟩ := hsm.at_ hj' hj
    rw [e2, e3]
    exact ⟨(HQ0.out _ (List.getElem_mem hj')).1, HN0.out _ (List.getElem_mem hj')⟩)
  clear ht hsm hhe hgr hnb
  go_wp2_with fail
  refine (KNil.growInt _ BB (HNIL.out _ HBK.out 2 (by omega) (by omega))).mono ?_
  rintro e wz ⟨rfl, rfl⟩
  go_wp2_with fail
  refine (KNil.growText _ BB (HNIL.out _ HBK.out 3 (by omega) (by omega))).mono ?_
  rintro e wz ⟨rfl, rfl⟩
  go_wp2_with fail
  refine (KNil.growNum _ BB (HNIL.out _ HBK.out 4 (by omega) (by omega))).mono ?_
  rintro e wz ⟨rfl, rfl⟩
  go_wp2_with fail
  refine (KNil.growBool _ BB (HNIL.out _ HBK.out 5 (by omega) (by omega))).mono ?_
  rintro e wz ⟨rfl, rfl⟩
  go_wp2_with fail
  refine (KNil.growBoolList _ BB (HNIL.out _ HBK.out 6 (by omega) (by omega))).mono ?_
  rintro e wz ⟨rfl, rfl⟩
  go_wp2_with fail
  refine (KNil.growPair _ BB (HNIL.out _ HBK.out 7 (by omega) (by omega))).mono ?_
  rintro e wz ⟨rfl, rfl⟩
  go_wp2_with fail
  refine (KNil.growNode _ BB (HNIL.out _ HBK.out 8 (by omega) (by omega))).mono ?_
  rintro e wz ⟨rfl, rfl⟩
  go_wp2_with fail
  refine (KNil.growBound _ BB (HNIL.out _ HBK.out 9 (by omega) (by omega))).mono ?_
  rintro e wz ⟨rfl, rfl⟩
  go_wp2_with fail
  refine (KNil.growTerm _ BB (HNIL.out _ HBK.out 10 (by omega) (by omega))).mono ?_
  rintro e wz ⟨rfl, rfl⟩
  go_wp2_with fail
  refine (KNil.growSpot _ BB (HNIL.out _ HBK.out 11 (by omega) (by omega))).mono ?_
  rintro e wz ⟨rfl, rfl⟩
  go_wp2_with fail
  refine (KNil.growImport _ BB (HNIL.out _ HBK.out 12 (by omega) (by omega))).mono ?_
  rintro e wz ⟨rfl, rfl⟩
  go_wp2_with fail
  refine (KNil.growEntry _ BB (HNIL.out _ HBK.out 13 (by omega) (by omega))).mono ?_
  rintro e wz ⟨rfl, rfl⟩
  go_wp2_with fail
  refine (KNil.growItem _ BB (HNIL.out _ HBK.out 14 (by omega) (by omega))).mono ?_
  rintro e wz ⟨rfl, rfl⟩
  go_wp2_with fail
  refine (KNil.growWord _ BB (HNIL.out _ HBK.out 15 (by omega) (by omega))).mono ?_
  rintro e wz ⟨rfl, rfl⟩
  go_wp2_with fail
  refine (KByte.look_any _ base BB vh0 L'0 HH0.out (fun h hh => ⟨(HG0.out h hh).1, (HG0.out h hh).2.1⟩) (fun h hh => (HQN0.out h hh).1) (fun h hh => (HQN0.out h hh).2) (by rw [HSM0.out.len]; exact hl0)).mono ?_
  rintro e w3 ⟨rfl, hb⟩
  have ht : Tch (fun _ => False) _ w3 := Tch.of_below hb
  replace HBK := Lib.hid (ht.row HBK.out (fun h => h))
  replace HTT := Lib.hid (HTT.out.trans (Tch.of_below hb))
  replace HH0 := Lib.hid (HH0.out.tch ht (fun h => h) (fun _ _ h => h))
  replace HG0 := Lib.hid (fun h (hh : h ∈ L'0) => (HG0.out h hh).tch ht (fun _ _ h => h) (fun _ _ h => h))
  clear ht hb
  go_wp2_with fail
  refine (KNil.lookInt _ BB (HNIL.out _ HBK.out 2 (by omega) (by omega))).mono ?_
  rintro e wz ⟨rfl, rfl⟩
  go_wp2_with fail
  refine (KNil.lookText _ BB (HNIL.out _ HBK.out 3 (by omega) (by omega))).mono ?_
  rintro e wz ⟨rfl, rfl⟩
  go_wp2_with fail
  refine (KNil.lookNum _ BB (HNIL.out _ HBK.out 4 (by omega) (by omega))).mono ?_
  rintro e wz ⟨rfl, rfl⟩
  go_wp2_with fail
  refine (KNil.lookBool _ BB (HNIL.out _ HBK.out 5 (by omega) (by omega))).mono ?_
  rintro e wz ⟨rfl, rfl⟩
  go_wp2_with fail
  refine (KNil.lookBoolList _ BB (HNIL.out _ HBK.out 6 (by omega) (by omega))).mono ?_
  rintro e wz ⟨rfl, rfl⟩
  go_wp2_with fail
  refine (KNil.lookPair _ BB (HNIL.out _ HBK.out 7 (by omega) (by omega))).mono ?_
  rintro e wz ⟨rfl, rfl⟩
  go_wp2_with fail
  refine (KNil.lookNode _ BB (HNIL.out _ HBK.out 8 (by omega) (by omega))).mono ?_
  rintro e wz ⟨rfl, rfl⟩
  go_wp2_with fail
  refine (KNil.lookBound _ BB (HNIL.out _ HBK.out 9 (by omega) (by omega))).mono ?_
  rintro e wz ⟨rfl, rfl⟩
  go_wp2_with fail
  refine (KNil.lookTerm _ BB (HNIL.out _ HBK.out 10 (by omega) (by omega))).mono ?_
  rintro e wz ⟨rfl, rfl⟩
  go_wp2_with fail
  refine (KNil.lookSpot _ BB (HNIL.out _ HBK.out 11 (by omega) (by omega))).mono ?_
  rintro e wz ⟨rfl, rfl⟩
  go_wp2_with fail
  refine (KNil.lookImport _ BB (HNIL.out _ HBK.out 12 (by omega) (by omega))).mono ?_
  rintro e wz ⟨rfl, rfl⟩
  go_wp2_with fail
  refine (KNil.lookEntry _ BB (HNIL.out _ HBK.out 13 (by omega) (by omega))).mono ?_
  rintro e wz ⟨rfl, rfl⟩
  go_wp2_with fail
  refine (KNil.lookItem _ BB (HNIL.out _ HBK.out 14 (by omega) (by omega))).mono ?_
  rintro e wz ⟨rfl, rfl⟩
  go_wp2_with fail
  refine (KNil.lookWord _ BB (HNIL.out _ HBK.out 15 (by omega) (by omega))).mono ?_
  rintro e wz ⟨rfl, rfl⟩
  go_wp2_with fail
  go_ret
  rw [← HEQ.out]
  exact ⟨rfl, HTT.out⟩
end Go.Proofs.YtajilghlcfheiaaGreatDoor
