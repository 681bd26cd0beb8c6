/- The Book: lists (Num). -/
import Derived.Test.YtajilghlcfheiaaGreatDoorBookM
import Derived.WalkKit
import Derived.Deep.RegionLaw
import Derived.Deep.Heap
import Derived.Test.YtajilghlcfheiaaGreatDoorFrame
import Derived.WalkSpells
import Derived.KernelRfl
import Derived.Test.YtajilghlcfheiaaGreatDoorProg
namespace Go.Proofs.YtajilghlcfheiaaGreatDoor.KNum
open Go.RowKit Go.Proofs.YtajilghlcfheiaaGreatDoorW.PrintWords Go.Proofs.YtajilghlcfheiaaGreatDoor.Bk
set_option linter.unusedVariables false
set_option maxRecDepth 20000
def mk (q : Nat) : Value := .int .u64 (q : Int)
theorem mark_any (q : Nat) (hq : q ≤ 200) (w : World) : Calls Tryz.prog 136 #[.int .i64 (q : Int)] w fun e w' => e = .returned (mk q) ∧ w = w' := by
  have hw : IntKind.u64.wrap (q : Int) = (q : Int) := by rw [IntKind.wrap_u64]; omega
  go_enter Tryz.func136, Tryz.ntmps136
  go_wp2_with fail
  go_ret
  exact ⟨rfl, rfl⟩
theorem is_any (q : Nat) (hq : q ≤ 200) (w : World) : Calls Tryz.prog 151 #[mk q, .int .i64 (q : Int)] w fun e w' => e = .returned (.bool true) ∧ w = w' := by
  have hw : IntKind.u64.wrap (q : Int) = (q : Int) := by rw [IntKind.wrap_u64]; omega
  unfold mk
  go_enter Tryz.func151, Tryz.ntmps151
  go_wp2_with fail
  go_ret
  exact ⟨rfl, rfl⟩
def Fst (BB : Nat) (F : Nat) : Value := .pointer (some ⟨BB, F, none⟩)
set_option maxHeartbeats 2000000 in
theorem fill_any (w : World) (base BB : Nat) (vh : Value) (L : List HL) (hB : HeldAt w base BB 4 151 vh L)
    (hr : ∀ i (h : i < L.length), ∃ xs, w.ownsRow base 66 1 L[i].v L[i].n xs) (hd : ∀ i j (h : i < L.length) (h' : j < L.length), i ≠ j → NeRow L[i].v L[j].v)
    (hH : ∀ k, Blk L k → k ≠ BB ∧ vh.ownBlock ≠ some k) (hq : ∀ h ∈ L, h.q ≤ 200 ∧ h.g = .slice none 0 0) (hlen : L.length ≤ 1000) :
    Calls Tryz.prog 68 #[.pointer (some ⟨BB, 0, none⟩)] w fun e w' => e = .returned (.tuple #[]) ∧ Tch (Blk L) w w' ∧ ∀ i (h : i < L.length), ∃ xs, w'.ownsRow base 66 1 L[i].v L[i].n xs ∧ ∀ x ∈ xs, x = mk L[i].q := by
  have HB := Lib.hid hB
  have HR := Lib.hid hr
  have HD := Lib.hid hd
  have HH := Lib.hid hH
  have HQ := Lib.hid hq
  clear hr hd hH hq
  obtain ⟨A, cap, rfl⟩ := hB.slice
  have c0 := hB.1
  clear hB
  go_enter Tryz.func68, Tryz.ntmps68
  go_wp2_with fail
  go_loopw [2, 3, 4] (fun x _ _ wr => ∃ i : Nat, i ≤ L.length ∧ x = .int .i64 i ∧ Hid (Tch (Blk L) w wr) ∧ Hid (∀ j (h : j < L.length), ∃ xs, wr.ownsRow base 66 1 L[j].v L[j].n xs ∧ (j < i → ∀ x ∈ xs, x = mk L[j].q))) (fun x _ _ _ => L.length - (intOf x).toNat)
  case atStart => exact ⟨0, by omega, rfl, Tch.refl _ _, fun j h => by
    obtain ⟨xs, hx⟩ := HR.out j h
    exact ⟨xs, hx, fun hj => absurd hj (Nat.not_lt_zero j)⟩⟩
  case round =>
    obtain ⟨i, hi, rfl, HT, HX⟩ := hrel
    have HBr := Lib.hid (HB.out.tch HT.out (fun hx => (HH.out _ hx).1 rfl) (fun k hk hx => (HH.out k hx).2 hk))
    have c0 := HBr.out.1
    by_cases him : i < L.length
    · obtain ⟨H, cap', e, h0, h1, h2⟩ := HBr.out.at_ him
      obtain ⟨rfl, rfl⟩ : A = some ⟨H, 0, none⟩ ∧ cap = cap' := by simpa using e
      have i1 : (0 : Int) ≤ (i : Int) := by omega
      have i2 : (i : Int) < (L.length : Int) := by omega
      obtain ⟨xs0, ho, _⟩ := HX.out i him
      obtain ⟨Ai, ci, ev⟩ : ∃ Ai ci, L[i].v = .slice Ai L[i].n ci := by
        rcases ho.2 with ⟨e0, e1⟩ | ⟨g, cp, cur, e0, _⟩
        · exact ⟨none, 0, by rw [e0, e1]⟩
        · exact ⟨_, _, e0⟩
      obtain ⟨hq200, hg⟩ := HQ.out _ (List.getElem_mem him)
      rw [ev] at h0 ho
      rw [hg] at h1
      have HEV := Lib.hid ev
      obtain ⟨ni, hni⟩ : ∃ n, n = L[i].n := ⟨_, rfl⟩
      obtain ⟨qi, hqi⟩ : ∃ q, q = L[i].q := ⟨_, rfl⟩
      rw [← hni] at h0 ho HEV
      rw [← hqi] at h2 hq200
      have hnm : ni ≤ 9223372036854775807 := by
        rcases ho.2 with ⟨_, e1⟩ | ⟨g, cp, cur, e0, _, _, h5, h6, _⟩
        · omega
        · unfold maxLen at h6
          omega
      have HNI := Lib.hid hni
      have HQI := Lib.hid hqi
      have HO := Lib.hid ho
      clear e ev hni hqi ho hg
      go_wp2_with fail
      obtain ⟨O, hO⟩ : ∃ O, O = wr.heap.size := ⟨_, rfl⟩
      have t3 := three_at wr (.slice Ai ni ci) (.slice none 0 0) (.int .i64 (qi : Int)) 151
      have hba := below_alloc wr (.cells #[.slice Ai ni ci, .slice none 0 0, .int .i64 (qi : Int)] 151)
      have HT1 := Lib.hid (HT.out.trans (Tch.of_below hba))
      have HOB := Lib.hid (show ¬ Blk L O from fun ⟨h, hh, hk⟩ => by
        obtain ⟨j, hj, rfl⟩ := List.getElem_of_mem hh
        obtain ⟨xs, hx, _⟩ := HX.out j hj
        have := (own_at hx hk).2
        rw [← hO] at this
        omega)
      have HX1 := Lib.hid (show ∀ j (h : j < L.length), ∃ xs, (wr.alloc (.cells #[.slice Ai ni ci, .slice none 0 0, .int .i64 (qi : Int)] 151)).ownsRow base 66 1 L[j].v L[j].n xs ∧ (j < i → ∀ x ∈ xs, x = mk L[j].q) from fun j h => by
        obtain ⟨xs, hx, hm⟩ := HX.out j h
        exact ⟨xs, (Tch.of_below (X := fun _ => False) hba).own hx (fun _ _ h => h), hm⟩)
      have HF := Lib.hid (show (wr.alloc (.cells #[.slice Ai ni ci, .slice none 0 0, .int .i64 (qi : Int)] 151)).cell? ⟨BB, 4, none⟩ = some (.slice (some ⟨H, 0, none⟩) L.length cap) from (Tch.of_below (X := fun _ => False) hba).cell HBr.out.1 (fun h => h))
      rw [← hO] at t3
      rw [← hO]
      clear hO hba HT HX HBr c0 h0 h1 h2
      generalize wr.alloc (.cells #[.slice Ai ni ci, .slice none 0 0, .int .i64 (qi : Int)] 151) = w1 at *
      have HT3 := Lib.hid t3
      clear t3
      go_loopw [4] (fun x wr => ∃ k : Nat, k ≤ ni ∧ x = .int .i64 k ∧ Hid (Tch (Blk L) w1 wr) ∧ Hid (∀ j (h : j < L.length), ∃ xs, wr.ownsRow base 66 1 L[j].v L[j].n xs ∧ (j < i → ∀ x ∈ xs, x = mk L[j].q) ∧ (j = i → ∀ m, m < k → xs[m]? = some (mk qi)))) (fun x _ => ni - (intOf x).toNat)
      case atStart => exact ⟨0, by omega, rfl, Tch.refl _ _, fun j h => by
        obtain ⟨xs, hx, hm⟩ := HX1.out j h
        exact ⟨xs, hx, hm, fun _ m hm => absurd hm (Nat.not_lt_zero m)⟩⟩
      case round =>
        obtain ⟨k, hk, rfl, HTk, HXk⟩ := hrel
        have d0 := HTk.out.cell HT3.out.1 HOB.out
        have d2 := HTk.out.cell HT3.out.2.2 HOB.out
        by_cases hkn : k < ni
        · obtain ⟨xs, ho, _, hmk⟩ := HXk.out i him
          have hmk' := hmk rfl
          rw [HEV.out, ← HNI.out] at ho
          obtain ⟨g, ea⟩ : ∃ g, Ai = some ⟨g, 0, none⟩ := by
            rcases ho.2 with ⟨e0, e1⟩ | ⟨g, cp, cur, e0, _⟩
            · omega
            · injection e0 with e0
              exact ⟨g, e0⟩
          subst ea
          have hxl : xs.length = ni := by have := ho.1; omega
          have hgB : Blk L g := ⟨L[i], List.getElem_mem him, by rw [HEV.out]; rfl⟩
          have j1 : (0 : Int) ≤ (k : Int) := by omega
          have j2 : (k : Int) < (ni : Int) := by omega
          have HO2 := Lib.hid ho
          have HGB := Lib.hid hgB
          have HMK := Lib.hid hmk'
          clear hmk hmk' ho hgB
          go_upto_region 7 with fail
          refine wp_region_held (S := fun W => Tch (Blk L) w1 W) (by kernel_rfl) ?_
          generalize hA0 : Act.mk _ _ = a0
          have hF := Fr.nil (n := 35) (a := a0) (by rw [← hA0]; rfl)
          replace hF := Fr.cons hF 4 (.int .i64 (k : Int)) (by rw [← hA0]; rfl)
          replace hF := Fr.cons hF 3 (.pointer (some ⟨O, 0, none⟩)) (by rw [← hA0]; rfl)
          have hS : Tch (Blk L) w1 (World.drew _) := HTk.out.trans (Tch.of_below (Below.drew (Below.refl _ wr)))
          change wpAnyH _ _ _ _ _ _ _ _ (World.drew _)
          refine tk (i := 0) (d := 28) (v := .pointer (some ⟨O, 0, none⟩)) hF rfl rfl (by kernel_rfl) (by kernel_rfl) (by kernel_rfl) (fun _ _ _ h => h) (yi_go rfl (fun W hW => by have f3 := fr_at hF 0 rfl; go_simp)) hS rfl (by decide) (fun a1 hA1 hF' => ?_)
          replace hF := hF'; clear hF'
          refine tk (i := 1) (d := 29) (v := .slice (some ⟨g, 0, none⟩) ni ci) hF rfl rfl (by kernel_rfl) (by kernel_rfl) (by kernel_rfl) (fun _ _ _ h => h) (yi_go rfl (fun W hW => by have d0 := Tch.cell hW HT3.out.1 HOB.out; have f28 := fr_at hF 0 rfl; go_simp)) hS rfl (by decide) (fun a2 hA2 hF' => ?_)
          replace hF := hF'; clear hF'
          refine tk (i := 2) (d := 30) (v := .int .i64 (k : Int)) hF rfl rfl (by kernel_rfl) (by kernel_rfl) (by kernel_rfl) (fun _ _ _ h => h) (yi_go rfl (fun W hW => ex_move W rfl (fr_at hF 3 rfl))) hS rfl (by decide) (fun a3 hA3 hF' => ?_)
          replace hF := hF'; clear hF'
          refine tk (i := 3) (d := 31) (v := .pointer (some ⟨O, 2, none⟩)) hF rfl rfl (by kernel_rfl) (by kernel_rfl) (by kernel_rfl) (fun _ _ _ h => h) (yi_go rfl (fun W hW => by have f3 := fr_at hF 3 rfl; go_simp)) hS rfl (by decide) (fun a4 hA4 hF' => ?_)
          replace hF := hF'; clear hF'
          refine tk (i := 4) (d := 32) (v := .int .i64 (qi : Int)) hF rfl rfl (by kernel_rfl) (by kernel_rfl) (by kernel_rfl) (fun _ _ _ h => h) (yi_go rfl (fun W hW => by have d2 := Tch.cell hW HT3.out.2.2 HOB.out; have f31 := fr_at hF 0 rfl; go_simp)) hS rfl (by decide) (fun a5 hA5 hF' => ?_)
          replace hF := hF'; clear hF'
          refine wpAnyH_ready (rs := [5]) (by kernel_rfl) (by simp) ?_
          refine AllReadyH.cons rfl (fun K hK => ?_) AllReadyH.nil
          have f32 := fr_at hF 0 rfl
          go_simp
          clear f32
          go_at_call 136
          refine (mark_any qi hq200 _).mono ?_
          rintro e wa ⟨rfl, rfl⟩
          go_wp2_with fail
          refine hK.out _ _ (hS) (fun _ => ?_)
          replace hS := hS
          clear hK K
          change wpAnyH _ _ _ _ _ _ _ (a5.put (some 33) (.int .u64 (qi : Int))) _
          have hF' := fr_put hF 33 (.int .u64 (qi : Int)) rfl (by decide)
          generalize hA6 : Act.put a5 (some 33) (.int .u64 (qi : Int)) = a6 at hF' ⊢
          replace hF := hF'; clear hF'
          refine tk (i := 6) (d := 34) (v := .pointer (some ⟨g, k, none⟩)) hF rfl rfl (by kernel_rfl) (by kernel_rfl) (by kernel_rfl) (fun _ _ _ h => h) (yi_go rfl (fun W hW => by have f29 := fr_at hF 4 rfl; have f30 := fr_at hF 3 rfl; go_simp)) hS rfl (by decide) (fun a7 hA7 hF' => ?_)
          replace hF := hF'; clear hF'
          refine wpAnyH_ready (rs := [7]) (by kernel_rfl) (by simp) ?_
          refine AllReadyH.cons rfl (fun K hK => ?_) AllReadyH.nil
          have f33 := fr_at hF 1 rfl
          have f34 := fr_at hF 0 rfl
          have hsome : xs[k]? = some (xs[k]'(by omega)) := List.getElem?_eq_getElem _
          have hcell : wr.cell? ⟨g, k, none⟩ = some (xs[k]'(by omega)) := by
            have := HO2.out.cells (g := g) rfl k _ hsome
            have hadd : (⟨g, 0, none⟩ : Addr).add k = ⟨g, k, none⟩ := by unfold Addr.add; split <;> simp_all
            rw [hadd] at this
            exact this
          have hfr : wr.frozen? ⟨g, k, none⟩ = false := HO2.out.frozenAt k
          generalize xs[k]'(by omega) = old at hcell
          clear hsome
          go_simp
          have HSET := HO2.out.stored k (.int .u64 (qi : Int))
          have hS2 : Tch (Blk L) w1 ((wr.setCell ⟨g, k, none⟩ (.int .u64 (qi : Int))).drew) := (HTk.out.trans (Tch.of_grown HSET.2 (fun _ e => by cases e; exact HGB.out))).trans (Tch.of_below (Below.drew (Below.refl _ _)))
          refine hK.out _ _ hS2 (fun _ => ?_)
          clear hK K
          refine wpAnyH_done (by kernel_rfl) ?_ _
          rw [← hA7, ← hA6, ← hA5, ← hA4, ← hA3, ← hA2, ← hA1, ← hA0]
          simp only [Act.put, List.setIfInBounds_toArray, List.set_cons_zero, List.set_cons_succ]
          clear hF
          have HS2 := Lib.hid hS2
          have HW := Lib.hid (show Tch (fun k => k = g) wr ((wr.setCell ⟨g, k, none⟩ (mk qi)).drew) from (Tch.of_grown HSET.2 (fun _ e => by cases e; rfl)).trans (Tch.of_below (Below.drew (Below.refl _ _))))
          have HOW := Lib.hid ((Tch.of_below (X := fun _ => False) (Below.drew (Below.refl _ (wr.setCell ⟨g, k, none⟩ (mk qi))))).own HSET.1 (fun _ _ h => h))
          clear hS2 HSET hS hcell hfr
          go_wp2_with fail
          go_roundw
          case rel => exact ⟨k + 1, by omega, by go_num, HS2.out, fun j h => by
            by_cases e : j = i
            · subst e
              refine ⟨xs.set k (mk qi), ?_, fun hj => absurd hj (Nat.lt_irrefl _), fun _ m hm => ?_⟩
              · rw [HEV.out, ← HNI.out]
                exact HOW.out
              · by_cases e2 : m = k
                · subst e2
                  rw [List.getElem?_set_self (by omega)]
                · rw [List.getElem?_set_ne (fun h => e2 h.symm)]
                  exact HMK.out m (by omega)
            · obtain ⟨ys, hy, hm, _⟩ := HXk.out j h
              refine ⟨ys, HW.out.own hy (fun kk hk e3 => ?_), hm, fun e4 => absurd e4 e⟩
              subst e3
              exact HD.out j i h him e kk hk (by rw [HEV.out]; rfl)⟩
          case measure => simp [intOf]; omega
        · obtain rfl : k = ni := by omega
          have HT4 := Lib.hid (HT1.out.trans HTk.out)
          go_wp2_with fail
          go_roundw
          case rel => exact ⟨i + 1, by omega, by go_num, HT4.out, fun j h => by
            obtain ⟨xs, hx, hm, hm2⟩ := HXk.out j h
            refine ⟨xs, hx, fun hj x hxm => ?_⟩
            by_cases e : j = i
            · subst e
              obtain ⟨m, hml, rfl⟩ := List.getElem_of_mem hxm
              have hl : xs.length = L[j].n := by have := hx.1; omega
              have := hm2 rfl m (by rw [HNI.out, ← hl]; exact hml)
              rw [List.getElem?_eq_getElem hml] at this
              rw [Option.some.inj this, HQI.out]
            · exact hm (by omega) x hxm⟩
          case measure => simp [intOf]; omega
    · obtain rfl : i = L.length := by omega
      go_wp2_with fail
      go_end0
      refine ⟨rfl, HT.out, fun j h => ?_⟩
      obtain ⟨xs, hx, hm⟩ := HX.out j h
      exact ⟨xs, hx, hm h⟩
def ok (q : Nat) (x : Value) : Prop := x = mk q
/-- a list that is grown. -/
def Gr (N : Nat) (w : World) (h : HL) : Prop := Rd ok w h.v h.n h.q ∧ Rd ok w h.g (h.n + 40) h.q ∧ ∀ k, h.g.ownBlock = some k → h.v.ownBlock = some k ∨ N ≤ k
theorem Gr.tch {N : Nat} {X : Nat → Prop} {w w' : World} {h : HL} (hg : Gr N w h) (ht : Tch X w w') (h1 : ∀ k, h.v.ownBlock = some k → ¬ X k) (h2 : ∀ k, N ≤ k → ¬ X k) : Gr N w' h :=
  ⟨hg.1.tch ht h1, hg.2.1.tch ht (fun k hk => (hg.2.2 k hk).elim (h1 k) (h2 k)), hg.2.2⟩
theorem infoE : (Tryz.prog.info? 66).map (fun i => (i.zero, i.size, i.bytes)) = some (some (.int .u64 0), 1, 8) := by kernel_rfl
set_option maxHeartbeats 4000000 in
theorem grow_any (w : World) (base BB : Nat) (vh : Value) (L : List HL) (hB : HeldAt w base BB 4 151 vh L)
    (hr : ∀ i (h : i < L.length), ∃ xs, w.ownsRow base 66 1 L[i].v L[i].n xs ∧ ∀ x ∈ xs, x = mk L[i].q) (hd : ∀ i j (h : i < L.length) (h' : j < L.length), i ≠ j → NeRow L[i].v L[j].v)
    (hH : ∀ k, Blk L k → k ≠ BB ∧ vh.ownBlock ≠ some k) (hbb : vh.ownBlock ≠ some BB) (hq : ∀ h ∈ L, h.q ≤ 200 ∧ h.g = .slice none 0 0) (hn : ∀ h ∈ L, h.n ≤ 10000000) (hlen : L.length ≤ 1000) (hbase : base ≤ w.heap.size) :
    Calls Tryz.prog 83 #[.pointer (some ⟨BB, 0, none⟩)] w fun e w' => e = .returned (.tuple #[]) ∧ Tch (fun k => Blk L k ∨ vh.ownBlock = some k) w w' ∧ ∃ L', Same L L' ∧ HeldAt w' base BB 4 151 vh L' ∧ ∀ h ∈ L', Gr w.heap.size w' h := by
  have HR := Lib.hid hr
  have HD := Lib.hid hd
  have HH := Lib.hid hH
  have HQ := Lib.hid hq
  have HNN := Lib.hid hn
  have HBB := Lib.hid hbb
  have HBS := Lib.hid hbase
  have HBW := Lib.hid (show ∀ k, Blk L k → k < w.heap.size from fun k ⟨h, hh, hk⟩ => by
    obtain ⟨j, hj, rfl⟩ := List.getElem_of_mem hh
    obtain ⟨xs, hx, _⟩ := hr j hj
    exact (own_at hx hk).2)
  have HVW := Lib.hid (show ∀ k, vh.ownBlock = some k → k < w.heap.size from fun k hk => (own_at hB.2 hk).2)
  obtain ⟨A, cap, evh⟩ := hB.slice
  have HB := Lib.hid hB
  have HEH := Lib.hid evh
  have hfld : ∀ wr (L' : List HL), HeldAt wr base BB 4 151 vh L' → wr.cell? ⟨BB, 4, none⟩ = some (.slice A L.length cap) := fun wr L' h => by rw [← evh]; exact h.1
  have HFLD := Lib.hid hfld
  have c0 := hfld w L hB
  clear hr hd hH hq hn hbb hB evh hfld hbase
  go_enter Tryz.func83, Tryz.ntmps83
  go_wp2_with fail
  go_loopw [2, 3, 4, 5] (fun x _ _ _ wr => ∃ i : Nat, i ≤ L.length ∧ x = .int .i64 i ∧ ∃ L', Hid (Same L L') ∧ Hid (HeldAt wr base BB 4 151 vh L') ∧ Hid (Tch (fun k => Blk L k ∨ vh.ownBlock = some k) w wr) ∧ Hid (∀ j (h : j < L'.length), j < i → Gr w.heap.size wr L'[j]) ∧ Hid (∀ j (h : j < L'.length), i ≤ j → L'[j].g = .slice none 0 0) ∧ Hid (∀ j (h : j < L.length), i ≤ j → ∃ xs, wr.ownsRow base 66 1 L[j].v L[j].n xs ∧ ∀ x ∈ xs, x = mk L[j].q)) (fun x _ _ _ _ => L.length - (intOf x).toNat)
  case atStart => exact ⟨0, by omega, rfl, L, rfl, HB.out, Tch.refl _ _, fun j _ h => absurd h (Nat.not_lt_zero j), fun j h _ => (HQ.out _ (List.getElem_mem h)).2, fun j h _ => HR.out j h⟩
  case round =>
    obtain ⟨i, hi, rfl, L', HS, HBr, HT, HG, HN, HX⟩ := hrel
    have c0 := HFLD.out wr L' HBr.out
    by_cases him : i < L.length
    · have him' : i < L'.length := by rw [HS.out.len]; exact him
      obtain ⟨ev, en, eq⟩ := HS.out.at_ him him'
      obtain ⟨H, cap', e, h0, h1, h2⟩ := HBr.out.at_ him'
      rw [HEH.out, HS.out.len] at e
      obtain ⟨rfl, rfl⟩ : A = some ⟨H, 0, none⟩ ∧ cap = cap' := by simpa using e
      have i1 : (0 : Int) ≤ (i : Int) := by omega
      have i2 : (i : Int) < (L.length : Int) := by omega
      obtain ⟨xs0, ho, hm0⟩ := HX.out i him (Nat.le_refl _)
      obtain ⟨Ai, ci, ef, hAi, hnm⟩ := own_form ho
      have hq200 := (HQ.out _ (List.getElem_mem him)).1
      have hn7 := HNN.out _ (List.getElem_mem him)
      rw [ev, ef] at h0
      rw [HN.out i him' (Nat.le_refl _)] at h1
      rw [eq] at h2
      rw [ef] at ho
      have HEV := Lib.hid ef
      obtain ⟨ni, hni⟩ : ∃ n, n = L[i].n := ⟨_, rfl⟩
      obtain ⟨qi, hqi⟩ : ∃ q, q = L[i].q := ⟨_, rfl⟩
      rw [← hni] at h0 ho HEV hAi hnm hn7
      rw [← hqi] at h2 hq200 hm0
      have HNI := Lib.hid hni
      have HQI := Lib.hid hqi
      have HO := Lib.hid ho
      have HM0 := Lib.hid hm0
      have HAI := Lib.hid hAi
      clear e ev en eq ef hni hqi ho hm0 hAi
      go_wp2_with fail
      obtain ⟨O, hO⟩ : ∃ O, O = wr.heap.size := ⟨_, rfl⟩
      have t3 := three_at wr (.slice Ai ni ci) (.slice none 0 0) (.int .i64 (qi : Int)) 151
      have hba := below_alloc wr (.cells #[.slice Ai ni ci, .slice none 0 0, .int .i64 (qi : Int)] 151)
      have hVO : (Value.slice Ai ni ci).ownBlock ≠ some O := fun hk => by
        have := (own_at HO.out hk).2
        omega
      have HVB := Lib.hid (show ∀ k, (Value.slice Ai ni ci).ownBlock = some k → Blk L k from fun k hk => ⟨L[i], List.getElem_mem him, by rw [HEV.out]; exact hk⟩)
      have HT1 := Lib.hid (HT.out.trans (Tch.of_below hba))
      have HB1 := Lib.hid (show HeldAt (wr.alloc (.cells #[.slice Ai ni ci, .slice none 0 0, .int .i64 (qi : Int)] 151)) base BB 4 151 vh L' from HBr.out.tch (Tch.of_below (X := fun _ => False) hba) (fun h => h) (fun _ _ h => h))
      have HO1 := Lib.hid ((Tch.of_below (X := fun _ => False) hba).own HO.out (fun _ _ h => h))
      have HG1 := Lib.hid (show ∀ j (h : j < L'.length), j < i → Gr w.heap.size (wr.alloc (.cells #[.slice Ai ni ci, .slice none 0 0, .int .i64 (qi : Int)] 151)) L'[j] from fun j h hj => (HG.out j h hj).tch (Tch.of_below (X := fun _ => False) hba) (fun _ _ h => h) (fun _ _ h => h))
      have HX1 := Lib.hid (show ∀ j (h : j < L.length), i ≤ j → ∃ xs, (wr.alloc (.cells #[.slice Ai ni ci, .slice none 0 0, .int .i64 (qi : Int)] 151)).ownsRow base 66 1 L[j].v L[j].n xs ∧ ∀ x ∈ xs, x = mk L[j].q from fun j h hj => by
        obtain ⟨xs, hx, hm⟩ := HX.out j h hj
        exact ⟨xs, (Tch.of_below (X := fun _ => False) hba).own hx (fun _ _ h => h), hm⟩)
      have HSZ := Lib.hid (Nat.le_trans HT.out.size hba.size)
      rw [← hO] at t3
      rw [← hO]
      clear hO hba HT HX HBr HG HO c0 h0 h1 h2
      generalize wr.alloc (.cells #[.slice Ai ni ci, .slice none 0 0, .int .i64 (qi : Int)] 151) = w1 at *
      have HT3 := Lib.hid t3
      have HVO := Lib.hid hVO
      clear t3 hVO
      go_loopw [4, 5] (fun l x wr => ∃ k : Nat, k ≤ 40 ∧ x = .int .i64 k ∧ ∃ xs, Hid (wr.ownsRow base 66 1 l (ni + k) xs) ∧ Hid (∀ x ∈ xs, x = mk qi) ∧ Hid (l.ownBlock = (Value.slice Ai ni ci).ownBlock ∨ ∃ b, l.ownBlock = some b ∧ w1.heap.size ≤ b) ∧ Hid (Rd ok wr (.slice Ai ni ci) ni qi) ∧ Hid (Tch (fun k => (Value.slice Ai ni ci).ownBlock = some k) w1 wr)) (fun _ x _ => 40 - (intOf x).toNat)
      case atStart => exact ⟨0, by omega, rfl, xs0, HO1.out, HM0.out, .inl rfl, Rd.of_own HO1.out HM0.out (Nat.le_refl _) Ai ci rfl HAI.out (fun _ => rfl), Tch.refl _ _⟩
      case round =>
        obtain ⟨k, hk, rfl, xs, HOk, HMk, HBk, HRk, HTk⟩ := hrel
        by_cases hk40 : k < 40
        · have d2 := HTk.out.cell HT3.out.2.2 HVO.out
          have HBSk := Lib.hid (Nat.le_trans HBS.out (Nat.le_trans HSZ.out HTk.out.size))
          go_wp2_with fail
          refine (mark_any qi hq200 _).mono ?_
          rintro e w2 ⟨rfl, rfl⟩
          unfold mk
          go_wp2_with (at_builtin; refine wp_app1 base rfl (.tmp 28) (.tmp 32) 22 66 (.int .u64 0) _ 8 rfl Tryz.underlying22 infoE rfl u4 (ni + k) xs rfl rfl HOk.out rfl HBSk.out (by omega) (by omega) ?_; intro v1 w3 ho1 hat1; have HO3 := Lib.hid ho1; have HAT := Lib.hid hat1; clear ho1 hat1)
          have HVL := Lib.hid (fun kk (h : (Value.slice Ai ni ci).ownBlock = some kk) => (own_at HO1.out h).2)
          have HMx := Lib.hid (show ∀ x ∈ xs ++ [mk qi], x = mk qi from fun x hx => (List.mem_append.1 hx).elim (HMk.out x) (fun h => List.mem_singleton.1 h))
          refine ⟨⟨k + 1, by omega, by go_num, xs ++ [mk qi], HO3.out, HMx.out, ?_, ?_, ?_⟩, by simp [intOf]; omega⟩
          · rcases HAT.out with ⟨e1, _⟩ | ⟨b, e1, hb, _⟩
            · rw [e1]
              exact HBk.out
            · exact .inr ⟨b, e1, Nat.le_trans HTk.out.size hb⟩
          · rcases HAT.out with ⟨e1, t1⟩ | ⟨b, e1, hb, t1⟩
            · rcases HBk.out with e2 | ⟨b, e2, hb⟩
              · exact Rd.of_own HO3.out HMx.out (by omega) Ai ci rfl HAI.out (fun _ => e1.trans e2)
              · exact HRk.out.tch t1 (fun kk h1 h2 => by
                  have := HVL.out kk h1
                  rw [e2] at h2
                  cases h2
                  omega)
            · exact HRk.out.tch t1 (fun _ _ h => h)
          · rcases HAT.out with ⟨e1, t1⟩ | ⟨b, e1, hb, t1⟩
            · rcases HBk.out with e2 | ⟨b, e2, hb⟩
              · rw [e2] at t1
                exact HTk.out.trans t1
              · exact HTk.out.trans' t1 (fun kk hk h2 => by
                  rw [e2] at h2
                  cases h2
                  omega)
            · exact HTk.out.trans' t1 (fun _ _ h => h.elim)
        · obtain rfl : k = 40 := by omega
          have HBq := Lib.hid (HB1.out.tch HTk.out (fun h => (HH.out _ (HVB.out _ h)).1 rfl) (fun k h1 h2 => (HH.out _ (HVB.out _ h2)).2 h1))
          have c0 := HFLD.out _ L' HBq.out
          obtain ⟨H', cap', e, _, h1, _⟩ := HBq.out.at_ him'
          rw [HEH.out, HS.out.len] at e
          obtain ⟨rfl, rfl⟩ : H = H' ∧ cap = cap' := by simpa using e
          have hfr : wr.frozen? ⟨H, i * 3 + 1, none⟩ = false := by
            have := HBq.out.2
            rw [HEH.out] at this
            exact World.ownsRow.frozenAt (n := L'.length) (by rw [← HS.out.len] at this; exact this) _
          obtain ⟨Al, cl, el, hAl, _⟩ := own_form HOk.out
          subst el
          have HAL := Lib.hid hAl
          clear e hAl
          go_wp2_with fail
          have st := HBq.out.2
          rw [HEH.out, HS.out.len] at st
          obtain ⟨st1, st2⟩ := st.stored (i * 3 + 1) (.slice Al (ni + 40) cl)
          rw [hcells_set L' i him' (.slice Al (ni + 40) cl)] at st1
          have TS : Tch (fun k => k = H) wr (wr.setCell ⟨H, i * 3 + 1, none⟩ (.slice Al (ni + 40) cl)) := Tch.of_grown st2 (fun k e => by cases e; rfl)
          have hvH : vh.ownBlock = some H := by rw [HEH.out]; rfl
          have hVH : ∀ k, (Value.slice Ai ni ci).ownBlock = some k → ¬ k = H := fun k hk e => (HH.out k (HVB.out k hk)).2 (by rw [e]; exact hvH)
          have hNH : ∀ k, w.heap.size ≤ k → ¬ k = H := fun k hk e => by
            have := HVW.out H hvH
            omega
          obtain ⟨ev, en, eq⟩ := HS.out.at_ him him'
          refine ⟨⟨i + 1, by omega, by go_num, L'.set i { L'[i] with g := .slice Al (ni + 40) cl }, HS.out.set him' _, ⟨TS.cell HBq.out.1 (fun e => HBB.out (by rw [hvH]; exact congrArg some e.symm)), ?_⟩, (HT1.out.trans' HTk.out (fun k _ h => .inl (HVB.out k h))).trans' TS (fun k _ h => .inr (by rw [hvH, h])), fun j h hj => ?_, fun j h hj => ?_, fun j h hj => ?_⟩, by simp [intOf]; omega⟩
          · rw [HEH.out, List.length_set, HS.out.len]
            exact st1
          · rw [List.length_set] at h
            by_cases e : j = i
            · subst e
              rw [List.getElem_set_self]
              refine ⟨?_, ?_, fun k hk => ?_⟩
              · show Rd ok _ L'[j].v L'[j].n L'[j].q
                rw [ev, en, eq, HEV.out, ← HNI.out, ← HQI.out]
                exact HRk.out.tch TS hVH
              · show Rd ok _ (.slice Al (ni + 40) cl) (L'[j].n + 40) L'[j].q
                rw [en, eq, ← HNI.out, ← HQI.out]
                refine (Rd.of_own HOk.out HMk.out (Nat.le_refl _) Al cl rfl HAL.out (fun _ => rfl)).tch TS (fun k hk => ?_)
                rcases HBk.out with e2 | ⟨b, e2, hb⟩
                · exact hVH k (e2 ▸ hk)
                · rw [e2] at hk
                  injection hk with hk
                  subst hk
                  exact hNH _ (Nat.le_trans HSZ.out hb)
              · show L'[j].v.ownBlock = some k ∨ _
                rw [ev, HEV.out]
                rcases HBk.out with e2 | ⟨b, e2, hb⟩
                · exact .inl (e2 ▸ hk)
                · have hk' : (Value.slice Al (ni + 40) cl).ownBlock = some k := hk
                  rw [e2] at hk'
                  injection hk' with hk'
                  subst hk'
                  exact .inr (Nat.le_trans HSZ.out hb)
            · rw [List.getElem_set_ne (fun e' => e e'.symm)]
              have hjL : j < L.length := by rw [← HS.out.len]; exact h
              obtain ⟨ejv, _, _⟩ := HS.out.at_ hjL h
              refine ((HG1.out j h (by omega)).tch HTk.out (fun k h1 h2 => ?_) (fun k h1 h2 => ?_)).tch TS (fun k h1 e' => ?_) (fun k h1 => hNH k h1)
              · rw [ejv] at h1
                exact HD.out j i hjL him e k h1 (by rw [HEV.out]; exact h2)
              · have := HBW.out k (HVB.out k h2)
                omega
              · rw [ejv] at h1
                exact (HH.out k ⟨L[j], List.getElem_mem hjL, h1⟩).2 (by rw [e']; exact hvH)
          · rw [List.length_set] at h
            rw [List.getElem_set_ne (by omega)]
            exact HN.out j h (by omega)
          · obtain ⟨ys, hy, hm⟩ := HX1.out j h (by omega)
            refine ⟨ys, TS.own (HTk.out.own hy (fun k h1 h2 => HD.out j i h him (by omega) k h1 (by rw [HEV.out]; exact h2))) (fun k h1 e' => (HH.out k ⟨L[j], List.getElem_mem h, h1⟩).2 (by rw [e']; exact hvH)), hm⟩
    · obtain rfl : i = L.length := by omega
      go_wp2_with fail
      go_end0
      refine ⟨rfl, HT.out, L', HS.out, HBr.out, fun h hh => ?_⟩
      obtain ⟨j, hj, rfl⟩ := List.getElem_of_mem hh
      exact HG.out j hj (by rw [HS.out.len] at hj; exact hj)
set_option maxHeartbeats 4000000 in
theorem look_any (w : World) (base BB : Nat) (vh : Value) (L : List HL) (hB : HeldAt w base BB 4 151 vh L)
    (hr : ∀ h ∈ L, Rd ok w h.v h.n h.q ∧ Rd ok w h.g (h.n + 40) h.q) (hq : ∀ h ∈ L, h.q ≤ 200) (hn : ∀ h ∈ L, h.n ≤ 10000000) (hlen : L.length ≤ 1000) :
    Calls Tryz.prog 98 #[.pointer (some ⟨BB, 0, none⟩)] w fun e w' => e = .returned (.bool true) ∧ Below w.heap.size w w' := by
  have HR := Lib.hid hr
  have HQ := Lib.hid hq
  have HNN := Lib.hid hn
  have HB := Lib.hid hB
  obtain ⟨A, cap, rfl⟩ := hB.slice
  have c0 := hB.1
  clear hr hq hn hB
  go_enter Tryz.func98, Tryz.ntmps98
  go_wp2_with fail
  go_loopw [3, 4, 5] (fun x _ _ wr => ∃ i : Nat, i ≤ L.length ∧ x = .int .i64 i ∧ Hid (Below w.heap.size w wr)) (fun x _ _ _ => L.length - (intOf x).toNat)
  case atStart => exact ⟨0, by omega, rfl, Below.refl _ _⟩
  case round =>
    obtain ⟨i, hi, rfl, HT⟩ := hrel
    have HTT := Lib.hid (Tch.of_below (X := fun _ => False) HT.out)
    have HBr := Lib.hid (HB.out.tch HTT.out (fun h => h) (fun _ _ h => h))
    have c0 := HBr.out.1
    by_cases him : i < L.length
    · obtain ⟨H, cap', e, h0, h1, h2⟩ := HBr.out.at_ him
      obtain ⟨rfl, rfl⟩ : A = some ⟨H, 0, none⟩ ∧ cap = cap' := by simpa using e
      have i1 : (0 : Int) ≤ (i : Int) := by omega
      have i2 : (i : Int) < (L.length : Int) := by omega
      obtain ⟨r1, r2⟩ := HR.out _ (List.getElem_mem him)
      have hq200 := HQ.out _ (List.getElem_mem him)
      have hn7 := HNN.out _ (List.getElem_mem him)
      generalize L[i] = hl at h0 h1 h2 r1 r2 hq200 hn7
      obtain ⟨lv, lg, ni, qi⟩ := hl
      simp only at h0 h1 h2 r1 r2 hq200 hn7
      obtain ⟨Av, cv, rfl, k1⟩ := r1
      obtain ⟨Ag, cg, rfl, k2⟩ := r2
      have HK1 := Lib.hid k1
      have HK2 := Lib.hid k2
      have dn : (((ni + 40 : Nat) : Int) != (ni : Int) + 40) = false := by simp
      clear e k1 k2
      go_wp2_with fail
      obtain ⟨O, hO⟩ : ∃ O, O = wr.heap.size := ⟨_, rfl⟩
      have t3 := three_at wr (.slice Av ni cv) (.slice Ag (ni + 40) cg) (.int .i64 (qi : Int)) 151
      have hba := below_alloc wr (.cells #[.slice Av ni cv, .slice Ag (ni + 40) cg, .int .i64 (qi : Int)] 151)
      have HT1 := Lib.hid (below_on HT.out hba)
      rw [← hO] at t3
      rw [← hO]
      clear hO hba HBr c0 h0 h1 h2 HTT HT
      generalize wr.alloc (.cells #[.slice Av ni cv, .slice Ag (ni + 40) cg, .int .i64 (qi : Int)] 151) = w1 at *
      have HT3 := Lib.hid t3
      clear t3
      go_loopw [5] (fun x wr => ∃ k : Nat, k ≤ ni + 40 ∧ x = .int .i64 k ∧ Hid (Below w1.heap.size w1 wr)) (fun x _ => ni + 40 - (intOf x).toNat)
      case atStart => exact ⟨0, by omega, rfl, Below.refl _ _⟩
      case round =>
        obtain ⟨k, hk, rfl, HTk⟩ := hrel
        have d0 := HTk.out.cell (p := ⟨O, 0, none⟩) (World.block_lt_of_cell? _ _ HT3.out.1)
        rw [HT3.out.1] at d0
        have d1 := HTk.out.cell (p := ⟨O, 1, none⟩) (World.block_lt_of_cell? _ _ HT3.out.2.1)
        rw [HT3.out.2.1] at d1
        have d2 := HTk.out.cell (p := ⟨O, 2, none⟩) (World.block_lt_of_cell? _ _ HT3.out.2.2)
        rw [HT3.out.2.2] at d2
        by_cases hk40 : k < ni + 40
        · obtain ⟨gg, rfl, hc2⟩ := HK2.out (by omega)
          obtain ⟨u, hu, rfl⟩ := hc2 k hk40
          have cg0 := (HT1.out.trans (HTk.out.mono HT1.out.size)).cell (p := ⟨gg, k, none⟩) (World.block_lt_of_cell? _ _ hu)
          rw [hu] at cg0
          have j1 : (0 : Int) ≤ (k : Int) := by omega
          have j2 : (k : Int) < ((ni + 40 : Nat) : Int) := by omega
          have HU := Lib.hid hu
          clear hc2 hu
          by_cases hkn : k < ni
          · obtain ⟨gv, rfl, hc1⟩ := HK1.out (by omega)
            obtain ⟨u1, hu1, rfl⟩ := hc1 k hkn
            have cv0 := (HT1.out.trans (HTk.out.mono HT1.out.size)).cell (p := ⟨gv, k, none⟩) (World.block_lt_of_cell? _ _ hu1)
            rw [hu1] at cv0
            have j3 : (k : Int) < (ni : Int) := by omega
            unfold mk at cg0 cv0
            clear hc1 hu1
            go_upto_region 10 with fail
            refine wp_region_held (S := fun W => Below wr.heap.size wr W) (by kernel_rfl) ?_
            generalize hA0 : Act.mk _ _ = a0
            have hF := Fr.nil (n := 64) (a := a0) (by rw [← hA0]; rfl)
            replace hF := Fr.cons hF 5 (.int .i64 (k : Int)) (by rw [← hA0]; rfl)
            replace hF := Fr.cons hF 4 (.pointer (some ⟨O, 0, none⟩)) (by rw [← hA0]; rfl)
            have hS : Below wr.heap.size wr (World.drew _) := (Below.refl _ wr).drew
            change wpAnyH _ _ _ _ _ _ _ _ (World.drew _)
            refine tk (i := 0) (d := 37) (v := .pointer (some ⟨O, 1, none⟩)) hF rfl rfl (by kernel_rfl) (by kernel_rfl) (by kernel_rfl) (fun _ _ _ h => h) (yi_go rfl (fun W hW => by have f4 := fr_at hF 0 rfl; go_simp)) hS rfl (by decide) (fun a1 hA1 hF' => ?_)
            replace hF := hF'; clear hF'
            refine tk (i := 1) (d := 38) (v := .slice (some ⟨gg, 0, none⟩) (ni + 40) cg) hF rfl rfl (by kernel_rfl) (by kernel_rfl) (by kernel_rfl) (fun _ _ _ h => h) (yi_go rfl (fun W hW => by replace d1 := (hW.cell (p := ⟨O, 1, none⟩) (World.block_lt_of_cell? _ _ d1)).trans d1; have f37 := fr_at hF 0 rfl; go_simp)) hS rfl (by decide) (fun a2 hA2 hF' => ?_)
            replace hF := hF'; clear hF'
            refine tk (i := 2) (d := 39) (v := .int .i64 (k : Int)) hF rfl rfl (by kernel_rfl) (by kernel_rfl) (by kernel_rfl) (fun _ _ _ h => h) (yi_go rfl (fun W hW => ex_move W rfl (fr_at hF 3 rfl))) hS rfl (by decide) (fun a3 hA3 hF' => ?_)
            replace hF := hF'; clear hF'
            refine tk (i := 3) (d := 40) (v := .pointer (some ⟨gg, k, none⟩)) hF rfl rfl (by kernel_rfl) (by kernel_rfl) (by kernel_rfl) (fun _ _ _ h => h) (yi_go rfl (fun W hW => by have f38 := fr_at hF 1 rfl; have f39 := fr_at hF 0 rfl; go_simp)) hS rfl (by decide) (fun a4 hA4 hF' => ?_)
            replace hF := hF'; clear hF'
            refine tk (i := 4) (d := 41) (v := .int .u64 (qi : Int)) hF rfl rfl (by kernel_rfl) (by kernel_rfl) (by kernel_rfl) (fun _ _ _ h => h) (yi_go rfl (fun W hW => by replace cg0 := (hW.cell (p := ⟨gg, k, none⟩) (World.block_lt_of_cell? _ _ cg0)).trans cg0; have f40 := fr_at hF 0 rfl; go_simp)) hS rfl (by decide) (fun a5 hA5 hF' => ?_)
            replace hF := hF'; clear hF'
            refine tk (i := 5) (d := 42) (v := .pointer (some ⟨O, 2, none⟩)) hF rfl rfl (by kernel_rfl) (by kernel_rfl) (by kernel_rfl) (fun _ _ _ h => h) (yi_go rfl (fun W hW => by have f4 := fr_at hF 5 rfl; go_simp)) hS rfl (by decide) (fun a6 hA6 hF' => ?_)
            replace hF := hF'; clear hF'
            refine tk (i := 6) (d := 43) (v := .int .i64 (qi : Int)) hF rfl rfl (by kernel_rfl) (by kernel_rfl) (by kernel_rfl) (fun _ _ _ h => h) (yi_go rfl (fun W hW => by replace d2 := (hW.cell (p := ⟨O, 2, none⟩) (World.block_lt_of_cell? _ _ d2)).trans d2; have f42 := fr_at hF 0 rfl; go_simp)) hS rfl (by decide) (fun a7 hA7 hF' => ?_)
            replace hF := hF'; clear hF'
            refine wpAnyH_ready (rs := [7]) (by kernel_rfl) (by simp) ?_
            refine AllReadyH.cons rfl (fun K hK => ?_) AllReadyH.nil
            have f41 := fr_at hF 2 rfl
            have f43 := fr_at hF 0 rfl
            go_simp
            clear f41 f43
            go_at_call 151
            refine (is_any qi hq200 _).mono ?_
            rintro e wa ⟨rfl, rfl⟩
            go_wp2_with fail
            refine hK.out _ _ (hS) (fun _ => ?_)
            replace hS := hS
            clear hK K
            change wpAnyH _ _ _ _ _ _ _ (a7.put (some 44) (.bool true)) _
            have hF' := fr_put hF 44 (.bool true) rfl (by decide)
            generalize hA8 : Act.put a7 (some 44) (.bool true) = a8 at hF' ⊢
            replace hF := hF'; clear hF'
            refine tk (i := 8) (d := 45) (v := .bool false) hF rfl rfl (by kernel_rfl) (by kernel_rfl) (by kernel_rfl) (fun _ _ _ h => h) (yi_go rfl (fun W hW => by have f44 := fr_at hF 0 rfl; go_simp)) hS rfl (by decide) (fun a9 hA9 hF' => ?_)
            replace hF := hF'; clear hF'
            refine tk (i := 9) (d := 46) (v := .bool false) hF rfl rfl (by kernel_rfl) (by kernel_rfl) (by kernel_rfl) (fun _ _ _ h => h) (yi_go rfl (fun W hW => ex_move W rfl (fr_at hF 0 rfl))) hS rfl (by decide) (fun a10 hA10 hF' => ?_)
            replace hF := hF'; clear hF'
            refine tk (i := 10) (d := 47) (v := .int .i64 (k : Int)) hF rfl rfl (by kernel_rfl) (by kernel_rfl) (by kernel_rfl) (fun _ _ _ h => h) (yi_want rfl rfl (fr_at hF 0 rfl) (fun W hW => ex_move W rfl (fr_at hF 11 rfl))) hS rfl (by decide) (fun a11 hA11 hF' => ?_)
            replace hF := hF'; clear hF'
            refine tk (i := 11) (d := 48) (v := .pointer (some ⟨O, 0, none⟩)) hF rfl rfl (by kernel_rfl) (by kernel_rfl) (by kernel_rfl) (fun _ _ _ h => h) (yi_want rfl rfl (fr_at hF 1 rfl) (fun W hW => by have f4 := fr_at hF 11 rfl; go_simp)) hS rfl (by decide) (fun a12 hA12 hF' => ?_)
            replace hF := hF'; clear hF'
            refine tk (i := 12) (d := 49) (v := .slice (some ⟨gv, 0, none⟩) ni cv) hF rfl rfl (by kernel_rfl) (by kernel_rfl) (by kernel_rfl) (fun _ _ _ h => h) (yi_want rfl rfl (fr_at hF 2 rfl) (fun W hW => by replace d0 := (hW.cell (p := ⟨O, 0, none⟩) (World.block_lt_of_cell? _ _ d0)).trans d0; have f48 := fr_at hF 0 rfl; go_simp)) hS rfl (by decide) (fun a13 hA13 hF' => ?_)
            replace hF := hF'; clear hF'
            refine tk (i := 13) (d := 50) (v := .int .i64 (ni : Int)) hF rfl rfl (by kernel_rfl) (by kernel_rfl) (by kernel_rfl) (fun _ _ _ h => h) (yi_want rfl rfl (fr_at hF 3 rfl) (fun W hW => by have f49 := fr_at hF 0 rfl; go_simp)) hS rfl (by decide) (fun a14 hA14 hF' => ?_)
            replace hF := hF'; clear hF'
            refine tk (i := 14) (d := 51) (v := .bool true) hF rfl rfl (by kernel_rfl) (by kernel_rfl) (by kernel_rfl) (fun _ _ _ h => h) (yi_want rfl rfl (fr_at hF 4 rfl) (fun W hW => by have f47 := fr_at hF 3 rfl; have f50 := fr_at hF 0 rfl; go_simp)) hS rfl (by decide) (fun a15 hA15 hF' => ?_)
            replace hF := hF'; clear hF'
            refine tk (i := 15) (d := 52) (v := .bool true) hF rfl rfl (by kernel_rfl) (by kernel_rfl) (by kernel_rfl) (fun _ _ _ h => h) (yi_want rfl rfl (fr_at hF 5 rfl) (fun W hW => ex_move W rfl (fr_at hF 0 rfl))) hS rfl (by decide) (fun a16 hA16 hF' => ?_)
            replace hF := hF'; clear hF'
            refine tk (i := 16) (d := 53) (v := .pointer (some ⟨O, 0, none⟩)) hF rfl rfl (by kernel_rfl) (by kernel_rfl) (by kernel_rfl) (fun _ _ _ h => h) (yi_want rfl rfl (fr_at hF 0 rfl) (fun W hW => by have f4 := fr_at hF 16 rfl; go_simp)) hS rfl (by decide) (fun a17 hA17 hF' => ?_)
            replace hF := hF'; clear hF'
            refine tk (i := 17) (d := 54) (v := .slice (some ⟨gv, 0, none⟩) ni cv) hF rfl rfl (by kernel_rfl) (by kernel_rfl) (by kernel_rfl) (fun _ _ _ h => h) (yi_want rfl rfl (fr_at hF 1 rfl) (fun W hW => by replace d0 := (hW.cell (p := ⟨O, 0, none⟩) (World.block_lt_of_cell? _ _ d0)).trans d0; have f53 := fr_at hF 0 rfl; go_simp)) hS rfl (by decide) (fun a18 hA18 hF' => ?_)
            replace hF := hF'; clear hF'
            refine tk (i := 18) (d := 55) (v := .int .i64 (k : Int)) hF rfl rfl (by kernel_rfl) (by kernel_rfl) (by kernel_rfl) (fun _ _ _ h => h) (yi_want rfl rfl (fr_at hF 2 rfl) (fun W hW => ex_move W rfl (fr_at hF 19 rfl))) hS rfl (by decide) (fun a19 hA19 hF' => ?_)
            replace hF := hF'; clear hF'
            refine tk (i := 19) (d := 56) (v := .pointer (some ⟨gv, k, none⟩)) hF rfl rfl (by kernel_rfl) (by kernel_rfl) (by kernel_rfl) (fun _ _ _ h => h) (yi_want rfl rfl (fr_at hF 3 rfl) (fun W hW => by have f54 := fr_at hF 1 rfl; have f55 := fr_at hF 0 rfl; go_simp)) hS rfl (by decide) (fun a20 hA20 hF' => ?_)
            replace hF := hF'; clear hF'
            refine tk (i := 20) (d := 57) (v := .int .u64 (qi : Int)) hF rfl rfl (by kernel_rfl) (by kernel_rfl) (by kernel_rfl) (fun _ _ _ h => h) (yi_want rfl rfl (fr_at hF 4 rfl) (fun W hW => by replace cv0 := (hW.cell (p := ⟨gv, k, none⟩) (World.block_lt_of_cell? _ _ cv0)).trans cv0; have f56 := fr_at hF 0 rfl; go_simp)) hS rfl (by decide) (fun a21 hA21 hF' => ?_)
            replace hF := hF'; clear hF'
            refine tk (i := 21) (d := 58) (v := .pointer (some ⟨O, 2, none⟩)) hF rfl rfl (by kernel_rfl) (by kernel_rfl) (by kernel_rfl) (fun _ _ _ h => h) (yi_want rfl rfl (fr_at hF 5 rfl) (fun W hW => by have f4 := fr_at hF 21 rfl; go_simp)) hS rfl (by decide) (fun a22 hA22 hF' => ?_)
            replace hF := hF'; clear hF'
            refine tk (i := 22) (d := 59) (v := .int .i64 (qi : Int)) hF rfl rfl (by kernel_rfl) (by kernel_rfl) (by kernel_rfl) (fun _ _ _ h => h) (yi_want rfl rfl (fr_at hF 6 rfl) (fun W hW => by replace d2 := (hW.cell (p := ⟨O, 2, none⟩) (World.block_lt_of_cell? _ _ d2)).trans d2; have f58 := fr_at hF 0 rfl; go_simp)) hS rfl (by decide) (fun a23 hA23 hF' => ?_)
            replace hF := hF'; clear hF'
            refine wpAnyH_ready (rs := [23]) (by kernel_rfl) (by simp) ?_
            refine AllReadyH.cons rfl (fun K hK => ?_) AllReadyH.nil
            rw [if_pos (by rw [guard_at rfl rfl (fr_at hF 7 rfl)]; rfl)]
            have f57 := fr_at hF 2 rfl
            have f59 := fr_at hF 0 rfl
            go_simp
            clear f57 f59
            go_at_call 151
            refine (is_any qi hq200 _).mono ?_
            rintro e wb ⟨rfl, rfl⟩
            go_wp2_with fail
            refine hK.out _ _ (hS) (fun _ => ?_)
            replace hS := hS
            clear hK K
            change wpAnyH _ _ _ _ _ _ _ (a23.put (some 60) (.bool true)) _
            have hF' := fr_put hF 60 (.bool true) rfl (by decide)
            generalize hA24 : Act.put a23 (some 60) (.bool true) = a24 at hF' ⊢
            replace hF := hF'; clear hF'
            refine tk (i := 24) (d := 61) (v := .bool false) hF rfl rfl (by kernel_rfl) (by kernel_rfl) (by kernel_rfl) (fun _ _ _ h => h) (yi_want rfl rfl (fr_at hF 8 rfl) (fun W hW => by have f60 := fr_at hF 0 rfl; go_simp)) hS rfl (by decide) (fun a25 hA25 hF' => ?_)
            replace hF := hF'; clear hF'
            refine tk (i := 25) (d := 62) (v := .bool false) hF rfl rfl (by kernel_rfl) (by kernel_rfl) (by kernel_rfl) (fun _ _ _ h => h) (yi_want rfl rfl (fr_at hF 15 rfl) (fun W hW => by have f52 := fr_at hF 9 rfl; have f61 := fr_at hF 0 rfl; go_simp)) hS rfl (by decide) (fun a26 hA26 hF' => ?_)
            replace hF := hF'; clear hF'
            refine tk (i := 26) (d := 63) (v := .bool false) hF rfl rfl (by kernel_rfl) (by kernel_rfl) (by kernel_rfl) (fun _ _ _ h => h) (yi_go rfl (fun W hW => by have f46 := fr_at hF 16 rfl; have f62 := fr_at hF 0 rfl; go_simp)) hS rfl (by decide) (fun a27 hA27 hF' => ?_)
            replace hF := hF'; clear hF'
            refine wpAnyH_done (by kernel_rfl) ?_ _
            rw [← hA27, ← hA26, ← hA25, ← hA24, ← hA23, ← hA22, ← hA21, ← hA20, ← hA19, ← hA18, ← hA17, ← hA16, ← hA15, ← hA14, ← hA13, ← hA12, ← hA11, ← hA10, ← hA9, ← hA8, ← hA7, ← hA6, ← hA5, ← hA4, ← hA3, ← hA2, ← hA1, ← hA0]
            simp only [Act.put, List.setIfInBounds_toArray, List.set_cons_zero, List.set_cons_succ]
            clear hF
            have HS := Lib.hid (below_on HTk.out hS)
            clear hS
            go_wp2_with fail
            go_roundw
            case rel => exact ⟨k + 1, by omega, by go_num, HS.out⟩
            case measure => simp [intOf]; omega
          · have dk : decide ((k : Int) < (ni : Int)) = false := by simp; omega
            have dk2 : decide (k < ni) = false := by simp; omega
            unfold mk at cg0
            go_upto_region 10 with fail
            refine wp_region_held (S := fun W => Below wr.heap.size wr W) (by kernel_rfl) ?_
            generalize hA0 : Act.mk _ _ = a0
            have hF := Fr.nil (n := 64) (a := a0) (by rw [← hA0]; rfl)
            replace hF := Fr.cons hF 5 (.int .i64 (k : Int)) (by rw [← hA0]; rfl)
            replace hF := Fr.cons hF 4 (.pointer (some ⟨O, 0, none⟩)) (by rw [← hA0]; rfl)
            have hS : Below wr.heap.size wr (World.drew _) := (Below.refl _ wr).drew
            change wpAnyH _ _ _ _ _ _ _ _ (World.drew _)
            refine tk (i := 0) (d := 37) (v := .pointer (some ⟨O, 1, none⟩)) hF rfl rfl (by kernel_rfl) (by kernel_rfl) (by kernel_rfl) (fun _ _ _ h => h) (yi_go rfl (fun W hW => by have f4 := fr_at hF 0 rfl; go_simp)) hS rfl (by decide) (fun a1 hA1 hF' => ?_)
            replace hF := hF'; clear hF'
            refine tk (i := 1) (d := 38) (v := .slice (some ⟨gg, 0, none⟩) (ni + 40) cg) hF rfl rfl (by kernel_rfl) (by kernel_rfl) (by kernel_rfl) (fun _ _ _ h => h) (yi_go rfl (fun W hW => by replace d1 := (hW.cell (p := ⟨O, 1, none⟩) (World.block_lt_of_cell? _ _ d1)).trans d1; have f37 := fr_at hF 0 rfl; go_simp)) hS rfl (by decide) (fun a2 hA2 hF' => ?_)
            replace hF := hF'; clear hF'
            refine tk (i := 2) (d := 39) (v := .int .i64 (k : Int)) hF rfl rfl (by kernel_rfl) (by kernel_rfl) (by kernel_rfl) (fun _ _ _ h => h) (yi_go rfl (fun W hW => ex_move W rfl (fr_at hF 3 rfl))) hS rfl (by decide) (fun a3 hA3 hF' => ?_)
            replace hF := hF'; clear hF'
            refine tk (i := 3) (d := 40) (v := .pointer (some ⟨gg, k, none⟩)) hF rfl rfl (by kernel_rfl) (by kernel_rfl) (by kernel_rfl) (fun _ _ _ h => h) (yi_go rfl (fun W hW => by have f38 := fr_at hF 1 rfl; have f39 := fr_at hF 0 rfl; go_simp)) hS rfl (by decide) (fun a4 hA4 hF' => ?_)
            replace hF := hF'; clear hF'
            refine tk (i := 4) (d := 41) (v := .int .u64 (qi : Int)) hF rfl rfl (by kernel_rfl) (by kernel_rfl) (by kernel_rfl) (fun _ _ _ h => h) (yi_go rfl (fun W hW => by replace cg0 := (hW.cell (p := ⟨gg, k, none⟩) (World.block_lt_of_cell? _ _ cg0)).trans cg0; have f40 := fr_at hF 0 rfl; go_simp)) hS rfl (by decide) (fun a5 hA5 hF' => ?_)
            replace hF := hF'; clear hF'
            refine tk (i := 5) (d := 42) (v := .pointer (some ⟨O, 2, none⟩)) hF rfl rfl (by kernel_rfl) (by kernel_rfl) (by kernel_rfl) (fun _ _ _ h => h) (yi_go rfl (fun W hW => by have f4 := fr_at hF 5 rfl; go_simp)) hS rfl (by decide) (fun a6 hA6 hF' => ?_)
            replace hF := hF'; clear hF'
            refine tk (i := 6) (d := 43) (v := .int .i64 (qi : Int)) hF rfl rfl (by kernel_rfl) (by kernel_rfl) (by kernel_rfl) (fun _ _ _ h => h) (yi_go rfl (fun W hW => by replace d2 := (hW.cell (p := ⟨O, 2, none⟩) (World.block_lt_of_cell? _ _ d2)).trans d2; have f42 := fr_at hF 0 rfl; go_simp)) hS rfl (by decide) (fun a7 hA7 hF' => ?_)
            replace hF := hF'; clear hF'
            refine wpAnyH_ready (rs := [7]) (by kernel_rfl) (by simp) ?_
            refine AllReadyH.cons rfl (fun K hK => ?_) AllReadyH.nil
            have f41 := fr_at hF 2 rfl
            have f43 := fr_at hF 0 rfl
            go_simp
            clear f41 f43
            go_at_call 151
            refine (is_any qi hq200 _).mono ?_
            rintro e wa ⟨rfl, rfl⟩
            go_wp2_with fail
            refine hK.out _ _ (hS) (fun _ => ?_)
            replace hS := hS
            clear hK K
            change wpAnyH _ _ _ _ _ _ _ (a7.put (some 44) (.bool true)) _
            have hF' := fr_put hF 44 (.bool true) rfl (by decide)
            generalize hA8 : Act.put a7 (some 44) (.bool true) = a8 at hF' ⊢
            replace hF := hF'; clear hF'
            refine tk (i := 8) (d := 45) (v := .bool false) hF rfl rfl (by kernel_rfl) (by kernel_rfl) (by kernel_rfl) (fun _ _ _ h => h) (yi_go rfl (fun W hW => by have f44 := fr_at hF 0 rfl; go_simp)) hS rfl (by decide) (fun a9 hA9 hF' => ?_)
            replace hF := hF'; clear hF'
            refine tk (i := 9) (d := 46) (v := .bool false) hF rfl rfl (by kernel_rfl) (by kernel_rfl) (by kernel_rfl) (fun _ _ _ h => h) (yi_go rfl (fun W hW => ex_move W rfl (fr_at hF 0 rfl))) hS rfl (by decide) (fun a10 hA10 hF' => ?_)
            replace hF := hF'; clear hF'
            refine tk (i := 10) (d := 47) (v := .int .i64 (k : Int)) hF rfl rfl (by kernel_rfl) (by kernel_rfl) (by kernel_rfl) (fun _ _ _ h => h) (yi_want rfl rfl (fr_at hF 0 rfl) (fun W hW => ex_move W rfl (fr_at hF 11 rfl))) hS rfl (by decide) (fun a11 hA11 hF' => ?_)
            replace hF := hF'; clear hF'
            refine tk (i := 11) (d := 48) (v := .pointer (some ⟨O, 0, none⟩)) hF rfl rfl (by kernel_rfl) (by kernel_rfl) (by kernel_rfl) (fun _ _ _ h => h) (yi_want rfl rfl (fr_at hF 1 rfl) (fun W hW => by have f4 := fr_at hF 11 rfl; go_simp)) hS rfl (by decide) (fun a12 hA12 hF' => ?_)
            replace hF := hF'; clear hF'
            refine tk (i := 12) (d := 49) (v := .slice Av ni cv) hF rfl rfl (by kernel_rfl) (by kernel_rfl) (by kernel_rfl) (fun _ _ _ h => h) (yi_want rfl rfl (fr_at hF 2 rfl) (fun W hW => by replace d0 := (hW.cell (p := ⟨O, 0, none⟩) (World.block_lt_of_cell? _ _ d0)).trans d0; have f48 := fr_at hF 0 rfl; go_simp)) hS rfl (by decide) (fun a13 hA13 hF' => ?_)
            replace hF := hF'; clear hF'
            refine tk (i := 13) (d := 50) (v := .int .i64 (ni : Int)) hF rfl rfl (by kernel_rfl) (by kernel_rfl) (by kernel_rfl) (fun _ _ _ h => h) (yi_want rfl rfl (fr_at hF 3 rfl) (fun W hW => by have f49 := fr_at hF 0 rfl; go_simp)) hS rfl (by decide) (fun a14 hA14 hF' => ?_)
            replace hF := hF'; clear hF'
            refine tk (i := 14) (d := 51) (v := .bool false) hF rfl rfl (by kernel_rfl) (by kernel_rfl) (by kernel_rfl) (fun _ _ _ h => h) (yi_want rfl rfl (fr_at hF 4 rfl) (fun W hW => by have f47 := fr_at hF 3 rfl; have f50 := fr_at hF 0 rfl; go_simp)) hS rfl (by decide) (fun a15 hA15 hF' => ?_)
            replace hF := hF'; clear hF'
            refine tk (i := 15) (d := 52) (v := .bool false) hF rfl rfl (by kernel_rfl) (by kernel_rfl) (by kernel_rfl) (fun _ _ _ h => h) (yi_want rfl rfl (fr_at hF 5 rfl) (fun W hW => ex_move W rfl (fr_at hF 0 rfl))) hS rfl (by decide) (fun a16 hA16 hF' => ?_)
            replace hF := hF'; clear hF'
            refine tk (i := 16) (d := 53) (v := undef) hF rfl rfl (by kernel_rfl) (by kernel_rfl) (by kernel_rfl) (fun _ _ _ h => h) (yi_skip rfl rfl (fr_at hF 0 rfl)) hS rfl (by decide) (fun a17 hA17 hF' => ?_)
            replace hF := hF'; clear hF'
            refine tk (i := 17) (d := 54) (v := undef) hF rfl rfl (by kernel_rfl) (by kernel_rfl) (by kernel_rfl) (fun _ _ _ h => h) (yi_skip rfl rfl (fr_at hF 1 rfl)) hS rfl (by decide) (fun a18 hA18 hF' => ?_)
            replace hF := hF'; clear hF'
            refine tk (i := 18) (d := 55) (v := undef) hF rfl rfl (by kernel_rfl) (by kernel_rfl) (by kernel_rfl) (fun _ _ _ h => h) (yi_skip rfl rfl (fr_at hF 2 rfl)) hS rfl (by decide) (fun a19 hA19 hF' => ?_)
            replace hF := hF'; clear hF'
            refine tk (i := 19) (d := 56) (v := undef) hF rfl rfl (by kernel_rfl) (by kernel_rfl) (by kernel_rfl) (fun _ _ _ h => h) (yi_skip rfl rfl (fr_at hF 3 rfl)) hS rfl (by decide) (fun a20 hA20 hF' => ?_)
            replace hF := hF'; clear hF'
            refine tk (i := 20) (d := 57) (v := undef) hF rfl rfl (by kernel_rfl) (by kernel_rfl) (by kernel_rfl) (fun _ _ _ h => h) (yi_skip rfl rfl (fr_at hF 4 rfl)) hS rfl (by decide) (fun a21 hA21 hF' => ?_)
            replace hF := hF'; clear hF'
            refine tk (i := 21) (d := 58) (v := undef) hF rfl rfl (by kernel_rfl) (by kernel_rfl) (by kernel_rfl) (fun _ _ _ h => h) (yi_skip rfl rfl (fr_at hF 5 rfl)) hS rfl (by decide) (fun a22 hA22 hF' => ?_)
            replace hF := hF'; clear hF'
            refine tk (i := 22) (d := 59) (v := undef) hF rfl rfl (by kernel_rfl) (by kernel_rfl) (by kernel_rfl) (fun _ _ _ h => h) (yi_skip rfl rfl (fr_at hF 6 rfl)) hS rfl (by decide) (fun a23 hA23 hF' => ?_)
            replace hF := hF'; clear hF'
            refine tk (i := 23) (d := 60) (v := undef) hF rfl rfl (by kernel_rfl) (by kernel_rfl) (by kernel_rfl) (fun _ _ _ h => h) (yi_skip rfl rfl (fr_at hF 7 rfl)) hS rfl (by decide) (fun a24 hA24 hF' => ?_)
            replace hF := hF'; clear hF'
            refine tk (i := 24) (d := 61) (v := undef) hF rfl rfl (by kernel_rfl) (by kernel_rfl) (by kernel_rfl) (fun _ _ _ h => h) (yi_skip rfl rfl (fr_at hF 8 rfl)) hS rfl (by decide) (fun a25 hA25 hF' => ?_)
            replace hF := hF'; clear hF'
            refine tk (i := 25) (d := 62) (v := .bool false) hF rfl rfl (by kernel_rfl) (by kernel_rfl) (by kernel_rfl) (fun _ _ _ h => h) (yi_want rfl rfl (fr_at hF 15 rfl) (fun W hW => by have f52 := fr_at hF 9 rfl; have f61 := fr_at hF 0 rfl; go_simp)) hS rfl (by decide) (fun a26 hA26 hF' => ?_)
            replace hF := hF'; clear hF'
            refine tk (i := 26) (d := 63) (v := .bool false) hF rfl rfl (by kernel_rfl) (by kernel_rfl) (by kernel_rfl) (fun _ _ _ h => h) (yi_go rfl (fun W hW => by have f46 := fr_at hF 16 rfl; have f62 := fr_at hF 0 rfl; go_simp)) hS rfl (by decide) (fun a27 hA27 hF' => ?_)
            replace hF := hF'; clear hF'
            refine wpAnyH_done (by kernel_rfl) ?_ _
            rw [← hA27, ← hA26, ← hA25, ← hA24, ← hA23, ← hA22, ← hA21, ← hA20, ← hA19, ← hA18, ← hA17, ← hA16, ← hA15, ← hA14, ← hA13, ← hA12, ← hA11, ← hA10, ← hA9, ← hA8, ← hA7, ← hA6, ← hA5, ← hA4, ← hA3, ← hA2, ← hA1, ← hA0]
            simp only [Act.put, List.setIfInBounds_toArray, List.set_cons_zero, List.set_cons_succ]
            clear hF
            have HS := Lib.hid (below_on HTk.out hS)
            clear hS
            go_wp2_with fail
            go_roundw
            case rel => exact ⟨k + 1, by omega, by go_num, HS.out⟩
            case measure => simp [intOf]; omega
        · obtain rfl : k = ni + 40 := by omega
          have HT4 := Lib.hid (below_on HT1.out HTk.out)
          go_wp2_with fail
          go_roundw
          case rel => exact ⟨i + 1, by omega, by go_num, HT4.out⟩
          case measure => simp [intOf]; omega
    · obtain rfl : i = L.length := by omega
      go_wp2_with fail
      go_ret
      exact ⟨rfl, HT.out⟩
theorem infoH : (Tryz.prog.info? 151).map (fun i => (i.zero, i.size, i.bytes)) = some (some (.agg #[.slice none 0 0, .slice none 0 0, .int .i64 0]), 3, 56) := by kernel_rfl
set_option maxHeartbeats 4000000 in
theorem keep_any (w : World) (base BB : Nat) (F : Nat → Value) (vh : Value) (L : List HL) (A : Option Addr) (n c q : Nat) (hbk : w.rowIs BB 61 16 F) (h0 : F 0 = .int .i64 (q : Int)) (hf : F 4 = vh)
    (ho : w.ownsRow base 151 3 vh L.length (hcells L)) (hne : vh.ownBlock ≠ some BB) (hq : q ≤ 1000) (hlen : L.length ≤ 1000) (hbase : base ≤ w.heap.size) :
    Calls Tryz.prog 64 #[.pointer (some ⟨BB, 0, none⟩), .slice A n c] w fun e w' => e = .returned (.tuple #[]) ∧ Tch (fun k => k = BB ∨ vh.ownBlock = some k) w w' ∧ ∃ vh' F', w'.rowIs BB 61 16 F' ∧ F' 0 = .int .i64 ((q + 1 : Nat) : Int) ∧ F' 4 = vh' ∧ (∀ j, j ≠ 0 → j ≠ 4 → F' j = F j) ∧ w'.ownsRow base 151 3 vh' (L.length + 1) (hcells (L ++ [⟨.slice A n c, .slice none 0 0, n, q + 1⟩])) ∧ (vh'.ownBlock = vh.ownBlock ∨ ∃ b, vh'.ownBlock = some b ∧ w.heap.size ≤ b) := by
  have HBK := Lib.hid hbk
  have HO := Lib.hid ho
  have HNE := Lib.hid hne
  have HBS := Lib.hid hbase
  have HF0 := Lib.hid h0
  have HF1 := Lib.hid hf
  obtain ⟨Ah, ch, evh⟩ : ∃ Ah ch, vh = .slice Ah L.length ch := by
    obtain ⟨A, c, e, _⟩ := own_form ho
    exact ⟨A, c, e⟩
  subst evh
  have c0 := hbk.cell (i := 0) (by omega)
  rw [h0] at c0
  have f0 := hbk.frozen 0
  have hb1 := hbk.set 0 (.int .i64 ((q : Int) + 1))
  have t1 : Tch (fun k => k = BB) w (w.setCell ⟨BB, 0, none⟩ (.int .i64 ((q : Int) + 1))) := ⟨rfl, rfl, rfl, by simp [World.setCell], fun k hk hx => Go.Deep.blk_setCell_other _ _ _ _ hx⟩
  have ho1 := t1.own ho (fun k hk e => hne (by rw [hk, e]))
  clear hbk ho hne h0 hf hbase
  go_enter Tryz.func64, Tryz.ntmps64
  go_wp2_with fail
  have HT1 := Lib.hid t1
  have HBS1 := Lib.hid (Nat.le_trans HBS.out t1.size)
  have HB1 := Lib.hid hb1
  have HO1 := Lib.hid ho1
  clear hb1 t1 ho1 c0 f0
  generalize w.setCell ⟨BB, 0, none⟩ (.int .i64 ((q : Int) + 1)) = w1 at *
  have c0 := HB1.out.cell (i := 0) (by omega)
  have c1 := HB1.out.cell (i := 4) (by omega)
  try dsimp only at c0 c1
  rw [if_pos rfl] at c0
  rw [if_neg (by decide), HF1.out] at c1
  obtain ⟨g, hg⟩ : ∃ g, g = w1.heap.size := ⟨_, rfl⟩
  have t3 := three_at w1 (.slice A n c) (.slice none 0 0) (.int .i64 ((q : Int) + 1)) 151
  have hbx : Below w1.heap.size w1 (w1.alloc (.cells #[.slice A n c, .slice none 0 0, .int .i64 ((q : Int) + 1)] 151)).drew := Below.drew (below_alloc w1 (.cells #[.slice A n c, .slice none 0 0, .int .i64 ((q : Int) + 1)] 151))
  have HBX := Lib.hid hbx
  have HOW := Lib.hid ((Tch.of_below (X := fun _ => False) hbx).own HO1.out (fun _ _ h => h))
  have HN := Lib.hid (show ∀ j u, ([.slice A n c, .slice none 0 0, .int .i64 ((q : Int) + 1)] : List Value)[j]? = some u → (w1.alloc (.cells #[.slice A n c, .slice none 0 0, .int .i64 ((q : Int) + 1)] 151)).drew.cell? ⟨w1.heap.size, j, none⟩ = some u from fun j u hu => by
    match j, hu with
    | 0, hu => rw [← Option.some.inj hu]; exact t3.1
    | 1, hu => rw [← Option.some.inj hu]; exact t3.2.1
    | 2, hu => rw [← Option.some.inj hu]; exact t3.2.2)
  have HBW := Lib.hid (Nat.le_trans HBS1.out hbx.size)
  have HT2 := Lib.hid (show ∀ w3 v1 : _, ((Value.ownBlock v1 = (Value.slice Ah L.length ch).ownBlock ∧ Tch (fun k => (Value.slice Ah L.length ch).ownBlock = some k) (w1.alloc (.cells #[.slice A n c, .slice none 0 0, .int .i64 ((q : Int) + 1)] 151)).drew w3) ∨ (∃ b, Value.ownBlock v1 = some b ∧ (w1.alloc (.cells #[.slice A n c, .slice none 0 0, .int .i64 ((q : Int) + 1)] 151)).drew.heap.size ≤ b ∧ Tch (fun _ => False) (w1.alloc (.cells #[.slice A n c, .slice none 0 0, .int .i64 ((q : Int) + 1)] 151)).drew w3)) → Tch (fun k => (Value.slice Ah L.length ch).ownBlock = some k) w1 w3 from fun w3 v1 h => by
    rcases h with ⟨_, h⟩ | ⟨_, _, _, h⟩
    · exact (Tch.of_below HBX.out).trans h
    · exact (Tch.of_below HBX.out).trans (h.mono (fun _ _ h => h.elim)))
  have cx0 := (Tch.of_below (X := fun _ => False) (below_alloc w1 (.cells #[.slice A n c, .slice none 0 0, .int .i64 ((q : Int) + 1)] 151))).cell c0 (fun h => h)
  have cx1 := (Tch.of_below (X := fun _ => False) (below_alloc w1 (.cells #[.slice A n c, .slice none 0 0, .int .i64 ((q : Int) + 1)] 151))).cell c1 (fun h => h)
  clear t3 hbx hg g
  go_region_law (refine step_app1 base rfl (.tmp 15) (.tmp 22) 48 151 _ 3 56 rfl Tryz.underlying48 infoH rfl (by decide) (.slice Ah L.length ch) L.length (hcells L) rfl w1.heap.size 1 rfl HOW.out [.slice A n c, .slice none 0 0, .int .i64 ((q : Int) + 1)] rfl HN.out (by intro u hu; simp at hu; rcases hu with rfl | rfl | rfl <;> rfl) HBW.out (by omega) (by omega) ?_; intro v1 w3 ho1 hat1; have ht := HT2.out w3 v1 hat1; have hb3 := ht.row HB1.out HNE.out; have c3 := hb3.cell (i := 4) (by omega); have f3 := hb3.frozen 4; obtain ⟨A', c', rfl, _⟩ := own_form ho1; have HO3 := Lib.hid ho1; have HAT := Lib.hid hat1; have HT3 := Lib.hid ht; have HB3 := Lib.hid hb3; clear ho1 hat1 ht hb3)
  all_goals
    go_end0
    have hb4 := HB3.out.set 4 (.slice A' (L.length + 1) c')
    have t4 : Tch (fun k => k = BB) w3 (w3.setCell ⟨BB, 4, none⟩ (.slice A' (L.length + 1) c')) := ⟨rfl, rfl, rfl, by simp [World.setCell], fun k hk hx => Go.Deep.blk_setCell_other _ _ _ _ hx⟩
    have hsz : w.heap.size ≤ (w1.alloc (.cells #[.slice A n c, .slice none 0 0, .int .i64 ((q : Int) + 1)] 151)).drew.heap.size := Nat.le_trans HT1.out.size HBX.out.size
    refine ⟨rfl, ((HT1.out.mono (fun k _ h => .inl h)).trans (HT3.out.mono (fun k _ h => .inr h))).trans (t4.mono (fun _ _ h => .inl h)), .slice A' (L.length + 1) c', _, hb4, ?_, ?_, fun j h0 h1 => ?_, ?_, ?_⟩
    · simp
    · simp
    · show (if j = 4 then _ else if j = 0 then _ else F j) = F j
      rw [if_neg h1, if_neg h0]
    · refine t4.own ?_ (fun k hk e => ?_)
      · rw [hcells_append, show hcells [(⟨.slice A n c, .slice none 0 0, n, q + 1⟩ : HL)] = [.slice A n c, .slice none 0 0, .int .i64 ((q : Int) + 1)] by simp [hcells, HL.cells]]
        exact HO3.out
      · subst e
        rcases HAT.out with ⟨e, _⟩ | ⟨b, e, hb, _⟩
        · exact HNE.out (by rw [← e]; exact hk)
        · have hk' : (Value.slice A' (L.length + 1) c').ownBlock = some k := hk
          rw [e] at hk'
          injection hk' with hk'
          have := HBK.out.lt
          omega
    · rcases HAT.out with ⟨e, _⟩ | ⟨b, e, hb, _⟩
      · exact .inl e
      · exact .inr ⟨b, e, Nat.le_trans hsz hb⟩
end Go.Proofs.YtajilghlcfheiaaGreatDoor.KNum
