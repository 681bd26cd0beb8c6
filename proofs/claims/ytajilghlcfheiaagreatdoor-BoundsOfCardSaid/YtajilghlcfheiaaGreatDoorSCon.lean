/- The constants of bounds: the document's constants. -/
import Derived.Test.YtajilghlcfheiaaGreatDoorSFrom
import Derived.Deep.Cut
import Derived.Deep.CutRange
namespace Go.Proofs.YtajilghlcfheiaaGreatDoor.Trm
open Go.RowKit Go.Proofs.YtajilghlcfheiaaGreatDoorW.PrintWords
open Rea (Bd Bds on)
set_option maxRecDepth 100000
def ends (L : List Bd) : List Tm := L.flatMap fun b => [(b.av, b.an), (b.bv, b.bn)]
theorem ends_next {L : List Bd} {k : Nat} (hk : k < L.length) : ends (L.take (k + 1)) = ends (L.take k) ++ [(L[k].av, L[k].an)] ++ [(L[k].bv, L[k].bn)] := by
  unfold ends
  rw [List.take_add_one, List.getElem?_eq_getElem hk, List.flatMap_append]
  simp
theorem ends_length (L : List Bd) : (ends L).length = 2 * L.length := by
  induction L with
  | nil => rfl
  | cons b L ih => simp [ends] at ih ⊢; omega
/-- the constants among these terms, each once. -/
def Cs (E T : List Tm) : Prop := (∀ u, u ∈ T ↔ u.1 = false ∧ u ∈ E) ∧ T.length ≤ E.length
theorem Cs.var {E T : List Tm} (h : Cs E T) {x : Nat} : Cs (E ++ [(true, x)]) T := by
  refine ⟨fun u => ?_, by rw [List.length_append]; have := h.2; omega⟩
  rw [h.1 u, List.mem_append, List.mem_singleton]
  exact ⟨fun k => ⟨k.1, .inl k.2⟩, fun k => ⟨k.1, k.2.resolve_right (fun e => by have := k.1; rw [e] at this; cases this)⟩⟩
theorem Cs.old {E T : List Tm} (h : Cs E T) {t : Tm} (ht : t ∈ T) : Cs (E ++ [t]) T := by
  refine ⟨fun u => ?_, by rw [List.length_append]; have := h.2; omega⟩
  rw [h.1 u, List.mem_append, List.mem_singleton]
  refine ⟨fun k => ⟨k.1, .inl k.2⟩, fun k => ⟨k.1, k.2.elim id (fun e => ?_)⟩⟩
  rw [e]
  exact ((h.1 t).1 ht).2
theorem Cs.add {E T : List Tm} (h : Cs E T) {x : Nat} : Cs (E ++ [(false, x)]) (T ++ [(false, x)]) := by
  refine ⟨fun u => ?_, by rw [List.length_append, List.length_append]; have := h.2; simp; omega⟩
  rw [List.mem_append, h.1 u, List.mem_append, List.mem_singleton]
  refine ⟨fun k => ?_, fun k => ?_⟩
  · rcases k with k | rfl
    · exact ⟨k.1, .inl k.2⟩
    · exact ⟨rfl, .inr rfl⟩
  · rcases k.2 with k2 | k2
    · exact .inl ⟨k.1, k2⟩
    · exact .inr k2
theorem Cs.step_no {E T : List Tm} (h : Cs E T) {v : Bool} {x : Nat} (e : (!v && !decide ((v, x) ∈ T)) = false) : Cs (E ++ [(v, x)]) T := by
  cases v with
  | true => exact h.var
  | false => exact h.old (by simpa using e)
theorem Cs.step_yes {E T : List Tm} (h : Cs E T) {v : Bool} {x : Nat} (e : (!v && !decide ((v, x) ∈ T)) = true) : v = false ∧ Cs (E ++ [(v, x)]) (T ++ [(false, x)]) := by
  cases v with
  | true => simp at e
  | false => exact ⟨rfl, h.add⟩
set_option maxHeartbeats 1000000 in
theorem consts_any (A : Option Addr) (m c : Nat) (L : List Bd) (hm : m = L.length) (hmax : m ≤ 1000) (w : World) (hL : Bds w A L) :
    Calls Tryz.prog 55 #[.slice A m c] w fun e w' => Below w.heap.size w w' ∧ ∃ a cap T, e = .returned (.slice a T.length cap) ∧ Tms w' a T ∧ Cs (ends L) T ∧ ∀ g o, a = some ⟨g, o, none⟩ → w.heap.size ≤ g := by
  have HL := Lib.hid hL
  have HM := Lib.hid hm
  clear hL hm
  go_enter Tryz.func55, Tryz.ntmps55
  go_wp2
  go_loopw [3, 4] (fun o i wr => ∃ (k : Nat) (T : List Tm), k ≤ m ∧ T.length ≤ 2 * k ∧ i = .int .i64 k ∧ Hid (OwnT w.heap.size wr o T) ∧ Hid (Cs (ends (L.take k)) T) ∧ Hid (Below w.heap.size w wr)) (fun _ i _ => m - (intOf i).toNat)
  case atStart => exact ⟨0, [], by omega, by simp, rfl, OwnT.nil _ _, ⟨fun u => by simp [ends], by simp⟩, Below.refl _ w⟩
  case round =>
    obtain ⟨k, T, hk, hT, rfl, HO, HC, HB⟩ := hrel
    obtain ⟨a, cap, rfl, hts⟩ := HO.out.tms
    have HTS := Lib.hid hts
    clear hts
    by_cases hkm : k < m
    · have hkl : k < L.length := by rw [← HM.out]; exact hkm
      obtain ⟨b, o, rfl, c0, c1, c2, c3, l0, l1⟩ := (HL.out.below HB.out) k hkl
      have HNX := Lib.hid (ends_next hkl)
      obtain ⟨⟨va, na, vb, nb⟩, hx1⟩ : ∃ y, y = L[k] := ⟨_, rfl⟩
      rw [← hx1] at c0 c1 c2 c3 l0 l1 HNX
      dsimp only at c0 c1 c2 c3 l0 l1 HNX
      have HX := Lib.hid hx1
      have HX := Lib.hid hx1
      clear hx1
      have i1 : (0 : Int) ≤ (k : Int) := by omega
      have i2 : (k : Int) < (m : Int) := by omega
      have HLA := Lib.hid l0
      have HLB := Lib.hid l1
      clear l0 l1
      rename World => wb
      obtain ⟨r, hr⟩ : ∃ r, r = (!va && !decide ((va, na) ∈ T)) := ⟨_, rfl⟩
      have HR := Lib.hid hr
      have HH := Lib.hid (has_any a T.length cap T rfl (by omega) va na wb HTS.out)
      clear hr
      go_upto_region 5 with fail
      go_cut [27] from 5 to 60 (fun u wx => u = .bool r ∧ Hid (Below wb.heap.size wb wx))
      case first =>
        cases va with
        | true =>
          go_wp2_with fail
          go_meet
          exact ⟨by rw [HR.out]; rfl, Below.refl _ _⟩
        | false =>
          go_wp2_with fail
          refine HH.out.mono ?_
          rintro e w1 ⟨rfl, hb⟩
          have HBR := Lib.hid hb
          clear hb
          go_wp2_with fail
          go_meet
          exact ⟨by rw [HR.out]; rfl, HBR.out⟩
      case rest =>
        obtain ⟨rfl, hbw⟩ := hcut
        clear c0 c1 c2 c3 HH
        replace HB := Lib.hid (on HB.out hbw.out)
        replace HO := Lib.hid (HO.out.below hbw.out)
        clear HTS hbw
        rename World => wc
        obtain ⟨b', o', hbo, c0, c1, c2, c3, _, _⟩ := (HL.out.below HB.out) k hkl
        cases hbo
        rw [← HX.out] at c0 c1 c2 c3
        dsimp only at c0 c1 c2 c3
        cases r with
        | false =>
          have HC1 := Lib.hid (HC.out.step_no HR.out.symm)
          obtain ⟨T1, hT1⟩ : ∃ T1, T1 = T := ⟨_, rfl⟩
          rw [← hT1] at HC1 HO hT
          rw [← hT1]
          clear HC HR hT1
          generalize hvv : (Value.slice a T1.length cap) = v3 at HO ⊢
          clear hvv
          obtain ⟨r2, hr2⟩ : ∃ r, r = (!vb && !decide ((vb, nb) ∈ T1)) := ⟨_, rfl⟩
          have HR2 := Lib.hid hr2
          obtain ⟨a1, cap1, hv1, hts1⟩ := HO.out.tms
          subst hv1
          rename World => wc
          have HH := Lib.hid (has_any a1 T1.length cap1 T1 rfl (by omega) vb nb wc hts1)
          clear hr2 hts1
          go_upto_region 7 with fail
          go_cut [52] from 5 to 60 (fun u wx => u = .bool r2 ∧ Hid (Below wc.heap.size wc wx))
          case first =>
            cases vb with
            | true =>
              go_wp2_with fail
              go_meet
              exact ⟨by rw [HR2.out]; rfl, Below.refl _ _⟩
            | false =>
              go_wp2_with fail
              refine HH.out.mono ?_
              rintro e w1 ⟨rfl, hb⟩
              have HBR := Lib.hid hb
              clear hb
              go_wp2_with fail
              go_meet
              exact ⟨by rw [HR2.out]; rfl, HBR.out⟩
          case rest =>
            obtain ⟨rfl, hbw⟩ := hcut
            clear c0 c1 c2 c3 HH
            replace HB := Lib.hid (on HB.out hbw.out)
            replace HO := Lib.hid (HO.out.below hbw.out)
            clear hbw
            obtain ⟨b', o', hbo, c0, c1, c2, c3, _, _⟩ := (HL.out.below HB.out) k hkl
            cases hbo
            rw [← HX.out] at c0 c1 c2 c3
            dsimp only at c0 c1 c2 c3
            cases r2 with
            | false =>
              have HC2 := Lib.hid (show Cs (ends (L.take (k + 1))) T1 by rw [HNX.out]; exact HC1.out.step_no HR2.out.symm)
              go_wp2_with fail
              go_roundw
              case rel => exact ⟨k + 1, T1, by omega, by omega, by go_num, HO.out, HC2.out, HB.out⟩
              case measure => simp [intOf]; omega
            | true =>
              obtain ⟨rfl, HC3⟩ := HC1.out.step_yes HR2.out.symm
              have HC2 := Lib.hid (show Cs (ends (L.take (k + 1))) (T1 ++ [(false, nb)]) by rw [HNX.out]; exact HC3)
              clear HC3
              go_wp2_with (first
                | (at_builtin; refine wp_term (w0 := w) w.heap.size rfl (.tmp 53) (.tmp 59) rfl _ T1 (false, nb) rfl rfl HO.out HLB.out HB.out HB.out.size (by omega) ?_; intro v8 w8 ho8 hb8; have HO8 := Lib.hid ho8; have HB8 := Lib.hid hb8; clear ho8 hb8)
                | fail)
              go_roundw
              case rel => exact ⟨k + 1, T1 ++ [(false, nb)], by omega, by rw [List.length_append]; simp; omega, by go_num, HO8.out, HC2.out, HB8.out⟩
              case measure => simp [intOf]; omega
        | true =>
          obtain ⟨rfl, HC3⟩ := HC.out.step_yes HR.out.symm
          have HC1 := Lib.hid HC3
          clear HC3
          go_upto_region 7 with (first
            | (at_builtin; refine wp_term (w0 := w) w.heap.size rfl (.tmp 28) (.tmp 34) rfl _ T (false, na) rfl rfl HO.out HLA.out HB.out HB.out.size (by omega) ?_; intro v7 w7 ho7 hb7; have HO7 := Lib.hid ho7; have HB7 := Lib.hid hb7; clear ho7 hb7)
            | fail)
          have hT1 : (T ++ [(false, na)]).length ≤ 2 * k + 1 := by rw [List.length_append]; simp; omega
          generalize (T ++ [(false, na)]) = T1 at HC1 HO7 hT1
          clear HO HB c0 c1 c2 c3 HC HR
          have HO := HO7
          have HB := HB7
          clear HO7 HB7
          obtain ⟨b', o', hbo, c0, c1, c2, c3, _, _⟩ := (HL.out.below HB.out) k hkl
          cases hbo
          rw [← HX.out] at c0 c1 c2 c3
          dsimp only at c0 c1 c2 c3
          obtain ⟨r2, hr2⟩ : ∃ r, r = (!vb && !decide ((vb, nb) ∈ T1)) := ⟨_, rfl⟩
          have HR2 := Lib.hid hr2
          obtain ⟨a1, cap1, hv1, hts1⟩ := HO.out.tms
          subst hv1
          rename World => wc
          have HH := Lib.hid (has_any a1 T1.length cap1 T1 rfl (by omega) vb nb wc hts1)
          clear hr2 hts1
          go_upto_region 7 with fail
          go_cut [52] from 5 to 60 (fun u wx => u = .bool r2 ∧ Hid (Below wc.heap.size wc wx))
          case first =>
            cases vb with
            | true =>
              go_wp2_with fail
              go_meet
              exact ⟨by rw [HR2.out]; rfl, Below.refl _ _⟩
            | false =>
              go_wp2_with fail
              refine HH.out.mono ?_
              rintro e w1 ⟨rfl, hb⟩
              have HBR := Lib.hid hb
              clear hb
              go_wp2_with fail
              go_meet
              exact ⟨by rw [HR2.out]; rfl, HBR.out⟩
          case rest =>
            obtain ⟨rfl, hbw⟩ := hcut
            clear c0 c1 c2 c3 HH
            replace HB := Lib.hid (on HB.out hbw.out)
            replace HO := Lib.hid (HO.out.below hbw.out)
            clear hbw
            obtain ⟨b', o', hbo, c0, c1, c2, c3, _, _⟩ := (HL.out.below HB.out) k hkl
            cases hbo
            rw [← HX.out] at c0 c1 c2 c3
            dsimp only at c0 c1 c2 c3
            cases r2 with
            | false =>
              have HC2 := Lib.hid (show Cs (ends (L.take (k + 1))) T1 by rw [HNX.out]; exact HC1.out.step_no HR2.out.symm)
              go_wp2_with fail
              go_roundw
              case rel => exact ⟨k + 1, T1, by omega, by omega, by go_num, HO.out, HC2.out, HB.out⟩
              case measure => simp [intOf]; omega
            | true =>
              obtain ⟨rfl, HC3⟩ := HC1.out.step_yes HR2.out.symm
              have HC2 := Lib.hid (show Cs (ends (L.take (k + 1))) (T1 ++ [(false, nb)]) by rw [HNX.out]; exact HC3)
              clear HC3
              go_wp2_with (first
                | (at_builtin; refine wp_term (w0 := w) w.heap.size rfl (.tmp 53) (.tmp 59) rfl _ T1 (false, nb) rfl rfl HO.out HLB.out HB.out HB.out.size (by omega) ?_; intro v8 w8 ho8 hb8; have HO8 := Lib.hid ho8; have HB8 := Lib.hid hb8; clear ho8 hb8)
                | fail)
              go_roundw
              case rel => exact ⟨k + 1, T1 ++ [(false, nb)], by omega, by rw [List.length_append]; simp; omega, by go_num, HO8.out, HC2.out, HB8.out⟩
              case measure => simp [intOf]; omega
    · obtain rfl : m = k := by omega
      have HCE := Lib.hid (show Cs (ends L) T by have h := HC.out; rwa [HM.out, List.take_length] at h)
      clear HC
      go_wp2_with fail
      go_ret
      exact ⟨HB.out, a, cap, T, rfl, HTS.out, HCE.out, fun g o e => own_base HO.out.1 g (by rw [e]; rfl)⟩
end Go.Proofs.YtajilghlcfheiaaGreatDoor.Trm
