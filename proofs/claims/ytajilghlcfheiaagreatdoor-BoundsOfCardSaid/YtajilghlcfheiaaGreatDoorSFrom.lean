/- All that a term leads to: the document's From. -/
import Derived.Test.YtajilghlcfheiaaGreatDoorSTm
import Derived.WalkMore
namespace Go.Proofs.YtajilghlcfheiaaGreatDoor.Trm
open Go.RowKit Go.Proofs.YtajilghlcfheiaaGreatDoorW.PrintWords
open Rea (Bd Bds on)
set_option maxRecDepth 100000
/-- what one leads to. -/
inductive Rch (L : List Bd) (t : Tm) : Tm → Prop
  | refl : Rch L t t
  | step (b : Bd) : b ∈ L → Rch L t (b.av, b.an) → Rch L t (b.bv, b.bn)
theorem nodup_le : ∀ (T K : List Tm), T.Nodup → (∀ u ∈ T, u ∈ K) → T.length ≤ K.length
  | [], _, _, _ => Nat.zero_le _
  | a :: T, K, hn, hs => by
    have ha : a ∈ K := hs a (List.mem_cons_self ..)
    obtain ⟨h1, h2⟩ := List.nodup_cons.1 hn
    have := nodup_le T (K.erase a) h2 (fun u hu => by
      refine (List.mem_erase_of_ne (fun e => ?_)).2 (hs u (List.mem_cons_of_mem _ hu))
      subst e
      exact h1 hu)
    rw [List.length_erase_of_mem ha] at this
    have := List.length_pos_of_mem ha
    simp only [List.length_cons]
    omega
/-- the walk's state: the ends of the first p are all in. -/
structure Fm (L : List Bd) (t : Tm) (p : Nat) (T : List Tm) : Prop where
  nd : T.Nodup
  rch : ∀ u ∈ T, Rch L t u
  self : t ∈ T
  cl : ∀ i, i < p → ∀ b ∈ L, T[i]? = some (b.av, b.an) → (b.bv, b.bn) ∈ T
theorem rch_sub {L : List Bd} {t u : Tm} (h : Rch L t u) : u ∈ t :: L.map (fun b => (b.bv, b.bn)) := by
  cases h with
  | refl => exact List.mem_cons_self ..
  | step b hb _ => exact List.mem_cons_of_mem _ (List.mem_map.2 ⟨b, hb, rfl⟩)
theorem Fm.len {L : List Bd} {t : Tm} {p : Nat} {T : List Tm} (h : Fm L t p T) : T.length ≤ L.length + 1 := by
  have := nodup_le T _ h.nd (fun u hu => rch_sub (h.rch u hu))
  simpa using this
theorem Fm.start (L : List Bd) (t : Tm) : Fm L t 0 [t] := ⟨by simp, fun u hu => by rw [List.mem_singleton.1 hu]; exact .refl, by simp, fun i hi => by omega⟩
def Fi (L : List Bd) (t : Tm) (p k : Nat) (T : List Tm) : Prop := Fm L t p T ∧ p < T.length ∧ ∀ b ∈ L.take k, T[p]? = some (b.av, b.an) → (b.bv, b.bn) ∈ T
theorem Fi.start {L : List Bd} {t : Tm} {p : Nat} {T : List Tm} (h : Fm L t p T) (hp : p < T.length) : Fi L t p 0 T := ⟨h, hp, fun b hb => by simp at hb⟩
theorem Fi.keep {L : List Bd} {t : Tm} {p k : Nat} {T : List Tm} (h : Fi L t p k T) (hk : k < L.length) (hc : T[p]? = some (L[k].av, L[k].an) → (L[k].bv, L[k].bn) ∈ T) : Fi L t p (k + 1) T := by
  refine ⟨h.1, h.2.1, fun b hb => ?_⟩
  rw [List.take_add_one, List.getElem?_eq_getElem hk] at hb
  rcases List.mem_append.1 hb with hb | hb
  · exact h.2.2 b hb
  · simp at hb
    subst hb
    exact hc
theorem Fi.add {L : List Bd} {t : Tm} {p k : Nat} {T : List Tm} (h : Fi L t p k T) (hk : k < L.length) (h1 : T[p]? = some (L[k].av, L[k].an)) (h2 : (L[k].bv, L[k].bn) ∉ T) : Fi L t p (k + 1) (T ++ [(L[k].bv, L[k].bn)]) := by
  have hm := List.mem_of_getElem? h1
  have old : ∀ i, i ≤ p → (T ++ [(L[k].bv, L[k].bn)])[i]? = T[i]? := fun i hi => List.getElem?_append_left (by have := h.2.1; omega)
  refine ⟨⟨?_, fun u hu => ?_, List.mem_append_left _ h.1.self, fun i hi b hb hi2 => ?_⟩, by rw [List.length_append]; have := h.2.1; omega, fun b hb hb2 => ?_⟩
  · rw [List.nodup_append]
    refine ⟨h.1.nd, by simp, fun a ha b hb => ?_⟩
    rw [List.mem_singleton.1 hb]
    intro e
    exact h2 (e ▸ ha)
  · rcases List.mem_append.1 hu with hu | hu
    · exact h.1.rch u hu
    · rw [List.mem_singleton.1 hu]
      exact .step _ (List.getElem_mem hk) (h.1.rch _ hm)
  · rw [old i (by omega)] at hi2
    exact List.mem_append_left _ (h.1.cl i hi b hb hi2)
  · rw [old p (Nat.le_refl _)] at hb2
    rw [List.take_add_one, List.getElem?_eq_getElem hk] at hb
    rcases List.mem_append.1 hb with hb | hb
    · exact List.mem_append_left _ (h.2.2 b hb hb2)
    · simp at hb
      subst hb
      simp
theorem Fi.next {L : List Bd} {t : Tm} {p k : Nat} {T : List Tm} (h : Fi L t p k T) (hk : k = L.length) : Fm L t (p + 1) T := by
  obtain ⟨h1, h2, h3⟩ := h
  rw [hk, List.take_length] at h3
  refine ⟨h1.nd, h1.rch, h1.self, fun i hi b hb hi2 => ?_⟩
  by_cases e : i = p
  · subst e
    exact h3 b hb hi2
  · exact h1.cl i (by omega) b hb hi2
/-- what From tells. -/
def Froms (L : List Bd) (t : Tm) (T : List Tm) : Prop := (∀ u, u ∈ T ↔ Rch L t u) ∧ T.length ≤ L.length + 1
theorem Fm.done {L : List Bd} {t : Tm} {p : Nat} {T : List Tm} (h : Fm L t p T) (hp : p = T.length) : Froms L t T := by
  refine ⟨fun u => ⟨h.rch u, fun hu => ?_⟩, h.len⟩
  induction hu with
  | refl => exact h.self
  | step b hb _ ih =>
    obtain ⟨i, hi, e⟩ := List.getElem_of_mem ih
    exact h.cl i (by omega) b hb (by rw [List.getElem?_eq_getElem hi, e])
theorem own_one (w : World) (b : Nat) (t : Tm) (ht : t.2 < 18446744073709551616) (hb : b ≤ w.heap.size) : OwnT b (w.alloc (.cells #[.bool t.1, .int .u64 (t.2 : Int)] 97)) (.slice (some ⟨w.heap.size, 0, none⟩) 1 1) [t] := by
  have h := World.ownsRow_lit (base := b) (e := 97) (size := 2) w #[.bool t.1, .int .u64 (t.2 : Int)] 1 hb (by simp [maxLen]) (by simp)
  exact ⟨h, fun y hy => by rw [List.mem_singleton.1 hy]; exact ht⟩
def SixB (wr : World) (b o k b2 o2 p : Nat) (va : Bool) (na : Nat) (vb : Bool) (nb : Nat) (pv : Bool) (pn : Nat) (W : World) : Prop :=
  W.cell? ⟨b, o + k * 4, none⟩ = some (.bool va) ∧ W.cell? ⟨b, o + k * 4 + 1, none⟩ = some (.int .u64 (na : Int)) ∧ W.cell? ⟨b, o + k * 4 + 2, none⟩ = some (.bool vb) ∧ W.cell? ⟨b, o + k * 4 + 3, none⟩ = some (.int .u64 (nb : Int)) ∧ W.cell? ⟨b2, o2 + p * 2, none⟩ = some (.bool pv) ∧ W.cell? ⟨b2, o2 + p * 2 + 1, none⟩ = some (.int .u64 (pn : Int)) ∧ Below wr.heap.size wr W
theorem cell_on {w w' : World} {a : Addr} {v : Value} (h : w.cell? a = some v) (hb : Below w.heap.size w w') : w'.cell? a = some v := (hb.cell (World.block_lt_of_cell? w a h)).trans h
theorem SixB.on {wr W W' : World} {b o k b2 o2 p : Nat} {va : Bool} {na : Nat} {vb : Bool} {nb : Nat} {pv : Bool} {pn : Nat} (h : SixB wr b o k b2 o2 p va na vb nb pv pn W) (hb : Below W.heap.size W W') : SixB wr b o k b2 o2 p va na vb nb pv pn W' :=
  ⟨cell_on h.1 hb, cell_on h.2.1 hb, cell_on h.2.2.1 hb, cell_on h.2.2.2.1 hb, cell_on h.2.2.2.2.1 hb, cell_on h.2.2.2.2.2.1 hb, Rea.on h.2.2.2.2.2.2 hb⟩
set_option maxHeartbeats 4000000 in
theorem from_any (A : Option Addr) (m c : Nat) (L : List Bd) (hm : m = L.length) (hmax : m ≤ 1000) (v : Bool) (x : Nat) (hx : x < 18446744073709551616) (w : World) (hL : Bds w A L) :
    Calls Tryz.prog 56 #[.slice A m c, .agg #[.bool v, .int .u64 (x : Int)]] w fun e w' => Below w.heap.size w w' ∧ ∃ a cap T, e = .returned (.slice a T.length cap) ∧ Tms w' a T ∧ Froms L (v, x) T ∧ ∀ g o, a = some ⟨g, o, none⟩ → w.heap.size ≤ g := by
  have HL := Lib.hid hL
  have HM := Lib.hid hm
  clear hL hm
  obtain ⟨z0, z1⟩ := two_cells w (.bool v) (.int .u64 (x : Int)) 97
  have hb0 := lit_below w (.cells #[.bool v, .int .u64 (x : Int)] 97)
  have hs0 : (w.alloc (.cells #[.bool v, .int .u64 (x : Int)] 97)).heap.size = w.heap.size + 1 := by simp
  have ho := own_one (w.alloc (.cells #[.bool v, .int .u64 (x : Int)] 97)) w.heap.size (v, x) hx (by rw [hs0]; omega)
  have hb1 := hb0.alloc (o := .cells #[.bool v, .int .u64 (x : Int)] 97) (by rw [hs0]; omega)
  rw [hs0] at ho
  have HO := Lib.hid ho
  have HB := Lib.hid hb1
  have HF := Lib.hid (Fm.start L (v, x))
  clear ho hb0 hb1 hs0
  go_enter Tryz.func56, Tryz.ntmps56
  go_wp2_with fail
  generalize ((w.alloc (Obj.cells #[Value.bool v, Value.int IntKind.u64 (x : Int)] 97)).alloc (Obj.cells #[Value.bool v, Value.int IntKind.u64 (x : Int)] 97)) = wa at *
  clear z0 z1
  go_loopw [5, 6] (fun o i wr => ∃ (p : Nat) (T : List Tm), p ≤ T.length ∧ T.length ≤ m + 1 ∧ i = .int .i64 p ∧ Hid (OwnT w.heap.size wr o T) ∧ Hid (Fm L (v, x) p T) ∧ Hid (Below w.heap.size w wr)) (fun _ i _ => m + 2 - (intOf i).toNat)
  case atStart => exact ⟨0, [(v, x)], by omega, by simp, rfl, HO.out, HF.out, HB.out⟩
  case round =>
    clear HO HF HB
    obtain ⟨p, T, hp, hT, rfl, HO, HF, HB⟩ := hrel
    obtain ⟨a, cap, rfl, hts⟩ := HO.out.tms
    have HTS := Lib.hid hts
    clear hts
    by_cases hpt : p < T.length
    · have HFI := Lib.hid (Fi.start HF.out hpt)
      clear HF HTS
      go_wp2_with fail
      go_loopw [5, 7] (fun o i wr => ∃ (k : Nat) (T : List Tm), k ≤ m ∧ T.length ≤ m + 1 ∧ p < T.length ∧ i = .int .i64 k ∧ Hid (OwnT w.heap.size wr o T) ∧ Hid (Fi L (v, x) p k T) ∧ Hid (Below w.heap.size w wr)) (fun _ i _ => m - (intOf i).toNat)
      case atStart => exact ⟨0, T, by omega, hT, hpt, rfl, HO.out, HFI.out, HB.out⟩
      case round =>
        clear HO HFI HB hp hT hpt
        obtain ⟨k, K, hk, hT, hpt, rfl, HO, HF, HB⟩ := hrel
        obtain ⟨a, cap, rfl, hts⟩ := HO.out.tms
        by_cases hkm : k < m
        · have hkl : k < L.length := by rw [← HM.out]; exact hkm
          obtain ⟨b, o, rfl, c0, c1, c2, c3, l0, l1⟩ := (HL.out.below HB.out) k hkl
          obtain ⟨b2, o2, rfl, d0, d1, _⟩ := hts p hpt
          have HTS := Lib.hid hts
          have HKEEP := Lib.hid (fun h => HF.out.keep hkl h)
          have HADD := Lib.hid (fun h1 h2 => HF.out.add hkl h1 h2)
          have hgp : K[p]? = some K[p] := List.getElem?_eq_getElem hpt
          rw [hgp] at HKEEP HADD
          obtain ⟨⟨va, na, vb, nb⟩, hx1⟩ : ∃ y, y = L[k] := ⟨_, rfl⟩
          obtain ⟨⟨pv, pn⟩, hx2⟩ : ∃ y, y = K[p] := ⟨_, rfl⟩
          rw [← hx1] at c0 c1 c2 c3 l0 l1 HKEEP HADD
          rw [← hx2] at d0 d1 HKEEP HADD
          dsimp only at c0 c1 c2 c3 l0 l1 HKEEP HADD d0 d1
          clear hx1 hx2 hgp hts HF
          have hE := tm_eq va pv na pn
          obtain ⟨e, he⟩ : ∃ e, e = decide ((va, na) = (pv, pn)) := ⟨_, rfl⟩
          rw [← he] at hE
          have EQ := fun w => (Rea.eq97 9998 w va pv (na : Int) (pn : Int)).trans (by rw [hE])
          have i1 : (0 : Int) ≤ (k : Int) := by omega
          have i2 : (k : Int) < (m : Int) := by omega
          have i3 : (0 : Int) ≤ (p : Int) := by omega
          have i4 : (p : Int) < (K.length : Int) := by omega
          cases e with
          | false =>
            have HK := Lib.hid (HKEEP.out (fun h => absurd (Option.some.inj h).symm (of_decide_eq_false he.symm)))
            clear HKEEP HADD he hE
            go_wp2
            go_quiet (fail)
            go_wp2
            go_roundw
            case rel => exact ⟨k + 1, K, by omega, hT, hpt, by go_num, HO.out.below (pw_below_drewN (Below.refl _ _) _), HK.out, pw_below_drewN HB.out _⟩
            case measure => simp [intOf]; omega
          | true =>
            have HE := Lib.hid (of_decide_eq_true he.symm)
            clear he hE
            obtain ⟨q, hq⟩ : ∃ q, q = decide ((vb, nb) ∈ K) := ⟨_, rfl⟩
            have HQ := Lib.hid hq
            have RF := Below.refl wr.heap.size wr
            have KC := Lib.hid (fun W (h : SixB wr b o k b2 o2 p va na vb nb pv pn W) => (by
              rw [hq]
              refine (has_any (some ⟨b2, o2, none⟩) K.length cap K rfl (by omega) vb nb W (HTS.out.below h.2.2.2.2.2.2)).mono ?_
              rintro e W' ⟨rfl, hb⟩
              exact ⟨rfl, h.on hb⟩ :
                Calls Tryz.prog 127 #[.slice (some ⟨b2, o2, none⟩) K.length cap, .agg #[.bool vb, .int .u64 (nb : Int)]] W fun e W' => e = .returned (.bool q) ∧ SixB wr b o k b2 o2 p va na vb nb pv pn W'))
            clear hq
            unfold SixB at KC
            go_wp2
            go_region_held3 (fun W => W.cell? ⟨b, o + k * 4, none⟩ = some (.bool va) ∧ W.cell? ⟨b, o + k * 4 + 1, none⟩ = some (.int .u64 (na : Int)) ∧ W.cell? ⟨b, o + k * 4 + 2, none⟩ = some (.bool vb) ∧ W.cell? ⟨b, o + k * 4 + 3, none⟩ = some (.int .u64 (nb : Int)) ∧ W.cell? ⟨b2, o2 + p * 2, none⟩ = some (.bool pv) ∧ W.cell? ⟨b2, o2 + p * 2 + 1, none⟩ = some (.int .u64 (pn : Int)) ∧ Below wr.heap.size wr W) (first | exact ⟨by assumption, by assumption, by assumption, by assumption, by assumption, by assumption, by first | assumption | exact Below.drew (by assumption)⟩)
              (first | (go_at_call 127; refine (KC.out _ ⟨by assumption, by assumption, by assumption, by assumption, by assumption, by assumption, by first | assumption | exact Below.drew (by assumption)⟩).mono ?_; rintro e w' ⟨rfl, h1, h2, h3, h4, h5, h6, h7⟩))
            have HBW := Lib.hid (on HB.out (c := _) (by assumption))
            have HOW := Lib.hid (HO.out.below (w' := _) (by assumption))
            have HLB := Lib.hid l1
            cases q with
            | true =>
              have HK := Lib.hid (HKEEP.out (fun _ => of_decide_eq_true HQ.out.symm))
              clear HKEEP HADD
              go_wp2
              go_roundw
              case rel => exact ⟨k + 1, K, by omega, hT, hpt, by go_num, HOW.out, HK.out, HBW.out⟩
              case measure => simp [intOf]; omega
            | false =>
              have HK := Lib.hid (HADD.out (by rw [HE.out]) (of_decide_eq_false HQ.out.symm))
              clear HKEEP HADD
              go_wp2_with (first
                | (at_builtin; refine wp_term (w0 := w) w.heap.size rfl (.tmp 42) (.tmp 48) rfl _ K (vb, nb) rfl rfl HOW.out HLB.out HBW.out HBW.out.size (by omega) ?_; intro v7 w7 ho7 hb7; have HO7 := Lib.hid ho7; have HB7 := Lib.hid hb7; clear ho7 hb7)
                | fail)
              go_roundw
              case rel => exact ⟨k + 1, _, by omega, by have := HK.out.1.len; rw [← HM.out] at this; exact this, HK.out.2.1, by go_num, HO7.out, HK.out, HB7.out⟩
              case measure => simp [intOf]; omega
        · obtain rfl : m = k := by omega
          have HN := Lib.hid (HF.out.next HM.out)
          clear HF hts
          go_wp2_with fail
          go_roundw
          case rel => exact ⟨p + 1, K, by omega, hT, by go_num, HO.out, HN.out, HB.out⟩
          case measure => simp [intOf]; omega
    · have HD := Lib.hid (HF.out.done (by omega))
      clear HF
      go_wp2_with fail
      go_ret
      exact ⟨HB.out, a, cap, T, rfl, HTS.out, HD.out, fun g o e => own_base HO.out.1 g (by rw [e]; rfl)⟩
end Go.Proofs.YtajilghlcfheiaaGreatDoor.Trm
