/- What the document's Solve tells: plain. -/
import Derived.Test.YtajilghlcfheiaaGreatDoorSCon
import Derived.Test.YtajilghlcfheiaaGreatDoorBndAns
namespace Go.Proofs.YtajilghlcfheiaaGreatDoor.Trm
open Go.RowKit Go.Proofs.YtajilghlcfheiaaGreatDoorW.PrintWords
open Rea (Bd Bds on)
open Bnd (SI Full Sol Low High tv okT okB chkF updF lst)
theorem rch_one {L : List Bd} {b : Bd} (hb : b ∈ L) : Rch L (b.av, b.an) (b.bv, b.bn) := .step b hb .refl
theorem rch_trans {L : List Bd} {t u v : Tm} (h : Rch L t u) (k : Rch L u v) : Rch L t v := by
  induction k with
  | refl => exact h
  | step b hb _ ih => exact .step b hb ih
theorem rch_src {L : List Bd} {t u : Tm} (h : Rch L t u) (hne : t ≠ u) : t ∈ ends L := by
  induction h with
  | refl => exact absurd rfl hne
  | step b hb k ih =>
    by_cases e : t = (b.av, b.an)
    · rw [e]
      exact List.mem_flatMap.2 ⟨b, hb, by simp⟩
    · exact ih e
theorem ends_ok {S : SI} {N : Nat} {L : List Bd} (hok : ∀ b ∈ L, okB S N b = true) {t : Tm} (h : t ∈ ends L) : okT S N t.1 t.2 = true := by
  obtain ⟨b, hb, h⟩ := List.mem_flatMap.1 h
  simp at h
  rcases h with rfl | rfl
  · exact Bnd.ok_a (hok b hb)
  · exact Bnd.ok_b (hok b hb)
theorem ends_dst {L : List Bd} {t u : Tm} (h : Rch L t u) (hne : t ≠ u) : u ∈ ends L := by
  cases h with
  | refl => exact absurd rfl hne
  | step b hb _ => exact List.mem_flatMap.2 ⟨b, hb, by simp⟩
theorem rch_below {S : SI} (hF : Full S) {N : Nat} {L : List Bd} {g : Nat → Nat} (hg : Sol S N L g) {t u : Tm} (ht : okT S N t.1 t.2 = true) (h : Rch L t u) : S.below (tv g t.1 t.2) (tv g u.1 u.2) = true := by
  induction h with
  | refl => exact hF.refl _ (Bnd.tv_has ht hg.1)
  | step b hb _ ih => exact hF.trans _ _ _ ih (hg.2 b hb)
theorem con_has {S : SI} {N : Nat} {L : List Bd} (hok : ∀ b ∈ L, okB S N b = true) {c : Nat} (h : (false, c) ∈ ends L) : S.has c = true := Bnd.ok_con (ends_ok hok h) rfl
/-- values that are least under the constants that lead to them. -/
def Lst (S : SI) (N : Nat) (L : List Bd) (f : Nat → Nat) : Prop :=
  (∀ j, j < N → S.has (f j) = true) ∧ ∀ j, j < N → ∀ d, S.has d = true → (∀ c, Rch L (false, c) (true, j) → S.below c d = true) → S.below (f j) d = true
theorem lst_start {S : SI} {N : Nat} {L : List Bd} (hF : 0 < N → Full S) : Lst S N L (fun _ => S.bot) :=
  ⟨fun j hj => (hF (by omega)).bot.1, fun j hj d hd _ => (hF (by omega)).bot.2 d hd⟩
theorem lst_join {S : SI} (hF : Full S) {N : Nat} {L : List Bd} {f : Nat → Nat} (h : Lst S N L f) {j c : Nat} (hj : j < N) (hc : S.has c = true) (hr : Rch L (false, c) (true, j)) : Lst S N L (updF f j (S.join (f j) c)) := by
  obtain ⟨j1, j2, j3⟩ := hF.join _ _ (h.1 j hj) hc
  refine ⟨fun i hi => ?_, fun i hi d hd hcd => ?_⟩
  · by_cases e : i = j
    · rw [e, Bnd.updF_at]
      exact (hF.hb _ _ j1).2
    · rw [Bnd.updF_ne _ _ e]
      exact h.1 i hi
  · by_cases e : i = j
    · subst e
      rw [Bnd.updF_at]
      exact j3 d (h.2 i hi d hd hcd) (hcd c hr)
    · rw [Bnd.updF_ne _ _ e]
      exact h.2 i hi d hd hcd
theorem upp_join {S : SI} (hF : Full S) {f : Nat → Nat} {j c c' : Nat} (hj : S.has (f j) = true) (hc : S.has c = true) {u : Tm} (h : S.below c' (tv f u.1 u.2) = true) : S.below c' (tv (updF f j (S.join (f j) c)) u.1 u.2) = true := by
  obtain ⟨v, x⟩ := u
  cases v with
  | false => exact h
  | true =>
    dsimp only at h ⊢
    rw [Bnd.tv_true] at h ⊢
    by_cases e : x = j
    · subst e
      rw [Bnd.updF_at]
      exact hF.trans _ _ _ h (hF.join _ _ hj hc).1
    · rw [Bnd.updF_ne _ _ e]
      exact h
/-- the first i constants are in. -/
structure LI (S : SI) (N : Nat) (L : List Bd) (T : List Tm) (i : Nat) (f : Nat → Nat) : Prop where
  lst : Lst S N L f
  up : ∀ p, p < i → ∀ c, T[p]? = some (false, c) → ∀ u, Rch L (false, c) u → S.below c (tv f u.1 u.2) = true
theorem LI.start {S : SI} {N : Nat} {L : List Bd} {T : List Tm} (hF : 0 < N → Full S) : LI S N L T 0 (fun _ => S.bot) := ⟨lst_start hF, fun p hp => by omega⟩
/-- and the first k terms that this one leads to. -/
def LJ (S : SI) (N : Nat) (L : List Bd) (T : List Tm) (i c : Nat) (U : List Tm) (k : Nat) (f : Nat → Nat) : Prop :=
  LI S N L T i f ∧ ∀ q, q < k → ∀ u, U[q]? = some u → S.below c (tv f u.1 u.2) = true
theorem LJ.start {S : SI} {N : Nat} {L : List Bd} {T : List Tm} {i c : Nat} {U : List Tm} {f : Nat → Nat} (h : LI S N L T i f) : LJ S N L T i c U 0 f := ⟨h, fun q hq => by omega⟩
theorem LJ.con {S : SI} {N : Nat} {L : List Bd} {T : List Tm} {i c k d : Nat} {U : List Tm} {f : Nat → Nat} (h : LJ S N L T i c U k f) (hu : U[k]? = some (false, d)) (hd : S.below c d = true) : LJ S N L T i c U (k + 1) f := by
  refine ⟨h.1, fun q hq u hq2 => ?_⟩
  by_cases e : q = k
  · subst e
    rw [hu] at hq2
    cases hq2
    exact hd
  · exact h.2 q (by omega) u hq2
theorem LJ.var {S : SI} (hF : Full S) {N : Nat} {L : List Bd} {T : List Tm} {i c k j : Nat} {U : List Tm} {f : Nat → Nat} (h : LJ S N L T i c U k f) (hu : U[k]? = some (true, j)) (hj : j < N) (hc : S.has c = true) (hr : Rch L (false, c) (true, j)) : LJ S N L T i c U (k + 1) (updF f j (S.join (f j) c)) := by
  have hfj := h.1.lst.1 j hj
  refine ⟨⟨lst_join hF h.1.lst hj hc hr, fun p hp c' hc' u hu' => upp_join hF hfj hc (h.1.up p hp c' hc' u hu')⟩, fun q hq u hq2 => ?_⟩
  by_cases e : q = k
  · subst e
    rw [hu] at hq2
    cases hq2
    dsimp only
    rw [Bnd.tv_true, Bnd.updF_at]
    exact (hF.join _ _ hfj hc).2.1
  · exact upp_join hF hfj hc (h.2 q (by omega) u hq2)
theorem LJ.next {S : SI} {N : Nat} {L : List Bd} {T : List Tm} {i c k : Nat} {U : List Tm} {f : Nat → Nat} (h : LJ S N L T i c U k f) (hk : k = U.length) (hT : T[i]? = some (false, c)) (hU : Froms L (false, c) U) : LI S N L T (i + 1) f := by
  refine ⟨h.1.lst, fun p hp c' hc' u hu => ?_⟩
  by_cases e : p = i
  · subst e
    rw [hT] at hc'
    cases hc'
    obtain ⟨q, hq, e⟩ := List.getElem_of_mem ((hU.1 u).2 hu)
    exact h.2 q (by omega) u (by rw [List.getElem?_eq_getElem hq, e])
  · exact h.1.up p (by omega) c' hc' u hu
theorem LI.all {S : SI} {N : Nat} {L : List Bd} {T : List Tm} {i : Nat} {f : Nat → Nat} (h : LI S N L T i f) (hi : i = T.length) (hT : Cs (ends L) T) {c : Nat} (hc : (false, c) ∈ ends L) {u : Tm} (hu : Rch L (false, c) u) : S.below c (tv f u.1 u.2) = true := by
  obtain ⟨p, hp, e⟩ := List.getElem_of_mem ((hT.1 (false, c)).2 ⟨rfl, hc⟩)
  exact h.up p (by omega) c (by rw [List.getElem?_eq_getElem hp, e]) u hu
theorem low_is {S : SI} (hF : Full S) {N : Nat} {L : List Bd} (hok : ∀ b ∈ L, okB S N b = true) {T : List Tm} {i : Nat} {f : Nat → Nat} (h : LI S N L T i f) (hi : i = T.length) (hT : Cs (ends L) T) : Low S N L f := by
  have hup : ∀ c u, (false, c) ∈ ends L → Rch L (false, c) u → S.below c (tv f u.1 u.2) = true := fun c u hc hu => h.all hi hT hc hu
  refine ⟨⟨h.lst.1, fun b hb => ?_⟩, fun g hg j hj => ?_⟩
  · have hbh := Bnd.tv_has (f := f) (Bnd.ok_b (hok b hb)) h.lst.1
    cases hv : b.av with
    | false =>
      rw [Bnd.tv_false]
      have h1 := rch_one hb
      rw [hv] at h1
      exact hup b.an _ (by rw [← hv]; exact List.mem_flatMap.2 ⟨b, hb, by simp⟩) h1
    | true =>
      rw [Bnd.tv_true]
      have h1 := rch_one hb
      rw [hv] at h1
      exact h.lst.2 b.an (Bnd.ok_var (Bnd.ok_a (hok b hb)) hv) _ hbh (fun c hc => hup c _ (rch_src hc (by simp)) (rch_trans hc h1))
  · refine h.lst.2 j hj (g j) (hg.1 j hj) (fun c hc => ?_)
    have h1 := rch_below hF hg (t := (false, c)) (ends_ok hok (rch_src hc (by simp))) hc
    dsimp only at h1
    rwa [Bnd.tv_true, Bnd.tv_false] at h1
theorem no_sol {S : SI} (hF : Full S) {N : Nat} {L : List Bd} (hok : ∀ b ∈ L, okB S N b = true) {c d : Nat} (hc : (false, c) ∈ ends L) (hr : Rch L (false, c) (false, d)) (hn : S.below c d = false) : ¬ ∃ g, Sol S N L g := by
  rintro ⟨g, hg⟩
  have h1 := rch_below hF hg (t := (false, c)) (ends_ok hok hc) hr
  dsimp only at h1
  rw [Bnd.tv_false, Bnd.tv_false, hn] at h1
  cases h1
/-- values that are greatest below the constants that they lead to. -/
def Grt (S : SI) (N : Nat) (L : List Bd) (h : Nat → Nat) : Prop :=
  (∀ j, j < N → S.has (h j) = true) ∧ ∀ j, j < N → ∀ d, S.has d = true → (∀ c, Rch L (true, j) (false, c) → S.below d c = true) → S.below d (h j) = true
/-- the first i variables are in. -/
structure HI (S : SI) (N : Nat) (L : List Bd) (i : Nat) (h : Nat → Nat) : Prop where
  grt : Grt S N L h
  dn : ∀ p, p < i → ∀ c, Rch L (true, p) (false, c) → S.below (h p) c = true
theorem HI.start {S : SI} {N : Nat} {L : List Bd} (hF : 0 < N → Full S) : HI S N L 0 (fun _ => S.top) :=
  ⟨⟨fun j hj => (hF (by omega)).top.1, fun j hj d hd _ => (hF (by omega)).top.2 d hd⟩, fun p hp => by omega⟩
def HJ (S : SI) (N : Nat) (L : List Bd) (i : Nat) (U : List Tm) (k : Nat) (h : Nat → Nat) : Prop :=
  HI S N L i h ∧ ∀ q, q < k → ∀ c, U[q]? = some (false, c) → S.below (h i) c = true
theorem HJ.start {S : SI} {N : Nat} {L : List Bd} {i : Nat} {U : List Tm} {h : Nat → Nat} (k : HI S N L i h) : HJ S N L i U 0 h := ⟨k, fun q hq => by omega⟩
theorem HJ.var {S : SI} {N : Nat} {L : List Bd} {i k j : Nat} {U : List Tm} {h : Nat → Nat} (H : HJ S N L i U k h) (hu : U[k]? = some (true, j)) : HJ S N L i U (k + 1) h := by
  refine ⟨H.1, fun q hq c hq2 => ?_⟩
  by_cases e : q = k
  · subst e
    rw [hu] at hq2
    cases hq2
  · exact H.2 q (by omega) c hq2
theorem HJ.con {S : SI} (hF : Full S) {N : Nat} {L : List Bd} {i k c : Nat} {U : List Tm} {h : Nat → Nat} (H : HJ S N L i U k h) (hi : i < N) (hu : U[k]? = some (false, c)) (hc : S.has c = true) (hr : Rch L (true, i) (false, c)) : HJ S N L i U (k + 1) (updF h i (S.meet (h i) c)) := by
  obtain ⟨m1, m2, m3⟩ := hF.meet _ _ (H.1.grt.1 i hi) hc
  refine ⟨⟨⟨fun j hj => ?_, fun j hj d hd hcd => ?_⟩, fun p hp c' hc' => ?_⟩, fun q hq c' hq2 => ?_⟩
  · by_cases e : j = i
    · rw [e, Bnd.updF_at]
      exact (hF.hb _ _ m1).1
    · rw [Bnd.updF_ne _ _ e]
      exact H.1.grt.1 j hj
  · by_cases e : j = i
    · subst e
      rw [Bnd.updF_at]
      exact m3 d (H.1.grt.2 j hj d hd hcd) (hcd c hr)
    · rw [Bnd.updF_ne _ _ e]
      exact H.1.grt.2 j hj d hd hcd
  · rw [Bnd.updF_ne _ _ (by omega)]
    exact H.1.dn p hp c' hc'
  · rw [Bnd.updF_at]
    by_cases e : q = k
    · subst e
      rw [hu] at hq2
      cases hq2
      exact m2
    · exact hF.trans _ _ _ m1 (H.2 q (by omega) c' hq2)
theorem HJ.next {S : SI} {N : Nat} {L : List Bd} {i k : Nat} {U : List Tm} {h : Nat → Nat} (H : HJ S N L i U k h) (hk : k = U.length) (hU : Froms L (true, i) U) : HI S N L (i + 1) h := by
  refine ⟨H.1.grt, fun p hp c hc => ?_⟩
  by_cases e : p = i
  · subst e
    obtain ⟨q, hq, e⟩ := List.getElem_of_mem ((hU.1 (false, c)).2 hc)
    exact H.2 q (by omega) c (by rw [List.getElem?_eq_getElem hq, e])
  · exact H.1.dn p (by omega) c hc
theorem high_is {S : SI} (hF : Full S) {N : Nat} {L : List Bd} (hok : ∀ b ∈ L, okB S N b = true) {h : Nat → Nat} (H : HI S N L N h) (hcc : ∀ c d, (false, c) ∈ ends L → Rch L (false, c) (false, d) → S.below c d = true) : High S N L h := by
  have hup : ∀ t c, t ∈ ends L → Rch L t (false, c) → S.below (tv h t.1 t.2) c = true := by
    rintro ⟨v, x⟩ c ht hr
    cases v with
    | false =>
      dsimp only
      rw [Bnd.tv_false]
      exact hcc x c ht hr
    | true =>
      dsimp only
      rw [Bnd.tv_true]
      exact H.dn x (Bnd.ok_var (ends_ok hok ht) rfl) c hr
  refine ⟨⟨H.grt.1, fun b hb => ?_⟩, fun g hg j hj => ?_⟩
  · have ha : (b.av, b.an) ∈ ends L := List.mem_flatMap.2 ⟨b, hb, by simp⟩
    have h1 := rch_one hb
    have hah := Bnd.tv_has (f := h) (Bnd.ok_a (hok b hb)) H.grt.1
    cases hv : b.bv with
    | false =>
      rw [Bnd.tv_false]
      rw [hv] at h1
      exact hup _ _ ha h1
    | true =>
      rw [Bnd.tv_true]
      rw [hv] at h1
      exact H.grt.2 b.bn (Bnd.ok_var (Bnd.ok_b (hok b hb)) hv) _ hah (fun c hc => hup _ c ha (rch_trans h1 hc))
  · refine H.grt.2 j hj (g j) (hg.1 j hj) (fun c hc => ?_)
    have h1 := rch_below hF hg (t := (true, j)) (by simpa [okT] using hj) hc
    dsimp only at h1
    rwa [Bnd.tv_true, Bnd.tv_false] at h1
/-- no constants, no variables: no bounds. -/
theorem no_bounds {S : SI} (hF : Bnd.None S) {L : List Bd} (hok : ∀ b ∈ L, okB S 0 b = true) : L = [] := by
  cases L with
  | nil => rfl
  | cons b l =>
    have h0 := Bnd.ok_a (hok b (List.mem_cons_self ..))
    cases hv : b.av with
    | true => exact absurd (Bnd.ok_var h0 hv) (by omega)
    | false =>
      have := Bnd.ok_con h0 hv
      rw [hF.has] at this
      cases this
end Go.Proofs.YtajilghlcfheiaaGreatDoor.Trm
