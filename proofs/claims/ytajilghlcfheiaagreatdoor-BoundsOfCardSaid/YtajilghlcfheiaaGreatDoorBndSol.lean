/- what Solve tells of a sort that is one. -/
import Derived.Test.YtajilghlcfheiaaGreatDoorBndSolve
namespace Go.Proofs.YtajilghlcfheiaaGreatDoor.Bnd
set_option maxRecDepth 20000
open Go.RowKit Go.Proofs.YtajilghlcfheiaaGreatDoorW.PrintWords
set_option linter.unusedVariables false
/-- a sort of values that is one. -/
structure Full (S : SI) : Prop where
  lt : ∀ a, S.has a = true → a < 18446744073709551616
  hb : ∀ a b, S.below a b = true → S.has a = true ∧ S.has b = true
  refl : ∀ a, S.has a = true → S.below a a = true
  trans : ∀ a b c, S.below a b = true → S.below b c = true → S.below a c = true
  anti : ∀ a b, S.below a b = true → S.below b a = true → a = b
  join : ∀ a b, S.has a = true → S.has b = true → S.below a (S.join a b) = true ∧ S.below b (S.join a b) = true ∧ ∀ d, S.below a d = true → S.below b d = true → S.below (S.join a b) d = true
  meet : ∀ a b, S.has a = true → S.has b = true → S.below (S.meet a b) a = true ∧ S.below (S.meet a b) b = true ∧ ∀ d, S.below d a = true → S.below d b = true → S.below d (S.meet a b) = true
  bot : S.has S.bot = true ∧ ∀ a, S.has a = true → S.below S.bot a = true
  top : S.has S.top = true ∧ ∀ a, S.has a = true → S.below a S.top = true
  rank : ∃ r : Nat → Nat, ∃ R, (∀ a, S.has a = true → r a ≤ R) ∧ ∀ a b, S.below a b = true → a ≠ b → r a < r b
/-- one without values. -/
structure None (S : SI) : Prop where
  has : ∀ a, S.has a = false
  below : ∀ a b, S.below a b = false
  join : ∀ a b, S.join a b = 0
  meet : ∀ a b, S.meet a b = 0
  bot : S.bot = 0
  top : S.top = 0
theorem void_none : None voidS := ⟨fun _ => rfl, fun _ _ => rfl, fun _ _ => rfl, fun _ _ => rfl, rfl, rfl⟩
/-- values that hold. -/
def Sol (S : SI) (N : Nat) (L : List Rea.Bd) (f : Nat → Nat) : Prop := (∀ i, i < N → S.has (f i) = true) ∧ ∀ b ∈ L, S.below (tv f b.av b.an) (tv f b.bv b.bn) = true
def Low (S : SI) (N : Nat) (L : List Rea.Bd) (f : Nat → Nat) : Prop := Sol S N L f ∧ ∀ g, Sol S N L g → ∀ i, i < N → S.below (f i) (g i) = true
def High (S : SI) (N : Nat) (L : List Rea.Bd) (f : Nat → Nat) : Prop := Sol S N L f ∧ ∀ g, Sol S N L g → ∀ i, i < N → S.below (g i) (f i) = true
def sumN (h : Nat → Nat) : Nat → Nat
  | 0 => 0
  | n + 1 => sumN h n + h n
theorem sumN_congr {h k : Nat → Nat} : ∀ n, (∀ i, i < n → h i = k i) → sumN h n = sumN k n
  | 0, _ => rfl
  | n + 1, e => by
    unfold sumN
    rw [sumN_congr n (fun i hi => e i (by omega)), e n (by omega)]
theorem sumN_lt {h k : Nat → Nat} {i : Nat} : ∀ n, i < n → (∀ j, j < n → j ≠ i → h j = k j) → h i < k i → sumN h n < sumN k n
  | 0, hi, _, _ => by omega
  | n + 1, hi, e, hl => by
    unfold sumN
    by_cases hn : i = n
    · subst hn
      rw [sumN_congr i (fun j hj => e j (by omega) (by omega))]
      omega
    · have := sumN_lt n (by omega) (fun j hj hne => e j (by omega) hne) hl
      have := e n (by omega) (fun h => hn h.symm)
      omega
theorem updF_at (f : Nat → Nat) (i g : Nat) : updF f i g i = g := if_pos rfl
theorem updF_ne (f : Nat → Nat) {i j : Nat} (g : Nat) (h : j ≠ i) : updF f i g j = f j := if_neg h
theorem ok_var {S : SI} {N : Nat} {v : Bool} {n : Nat} (h : okT S N v n = true) (hv : v = true) : n < N := by
  subst hv
  simpa [okT] using h
theorem ok_con {S : SI} {N : Nat} {v : Bool} {n : Nat} (h : okT S N v n = true) (hv : v = false) : S.has n = true := by
  subst hv
  simpa [okT] using h
theorem ok_a {S : SI} {N : Nat} {b : Rea.Bd} (h : okB S N b = true) : okT S N b.av b.an = true := by
  unfold okB at h
  rw [Bool.and_eq_true] at h
  exact h.1
theorem ok_b {S : SI} {N : Nat} {b : Rea.Bd} (h : okB S N b = true) : okT S N b.bv b.bn = true := by
  unfold okB at h
  rw [Bool.and_eq_true] at h
  exact h.2
theorem tv_true (f : Nat → Nat) (n : Nat) : tv f true n = f n := if_pos rfl
theorem tv_false (f : Nat → Nat) (n : Nat) : tv f false n = n := by simp [tv]
theorem tv_has {S : SI} {N : Nat} {f : Nat → Nat} {v : Bool} {n : Nat} (h : okT S N v n = true) (hf : ∀ i, i < N → S.has (f i) = true) : S.has (tv f v n) = true := by
  cases v with
  | true => rw [tv_true]; exact hf _ (ok_var h rfl)
  | false => rw [tv_false]; exact ok_con h rfl
/-- terms' values go along. -/
theorem tv_mono {S : SI} (hF : Full S) {N : Nat} {f g : Nat → Nat} {v : Bool} {n : Nat} (h : okT S N v n = true) (hfg : ∀ i, i < N → S.below (f i) (g i) = true) : S.below (tv f v n) (tv g v n) = true := by
  cases v with
  | true => rw [tv_true, tv_true]; exact hfg _ (ok_var h rfl)
  | false => rw [tv_false, tv_false]; exact hF.refl _ (ok_con h rfl)
theorem hold_iff {S : SI} {N : Nat} {L : List Rea.Bd} (f : Nat → Nat) (hok : ∀ b ∈ L, okB S N b = true) : holdF S (lst N f) L = true ↔ ∀ b ∈ L, S.below (tv f b.av b.an) (tv f b.bv b.bn) = true := by
  unfold holdF
  rw [List.all_eq_true]
  refine ⟨fun h b hb => ?_, fun h b hb => ?_⟩
  · have := h b hb
    unfold oneH at this
    rw [val_tv (ok_var (ok_a (hok b hb))), val_tv (ok_var (ok_b (hok b hb))), Bool.and_eq_true] at this
    exact this.2
  · unfold oneH
    rw [val_tv (ok_var (ok_a (hok b hb))), val_tv (ok_var (ok_b (hok b hb))), val_is (ok_var (ok_a (hok b hb))), val_is (ok_var (ok_b (hok b hb))), h b hb]
    rfl
def ILow (S : SI) (N : Nat) (L : List Rea.Bd) (f : Nat → Nat) : Prop := (∀ i, i < N → S.has (f i) = true) ∧ ∀ g, Sol S N L g → ∀ i, i < N → S.below (f i) (g i) = true
def IHigh (S : SI) (N : Nat) (L : List Rea.Bd) (f : Nat → Nat) : Prop := (∀ i, i < N → S.has (f i) = true) ∧ ∀ g, Sol S N L g → ∀ i, i < N → S.below (g i) (f i) = true
theorem way_low {S : SI} (hF : Full S) {N : Nat} {L : List Rea.Bd} (hok : ∀ b ∈ L, okB S N b = true) : ∃ μ, WayL S N L (ILow S N L) μ := by
  obtain ⟨r, R, hR, hr⟩ := hF.rank
  refine ⟨fun f => sumN (fun i => R - r (f i)) N, fun f h i hi => hF.lt _ (h.1 i hi), fun f h b hb hv hne => ?_, fun f g e => sumN_congr N fun i hi => by rw [e i hi]⟩
  have hn := ok_var (ok_b (hok b hb)) hv
  have hx := tv_has (ok_a (hok b hb)) h.1
  obtain ⟨j1, j2, j3⟩ := hF.join _ _ (h.1 _ hn) hx
  refine ⟨⟨fun i hi => ?_, fun g hg i hi => ?_⟩, ?_⟩
  · by_cases e : i = b.bn
    · rw [e, updF_at]
      exact (hF.hb _ _ j1).2
    · rw [updF_ne _ _ e]
      exact h.1 i hi
  · by_cases e : i = b.bn
    · rw [e, updF_at]
      refine j3 _ (h.2 g hg _ hn) (hF.trans _ _ _ (tv_mono hF (ok_a (hok b hb)) (h.2 g hg)) ?_)
      have := hg.2 b hb
      rw [hv, tv_true] at this
      exact this
    · rw [updF_ne _ _ e]
      exact h.2 g hg i hi
  · refine sumN_lt (i := b.bn) N hn (fun j hj e => by rw [updF_ne _ _ e]) ?_
    rw [updF_at]
    have := hr _ _ j1 (fun e => hne e.symm)
    have := hR _ (hF.hb _ _ j1).2
    omega
theorem way_high {S : SI} (hF : Full S) {N : Nat} {L : List Rea.Bd} (hok : ∀ b ∈ L, okB S N b = true) : ∃ μ, WayH S N L (IHigh S N L) μ := by
  obtain ⟨r, R, hR, hr⟩ := hF.rank
  refine ⟨fun f => sumN (fun i => r (f i)) N, fun f h i hi => hF.lt _ (h.1 i hi), fun f h b hb hv hne => ?_, fun f g e => sumN_congr N fun i hi => by rw [e i hi]⟩
  have hn := ok_var (ok_a (hok b hb)) hv
  have hx := tv_has (ok_b (hok b hb)) h.1
  obtain ⟨j1, j2, j3⟩ := hF.meet _ _ (h.1 _ hn) hx
  refine ⟨⟨fun i hi => ?_, fun g hg i hi => ?_⟩, ?_⟩
  · by_cases e : i = b.an
    · rw [e, updF_at]
      exact (hF.hb _ _ j1).1
    · rw [updF_ne _ _ e]
      exact h.1 i hi
  · by_cases e : i = b.an
    · rw [e, updF_at]
      refine j3 _ (h.2 g hg _ hn) (hF.trans _ _ _ ?_ (tv_mono hF (ok_b (hok b hb)) (h.2 g hg)))
      have := hg.2 b hb
      rw [hv, tv_true] at this
      exact this
    · rw [updF_ne _ _ e]
      exact h.2 g hg i hi
  · refine sumN_lt (i := b.an) N hn (fun j hj e => by rw [updF_ne _ _ e]) ?_
    rw [updF_at]
    exact hr _ _ j1 hne
theorem way_low0 {S : SI} (hF : None S) {N : Nat} {L : List Rea.Bd} (hok : ∀ b ∈ L, okB S N b = true) : WayL S N L (fun f => ∀ i, i < N → f i = 0) (fun _ => 0) :=
  ⟨fun f h i hi => by rw [h i hi]; decide, fun f h b hb hv hne => absurd (by rw [hF.join, h _ (ok_var (ok_b (hok b hb)) hv)]) hne, fun _ _ _ => rfl⟩
theorem way_high0 {S : SI} (hF : None S) {N : Nat} {L : List Rea.Bd} (hok : ∀ b ∈ L, okB S N b = true) : WayH S N L (fun f => ∀ i, i < N → f i = 0) (fun _ => 0) :=
  ⟨fun f h i hi => by rw [h i hi]; decide, fun f h b hb hv hne => absurd (by rw [hF.meet, h _ (ok_var (ok_a (hok b hb)) hv)]) hne, fun _ _ _ => rfl⟩
/-- where nothing changes any more, below. -/
theorem low_of {S : SI} (hF : Full S) {N : Nat} {L : List Rea.Bd} (hok : ∀ b ∈ L, okB S N b = true) {f : Nat → Nat} (hi : ILow S N L f) (hs : ∀ b ∈ L, StillL S f b) : (holdF S (lst N f) L = true ↔ ∃ g, Sol S N L g) ∧ (holdF S (lst N f) L = true → Low S N L f) := by
  have key : holdF S (lst N f) L = true → Low S N L f := fun h => ⟨⟨hi.1, (hold_iff f hok).1 h⟩, hi.2⟩
  refine ⟨⟨fun h => ⟨f, (key h).1⟩, fun ⟨g, hg⟩ => (hold_iff f hok).2 fun b hb => ?_⟩, key⟩
  cases hv : b.bv with
  | true =>
    have hn := ok_var (ok_b (hok b hb)) hv
    have hx := tv_has (ok_a (hok b hb)) hi.1
    have := (hF.join _ _ (hi.1 _ hn) hx).2.1
    rw [hs b hb hv] at this
    rw [tv_true]
    exact this
  | false =>
    have h1 := tv_mono hF (ok_a (hok b hb)) (hi.2 g hg)
    have h2 := hg.2 b hb
    rw [hv, tv_false] at h2
    rw [tv_false]
    exact hF.trans _ _ _ h1 h2
theorem high_of {S : SI} (hF : Full S) {N : Nat} {L : List Rea.Bd} (hok : ∀ b ∈ L, okB S N b = true) {f g : Nat → Nat} (hi : IHigh S N L f) (hs : ∀ b ∈ L, StillH S f b) (hg : Sol S N L g) : High S N L f := by
  refine ⟨⟨hi.1, fun b hb => ?_⟩, hi.2⟩
  cases hv : b.av with
  | true =>
    have hn := ok_var (ok_a (hok b hb)) hv
    have hx := tv_has (ok_b (hok b hb)) hi.1
    have := (hF.meet _ _ (hi.1 _ hn) hx).2.1
    rw [hs b hb hv] at this
    rw [tv_true]
    exact this
  | false =>
    have h1 := tv_mono hF (ok_b (hok b hb)) (hi.2 g hg)
    have h2 := hg.2 b hb
    rw [hv, tv_false] at h2
    rw [tv_false]
    exact hF.trans _ _ _ h2 h1
/-- what Solve tells. -/
def Solved (S : SI) (N : Nat) (L : List Rea.Bd) (w : World) (e : Ending) (w' : World) : Prop :=
  Below w.heap.size w w' ∧
    ((chkF S (N : Int) L ≠ 0 ∧ e = .returned (.tuple #[.slice none 0 0, .slice none 0 0, .int .i64 ((chkF S (N : Int) L : Nat) : Int)])) ∨
      (chkF S (N : Int) L = 0 ∧ (¬ ∃ f, Sol S N L f) ∧ e = .returned (.tuple #[.slice none 0 0, .slice none 0 0, .int .i64 10])) ∨
      (chkF S (N : Int) L = 0 ∧ ∃ f g Bl Bh, Low S N L f ∧ High S N L g ∧ e = .returned (.tuple #[.slice (some ⟨Bl, 0, none⟩) N N, .slice (some ⟨Bh, 0, none⟩) N N, .int .i64 0]) ∧ w.heap.size ≤ Bl ∧ (w.heap.size ≤ Bh ∧ Bl ≠ Bh) ∧ RowN w' Bl N f ∧ RowN w' Bh N g))
theorem solved_any (v : Value) (S : SI) (hFN : Full S ∨ None S) (N : Nat) (h64 : N ≤ 64) (A2 : Option Addr) (m c2 : Nat) (L : List Rea.Bd) (hm : m = L.length) (hmm : m ≤ 256) (w : World) (hS : SortN w v S) (hL : Rea.Bds w A2 L) :
    Calls Tryz.prog 12 #[v, .int .i64 (N : Int), .slice A2 m c2] w (Solved S N L w) := by
  have hok : chkF S (N : Int) L = 0 → ∀ b ∈ L, okB S N b = true := fun h => chk_all h64 (by rw [← hm]; exact hmm) h
  by_cases hc : chkF S (N : Int) L = 0
  · rcases hFN with hF | hF
    · obtain ⟨μL, hwL⟩ := way_low hF (hok hc)
      obtain ⟨μH, hwH⟩ := way_high hF (hok hc)
      refine (solve_any v S N h64 A2 m c2 L hm hmm w hS hL (ILow S N L) (IHigh S N L) μL μH (fun _ => hwL) (fun _ => hwH) (fun _ => ⟨fun _ _ => hF.bot.1, fun g hg i hi => hF.bot.2 _ (hg.1 i hi)⟩) (fun _ => ⟨fun _ _ => hF.top.1, fun g hg i hi => hF.top.2 _ (hg.1 i hi)⟩)).mono ?_
      rintro e w' ⟨hb, ⟨h, _⟩ | ⟨_, f, g, hi, hs, hi', hs', h⟩⟩
      · exact absurd hc h
      · obtain ⟨k1, k2⟩ := low_of hF (hok hc) hi hs
        rcases h with ⟨h | h, rfl⟩ | ⟨_, h, Bl, Bh, rfl, h1, h2, h3, h4⟩
        · rw [hF.bot.1] at h
          cases h.2
        · refine ⟨hb, .inr (.inl ⟨hc, fun hs => ?_, rfl⟩)⟩
          rw [k1.2 hs] at h
          cases h
        · exact ⟨hb, .inr (.inr ⟨hc, f, g, Bl, Bh, k2 h, high_of hF (hok hc) hi' hs' (k2 h).1, rfl, h1, h2, h3, h4⟩)⟩
    · refine (solve_any v S N h64 A2 m c2 L hm hmm w hS hL _ _ _ _ (fun _ => way_low0 hF (hok hc)) (fun _ => way_high0 hF (hok hc)) (fun _ _ _ => hF.bot) (fun _ _ _ => hF.top)).mono ?_
      rintro e w' ⟨hb, ⟨h, _⟩ | ⟨_, f, g, hi, hs, hi', hs', h⟩⟩
      · exact absurd hc h
      · by_cases hN : N = 0
        · subst hN
          have hl : L = [] := by
            cases L with
            | nil => rfl
            | cons b l =>
              have h0 := ok_a (hok hc b (List.mem_cons_self ..))
              cases hv : b.av with
              | true => exact absurd (ok_var h0 hv) (by omega)
              | false =>
                have := ok_con h0 hv
                rw [hF.has] at this
                cases this
          subst hl
          rcases h with ⟨h | h, rfl⟩ | ⟨_, h, Bl, Bh, rfl, h1, h2, h3, h4⟩
          · omega
          · cases h
          · have sl : ∀ k, Sol S 0 [] k := fun k => ⟨fun i hi => absurd hi (by omega), fun b hb => by cases hb⟩
            exact ⟨hb, .inr (.inr ⟨hc, f, g, Bl, Bh, ⟨sl _, fun _ _ i hi => absurd hi (by omega)⟩, ⟨sl _, fun _ _ i hi => absurd hi (by omega)⟩, rfl, h1, h2, h3, h4⟩)⟩
        · have ns : ¬ ∃ f, Sol S N L f := fun ⟨f, h⟩ => by
            have := h.1 0 (by omega)
            rw [hF.has] at this
            cases this
          rcases h with ⟨_, rfl⟩ | ⟨h, _⟩
          · exact ⟨hb, .inr (.inl ⟨hc, ns, rfl⟩)⟩
          · have := h (by omega)
            rw [hF.has] at this
            cases this
  · have F : ∀ {p : Prop}, chkF S (N : Int) L = 0 → p := fun h => absurd h hc
    refine (solve_any v S N h64 A2 m c2 L hm hmm w hS hL (fun _ => False) (fun _ => False) (fun _ => 0) (fun _ => 0) F F F F).mono ?_
    rintro e w' ⟨hb, ⟨h, rfl⟩ | ⟨h, _⟩⟩
    · exact ⟨hb, .inl ⟨h, rfl⟩⟩
    · exact absurd h hc
end Go.Proofs.YtajilghlcfheiaaGreatDoor.Bnd
