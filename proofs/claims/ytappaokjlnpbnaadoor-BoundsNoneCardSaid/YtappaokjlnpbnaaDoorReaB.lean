/- Whatever values hold of bounds, a variable's is below those of all that it reaches: the law's walk. -/
import Derived.Test.YtappaokjlnpbnaaDoorHold
import Derived.Test.YtappaokjlnpbnaaDoorRea
import Derived.Test.YtappaokjlnpbnaaDoorBase
import Derived.Deep.QuietTactic
import Derived.BigQuiet
import Derived.Deep.Cut
import Derived.Deep.CutRange
namespace Go.Proofs.YtappaokjlnpbnaaDoor
open Go.RowKit Go.Proofs.YtappaokjlnpbnaaDoorW.PrintWords
theorem hold_reach {rows vals : List Nat} {L : List Rea.Bd} {n : Nat} (hf : Fine rows) (hh : holdF (latS rows) (vals.take n) L = true) {i j : Nat} (h : Rea.reach n L i j = true) : i = j ∨ rowB rows (vals.getD i 0) (vals.getD j 0) = true := by
  refine Rea.reach_least n L (fun i j => i = j ∨ rowB rows (vals.getD i 0) (vals.getD j 0) = true) (fun i => .inl rfl) ?_ ?_ i j h
  · intro b hb h1 h2
    have := List.all_eq_true.1 hh b hb
    unfold oneH at this
    rw [h1, h2, Bool.and_eq_true, Bool.and_eq_true] at this
    obtain ⟨⟨k1, k2⟩, k3⟩ := this
    right
    have e : ∀ x, (valF (vals.take n) true x).2 = true → (valF (vals.take n) true x).1 = vals.getD x 0 := fun x hx => by
      unfold valF at hx ⊢
      rw [if_neg (by simp)] at hx ⊢
      by_cases hl : x < (vals.take n).length
      · rw [if_pos hl]
        rw [List.length_take] at hl
        simp [List.getD, show x < n by omega]
      · rw [if_neg hl] at hx
        cases hx
    rw [e _ k1, e _ k2] at k3
    exact k3
  · rintro i j k (rfl | h1) (rfl | h2)
    · exact .inl rfl
    · exact .inr h2
    · exact .inr h1
    · exact .inr (hf.ord.trans _ _ _ h1 h2)
theorem Nums.take {w : World} {A : Option Addr} {xs : List Nat} (h : Nums w A xs) (t : Nat) : Nums w A (xs.take t) :=
  ⟨fun x hx => h.1 x (List.mem_of_mem_take hx), fun hp => by
    rw [List.length_take] at hp
    obtain ⟨b, off, e, hlt, hc⟩ := h.2 (by omega)
    refine ⟨b, off, e, hlt, fun j hj => ?_⟩
    rw [List.length_take] at hj
    rw [hc j (by omega), List.getElem_take]⟩
theorem of_all (a : Option Addr) (cap : Nat) (L : List Rea.Bd) (n m : Nat) (hn : n ≤ 64) (hm : m = L.length) (hmm : m ≤ 9223372036854775807) (w : World) (hL : Rea.Bds w a L) : Calls Tryd.prog 43 #[.int .i64 (n : Int), .slice a m cap] w fun e w' => Below w.heap.size w w' ∧ ((m ≤ 256 ∧ ∃ X, e = .returned (.tuple #[.slice X n n, .int .i64 0]) ∧ Rea.IsM w' X n (Rea.reach n L)) ∨ ∃ x : Int, x ≠ 0 ∧ e = .returned (.tuple #[.slice none 0 0, .int .i64 x])) := by
  by_cases h : m ≤ 256
  · refine (Rea.of_any a cap L n m hn hm h w hL).mono ?_
    rintro e w' ⟨hb, ⟨_, X, rfl, hx⟩ | ⟨_, rfl⟩⟩
    · exact ⟨hb, .inl ⟨h, X, rfl, hx⟩⟩
    · exact ⟨hb, .inr ⟨1, by decide, rfl⟩⟩
  · refine (Rea.of_lim a cap m n (.inr (.inr (by omega))) (by omega) w).mono ?_
    rintro e w' ⟨rfl, hb⟩
    exact ⟨hb, .inr ⟨3, by decide, rfl⟩⟩
theorem isM_below {w w' : World} {a : Option Addr} {n : Nat} {M : Nat → Nat → Bool} (h : Rea.IsM w a n M) (hb : Below w.heap.size w w') : Rea.IsM w' a n M := by
  intro i hi
  obtain ⟨O, e, g, h1, h2⟩ := h i hi
  exact ⟨O, e, g, (hb.cell (p := ⟨O, i, none⟩) (World.block_lt_of_cell? w _ h1)).trans h1, fun j hj => (hb.cell (p := ⟨g, j, none⟩) (World.block_lt_of_cell? w _ (h2 j hj))).trans (h2 j hj)⟩
theorem z_on {w w' : World} {B : Nat} {x y z : Value} (h : w.cell? ⟨B, 0, none⟩ = some x ∧ w.cell? ⟨B, 1, none⟩ = some y ∧ w.cell? ⟨B, 2, none⟩ = some z) (hb : Below w.heap.size w w') : w'.cell? ⟨B, 0, none⟩ = some x ∧ w'.cell? ⟨B, 1, none⟩ = some y ∧ w'.cell? ⟨B, 2, none⟩ = some z := by
  have hl := World.block_lt_of_cell? w _ h.1
  exact ⟨(hb.cell (p := ⟨B, 0, none⟩) hl).trans h.1, (hb.cell (p := ⟨B, 1, none⟩) hl).trans h.2.1, (hb.cell (p := ⟨B, 2, none⟩) hl).trans h.2.2⟩
set_option maxRecDepth 100000 in
set_option maxHeartbeats 4000000 in
theorem reab_in (A1 : Option Addr) (n1 c1 : Nat) (rows : List Nat) (A2 : Option Addr) (m c2 : Nat) (L : List Rea.Bd) (A3 : Option Addr) (k c3 : Nat) (vals : List Nat)
    (h1 : n1 = rows.length) (hm1 : n1 ≤ 9223372036854775807) (h2 : m = L.length) (hm2 : m ≤ 9223372036854775807) (h3 : k = vals.length) (hm3 : k ≤ c3) (hc3 : c3 ≤ 9223372036854775807) (w : World) (hR : Nums w A1 rows) (hL : Rea.Bds w A2 L) (hV : Nums w A3 vals) (hT : Tab w) :
    Calls Tryd.prog 14 #[.agg #[.slice A1 n1 c1, .slice A2 m c2, .slice A3 k c3]] w fun e w' => e = .returned (.bool true) ∧ Below w.heap.size w w' := by
  have HR := Lib.hid hR
  have HL := Lib.hid hL
  have HV := Lib.hid hV
  have HT := Lib.hid hT
  have H1 := Lib.hid h1
  have H2 := Lib.hid h2
  have H3 := Lib.hid h3
  clear hR hL hV hT h1 h2 h3
  obtain ⟨n, hn⟩ : ∃ n, n = min 64 k := ⟨_, rfl⟩
  have hn64 : n ≤ 64 := by omega
  have hnk : n ≤ k := by omega
  have HNE := Lib.hid hn
  clear hn
  obtain ⟨O, hO⟩ : ∃ O, O = Obj.cells #[.slice A1 n1 c1, .slice A2 m c2, .slice A3 k c3] 77 := ⟨_, rfl⟩
  have hZ0 : (w.alloc O).heap[w.heap.size]? = some (.cells #[.slice A1 n1 c1, .slice A2 m c2, .slice A3 k c3] 77 (0, 0)) := by rw [hO]; exact heap_alloc_new w _
  have HB0 := Lib.hid (lit_below w O)
  have cz0 : (w.alloc O).cell? ⟨w.heap.size, 0, none⟩ = some (.slice A1 n1 c1) := by rw [cell_of_row _ _ _ _ _ _ hZ0]; rfl
  have cz1 : (w.alloc O).cell? ⟨w.heap.size, 1, none⟩ = some (.slice A2 m c2) := by rw [cell_of_row _ _ _ _ _ _ hZ0]; rfl
  have cz2 : (w.alloc O).cell? ⟨w.heap.size, 2, none⟩ = some (.slice A3 k c3) := by rw [cell_of_row _ _ _ _ _ _ hZ0]; rfl
  have HZ := Lib.hid (⟨cz0, cz1, cz2⟩ : _ ∧ _ ∧ _)
  clear hZ0 cz0 cz1 cz2
  go_enter Tryd.func14, Tryd.ntmps14
  go_upto_region 1 with fail
  rw [← hO]
  obtain ⟨BZ, hBZ⟩ : ∃ B, B = w.heap.size := ⟨_, rfl⟩
  rw [← hBZ] at HZ
  rw [← hBZ]
  clear hBZ hO
  generalize w.alloc O = w1 at *
  obtain ⟨cz0, cz1, cz2⟩ := HZ.out
  go_cut [3] from 10 to 13 (fun s wx => s = .int .i64 (n : Int) ∧ w1 = wx)
  case first =>
    by_cases h64 : 64 < k
    · have hk : (n : Int) = 64 := by have := HNE.out; omega
      go_wp2_with fail
      all_goals
        go_meet
        exact ⟨by congr 1; omega, rfl⟩
    · have hk : (n : Int) = (k : Int) := by have := HNE.out; omega
      go_wp2_with fail
      all_goals
        go_meet
        exact ⟨by congr 1; omega, rfl⟩
  case rest =>
    obtain ⟨rfl, hwc⟩ := hcut
    subst hwc
    go_wp2_with fail
    refine (of_all A2 c2 L n m hn64 H2.out hm2 w1 (HL.out.below HB0.out)).mono ?_
    rintro e w2 ⟨hb2, hof⟩
    have HB2 := Lib.hid hb2
    have HZ2 := Lib.hid (z_on HZ.out hb2)
    have HOF := Lib.hid hof
    clear hb2 cz0 cz1 cz2 hof
    obtain ⟨cz0, cz1, cz2⟩ := HZ2.out
    have HNW := Lib.hid (new_any A1 n1 c1 rows H1.out hm1 w2 ((HR.out.below HB0.out).below HB2.out) ((HT.out.below HB0.out).below HB2.out))
    have i1 : (0 : Int) ≤ (n : Int) := by omega
    have i2 : (n : Int) ≤ (k : Int) := by omega
    have i3 : (k : Int) ≤ (c3 : Int) := by omega
    have i4 : ¬ c3 < n := by omega
    rcases HOF.out with ⟨hm256, X, rfl, hX⟩ | ⟨e, he, rfl⟩
    · have HX2 := Lib.hid hX
      have dm : decide (300 < (m : Int)) = false := by simp; omega
      clear hX HOF
      go_wp2_with fail
      refine HNW.out.mono ?_
      rintro e wd ⟨hb3, hnew⟩
      have HB3 := Lib.hid (on HB2.out hb3)
      have HZ3 := Lib.hid (z_on HZ2.out hb3)
      have HX3 := Lib.hid (isM_below HX2.out hb3)
      have HNEW := Lib.hid hnew
      clear hb3 hnew cz0 cz1 cz2
      have HSQ := Lib.hid (fun W (h : Below wd.heap.size wd W) => Rea.square_any X n hn64 _ W (isM_below HX3.out h))
      obtain ⟨cz0, cz1, cz2⟩ := HZ3.out
      rcases HNEW.out with ⟨hr, rfl⟩ | ⟨hf, BL, rfl, _, hl⟩
      · obtain ⟨f, hff⟩ : ∃ f : Int, f = ((checkR rows : Nat) : Int) := ⟨_, rfl⟩
        have df : (f != 0) = true := by simp; omega
        rw [← hff]
        clear hff hr HNEW
        go_upto_region 4 with fail
        refine wp_region_held (S := fun W => Below wd.heap.size wd W) (by kernel_rfl) ?_
        generalize hA0 : Act.mk _ _ = a0
        have hF := Fr.nil (n := 105) (a := a0) (by rw [← hA0]; rfl)
        replace hF := Fr.cons hF 7 (.int .i64 (f : Int)) (by rw [← hA0]; rfl)
        replace hF := Fr.cons hF 6 (.pointer none) (by rw [← hA0]; rfl)
        replace hF := Fr.cons hF 5 (.int .i64 0) (by rw [← hA0]; rfl)
        replace hF := Fr.cons hF 4 (.slice X n n) (by rw [← hA0]; rfl)
        replace hF := Fr.cons hF 3 (.int .i64 (n : Int)) (by rw [← hA0]; rfl)
        replace hF := Fr.cons hF 1 (.pointer (some ⟨BZ, 0, none⟩)) (by rw [← hA0]; rfl)
        have hS : Below wd.heap.size wd (World.drew _) := (Below.refl _ wd).drew
        change wpAnyH _ _ _ _ _ _ _ _ (World.drew _)
        refine tk (i := 0) (d := 27) (v := .int .i64 0) hF rfl rfl (by kernel_rfl) (by kernel_rfl) (by kernel_rfl) (fun _ _ _ h => h) (yi_go rfl (fun W hW => ex_move W rfl (fr_at hF 3 rfl))) hS rfl (by decide) (fun a1 hA1 hF' => ?_)
        replace hF := hF'; clear hF'
        refine tk (i := 1) (d := 28) (v := .bool false) hF rfl rfl (by kernel_rfl) (by kernel_rfl) (by kernel_rfl) (fun _ _ _ h => h) (yi_go rfl (fun W hW => by skip; have f27 := fr_at hF 0 rfl; go_simp)) hS rfl (by decide) (fun a2 hA2 hF' => ?_)
        replace hF := hF'; clear hF'
        refine tk (i := 2) (d := 29) (v := .bool false) hF rfl rfl (by kernel_rfl) (by kernel_rfl) (by kernel_rfl) (fun _ _ _ h => h) (yi_go rfl (fun W hW => ex_move W rfl (fr_at hF 0 rfl))) hS rfl (by decide) (fun a3 hA3 hF' => ?_)
        replace hF := hF'; clear hF'
        refine tk (i := 3) (d := 30) (v := .int .i64 (f : Int)) hF rfl rfl (by kernel_rfl) (by kernel_rfl) (by kernel_rfl) (fun _ _ _ h => h) (yi_want rfl rfl (fr_at hF 0 rfl) (fun W hW => ex_move W rfl (fr_at hF 8 rfl))) hS rfl (by decide) (fun a4 hA4 hF' => ?_)
        replace hF := hF'; clear hF'
        refine tk (i := 4) (d := 31) (v := .bool true) hF rfl rfl (by kernel_rfl) (by kernel_rfl) (by kernel_rfl) (fun _ _ _ h => h) (yi_want rfl rfl (fr_at hF 1 rfl) (fun W hW => by have f30 := fr_at hF 0 rfl; go_simp)) hS rfl (by decide) (fun a5 hA5 hF' => ?_)
        replace hF := hF'; clear hF'
        refine tk (i := 5) (d := 32) (v := .bool true) hF rfl rfl (by kernel_rfl) (by kernel_rfl) (by kernel_rfl) (fun _ _ _ h => h) (yi_go rfl (fun W hW => by have f29 := fr_at hF 2 rfl; have f31 := fr_at hF 0 rfl; go_simp)) hS rfl (by decide) (fun a6 hA6 hF' => ?_)
        replace hF := hF'; clear hF'
        refine tk (i := 6) (d := 33) (v := .bool true) hF rfl rfl (by kernel_rfl) (by kernel_rfl) (by kernel_rfl) (fun _ _ _ h => h) (yi_go rfl (fun W hW => ex_move W rfl (fr_at hF 0 rfl))) hS rfl (by decide) (fun a7 hA7 hF' => ?_)
        replace hF := hF'; clear hF'
        refine tk (i := 7) (d := 34) (v := undef) hF rfl rfl (by kernel_rfl) (by kernel_rfl) (by kernel_rfl) (fun _ _ _ h => h) (yi_skip rfl rfl (fr_at hF 0 rfl)) hS rfl (by decide) (fun a8 hA8 hF' => ?_)
        replace hF := hF'; clear hF'
        refine tk (i := 8) (d := 35) (v := undef) hF rfl rfl (by kernel_rfl) (by kernel_rfl) (by kernel_rfl) (fun _ _ _ h => h) (yi_skip rfl rfl (fr_at hF 1 rfl)) hS rfl (by decide) (fun a9 hA9 hF' => ?_)
        replace hF := hF'; clear hF'
        refine tk (i := 9) (d := 36) (v := undef) hF rfl rfl (by kernel_rfl) (by kernel_rfl) (by kernel_rfl) (fun _ _ _ h => h) (yi_skip rfl rfl (fr_at hF 2 rfl)) hS rfl (by decide) (fun a10 hA10 hF' => ?_)
        replace hF := hF'; clear hF'
        refine tk (i := 10) (d := 37) (v := undef) hF rfl rfl (by kernel_rfl) (by kernel_rfl) (by kernel_rfl) (fun _ _ _ h => h) (yi_skip rfl rfl (fr_at hF 3 rfl)) hS rfl (by decide) (fun a11 hA11 hF' => ?_)
        replace hF := hF'; clear hF'
        refine tk (i := 11) (d := 38) (v := .bool true) hF rfl rfl (by kernel_rfl) (by kernel_rfl) (by kernel_rfl) (fun _ _ _ h => h) (yi_go rfl (fun W hW => by have f33 := fr_at hF 4 rfl; have f37 := fr_at hF 0 rfl; go_simp)) hS rfl (by decide) (fun a12 hA12 hF' => ?_)
        replace hF := hF'; clear hF'
        refine tk (i := 12) (d := 39) (v := .bool true) hF rfl rfl (by kernel_rfl) (by kernel_rfl) (by kernel_rfl) (fun _ _ _ h => h) (yi_go rfl (fun W hW => ex_move W rfl (fr_at hF 0 rfl))) hS rfl (by decide) (fun a13 hA13 hF' => ?_)
        replace hF := hF'; clear hF'
        refine tk (i := 13) (d := 40) (v := undef) hF rfl rfl (by kernel_rfl) (by kernel_rfl) (by kernel_rfl) (fun _ _ _ h => h) (yi_skip rfl rfl (fr_at hF 0 rfl)) hS rfl (by decide) (fun a14 hA14 hF' => ?_)
        replace hF := hF'; clear hF'
        refine tk (i := 14) (d := 41) (v := undef) hF rfl rfl (by kernel_rfl) (by kernel_rfl) (by kernel_rfl) (fun _ _ _ h => h) (yi_skip rfl rfl (fr_at hF 1 rfl)) hS rfl (by decide) (fun a15 hA15 hF' => ?_)
        replace hF := hF'; clear hF'
        refine tk (i := 15) (d := 42) (v := undef) hF rfl rfl (by kernel_rfl) (by kernel_rfl) (by kernel_rfl) (fun _ _ _ h => h) (yi_skip rfl rfl (fr_at hF 2 rfl)) hS rfl (by decide) (fun a16 hA16 hF' => ?_)
        replace hF := hF'; clear hF'
        refine tk (i := 16) (d := 43) (v := undef) hF rfl rfl (by kernel_rfl) (by kernel_rfl) (by kernel_rfl) (fun _ _ _ h => h) (yi_skip rfl rfl (fr_at hF 3 rfl)) hS rfl (by decide) (fun a17 hA17 hF' => ?_)
        replace hF := hF'; clear hF'
        refine tk (i := 17) (d := 44) (v := .bool true) hF rfl rfl (by kernel_rfl) (by kernel_rfl) (by kernel_rfl) (fun _ _ _ h => h) (yi_go rfl (fun W hW => by have f39 := fr_at hF 4 rfl; have f43 := fr_at hF 0 rfl; go_simp)) hS rfl (by decide) (fun a18 hA18 hF' => ?_)
        replace hF := hF'; clear hF'
        refine tk (i := 18) (d := 45) (v := .bool true) hF rfl rfl (by kernel_rfl) (by kernel_rfl) (by kernel_rfl) (fun _ _ _ h => h) (yi_go rfl (fun W hW => ex_move W rfl (fr_at hF 0 rfl))) hS rfl (by decide) (fun a19 hA19 hF' => ?_)
        replace hF := hF'; clear hF'
        refine tk (i := 19) (d := 46) (v := undef) hF rfl rfl (by kernel_rfl) (by kernel_rfl) (by kernel_rfl) (fun _ _ _ h => h) (yi_skip rfl rfl (fr_at hF 0 rfl)) hS rfl (by decide) (fun a20 hA20 hF' => ?_)
        replace hF := hF'; clear hF'
        refine tk (i := 20) (d := 47) (v := undef) hF rfl rfl (by kernel_rfl) (by kernel_rfl) (by kernel_rfl) (fun _ _ _ h => h) (yi_skip rfl rfl (fr_at hF 1 rfl)) hS rfl (by decide) (fun a21 hA21 hF' => ?_)
        replace hF := hF'; clear hF'
        refine tk (i := 21) (d := 48) (v := undef) hF rfl rfl (by kernel_rfl) (by kernel_rfl) (by kernel_rfl) (fun _ _ _ h => h) (yi_skip rfl rfl (fr_at hF 2 rfl)) hS rfl (by decide) (fun a22 hA22 hF' => ?_)
        replace hF := hF'; clear hF'
        refine tk (i := 22) (d := 49) (v := undef) hF rfl rfl (by kernel_rfl) (by kernel_rfl) (by kernel_rfl) (fun _ _ _ h => h) (yi_skip rfl rfl (fr_at hF 3 rfl)) hS rfl (by decide) (fun a23 hA23 hF' => ?_)
        replace hF := hF'; clear hF'
        refine tk (i := 23) (d := 50) (v := undef) hF rfl rfl (by kernel_rfl) (by kernel_rfl) (by kernel_rfl) (fun _ _ _ h => h) (yi_skip rfl rfl (fr_at hF 4 rfl)) hS rfl (by decide) (fun a24 hA24 hF' => ?_)
        replace hF := hF'; clear hF'
        refine tk (i := 24) (d := 51) (v := undef) hF rfl rfl (by kernel_rfl) (by kernel_rfl) (by kernel_rfl) (fun _ _ _ h => h) (yi_skip rfl rfl (fr_at hF 5 rfl)) hS rfl (by decide) (fun a25 hA25 hF' => ?_)
        replace hF := hF'; clear hF'
        refine tk (i := 25) (d := 52) (v := undef) hF rfl rfl (by kernel_rfl) (by kernel_rfl) (by kernel_rfl) (fun _ _ _ h => h) (yi_skip rfl rfl (fr_at hF 6 rfl)) hS rfl (by decide) (fun a26 hA26 hF' => ?_)
        replace hF := hF'; clear hF'
        refine tk (i := 26) (d := 53) (v := undef) hF rfl rfl (by kernel_rfl) (by kernel_rfl) (by kernel_rfl) (fun _ _ _ h => h) (yi_skip rfl rfl (fr_at hF 7 rfl)) hS rfl (by decide) (fun a27 hA27 hF' => ?_)
        replace hF := hF'; clear hF'
        refine tk (i := 27) (d := 54) (v := undef) hF rfl rfl (by kernel_rfl) (by kernel_rfl) (by kernel_rfl) (fun _ _ _ h => h) (yi_skip rfl rfl (fr_at hF 8 rfl)) hS rfl (by decide) (fun a28 hA28 hF' => ?_)
        replace hF := hF'; clear hF'
        refine tk (i := 28) (d := 55) (v := undef) hF rfl rfl (by kernel_rfl) (by kernel_rfl) (by kernel_rfl) (fun _ _ _ h => h) (yi_skip rfl rfl (fr_at hF 9 rfl)) hS rfl (by decide) (fun a29 hA29 hF' => ?_)
        replace hF := hF'; clear hF'
        refine tk (i := 29) (d := 56) (v := .bool true) hF rfl rfl (by kernel_rfl) (by kernel_rfl) (by kernel_rfl) (fun _ _ _ h => h) (yi_go rfl (fun W hW => by have f45 := fr_at hF 10 rfl; have f55 := fr_at hF 0 rfl; go_simp)) hS rfl (by decide) (fun a30 hA30 hF' => ?_)
        replace hF := hF'; clear hF'
        refine wpAnyH_done (by kernel_rfl) ?_ _
        rw [← hA30, ← hA29, ← hA28, ← hA27, ← hA26, ← hA25, ← hA24, ← hA23, ← hA22, ← hA21, ← hA20, ← hA19, ← hA18, ← hA17, ← hA16, ← hA15, ← hA14, ← hA13, ← hA12, ← hA11, ← hA10, ← hA9, ← hA8, ← hA7, ← hA6, ← hA5, ← hA4, ← hA3, ← hA2, ← hA1, ← hA0]
        simp only [Act.put, List.setIfInBounds_toArray, List.set_cons_zero, List.set_cons_succ]
        clear hF
        have HB4 := Lib.hid (on HB3.out hS)
        have hs4 := hS
        clear hS
        go_wp2_with fail
        refine (Rea.alive_any _).mono ?_
        rintro e w5 ⟨rfl, hb5⟩
        have HB5 := Lib.hid (on HB4.out hb5)
        have HSQ5 := Lib.hid (on hs4 hb5)
        clear hb5
        go_wp2_with fail
        refine (HSQ.out _ HSQ5.out).mono ?_
        rintro e w6 ⟨rfl, hb6⟩
        have HB6 := Lib.hid (on HB5.out hb6)
        clear hb6
        go_wp2
        go_ret
        exact ⟨rfl, on HB0.out HB6.out⟩
      · have HF := Lib.hid hf
        have HL3 := Lib.hid hl
        clear hf hl HNEW
        have HHO := Lib.hid (fun W (h : Below wd.heap.size wd W) => hold_any (.iface 24 (.pointer (some ⟨BL, 0, none⟩))) (latS rows) A3 n c3 (vals.take n) (by rw [List.length_take, ← H3.out]; omega) (by omega) A2 m c2 L H2.out hm2 W (.inr ⟨24, _, rfl, lat_sort (HL3.out.below h).v (((HT.out.below HB0.out).below HB3.out).below h)⟩) (((HV.out.below HB0.out).below HB3.out).below h |>.take n) (((HL.out.below HB0.out).below HB3.out).below h))
        have HRE := Lib.hid (fun (hh : holdF (latS rows) (vals.take n) L = true) (i j : Nat) (h : Rea.reach n L i j = true) => hold_reach HF.out hh h)
        obtain ⟨q, hq⟩ : ∃ q, q = holdF (latS rows) (vals.take n) L := ⟨_, rfl⟩
        rw [← hq] at HHO HRE
        clear hq
        cases q with
        | false =>
          go_upto_region 4 with fail
          refine wp_region_held (S := fun W => Below wd.heap.size wd W) (by kernel_rfl) ?_
          generalize hA0 : Act.mk _ _ = a0
          have hF := Fr.nil (n := 105) (a := a0) (by rw [← hA0]; rfl)
          replace hF := Fr.cons hF 7 (.int .i64 0) (by rw [← hA0]; rfl)
          replace hF := Fr.cons hF 6 (.pointer (some ⟨BL, 0, none⟩)) (by rw [← hA0]; rfl)
          replace hF := Fr.cons hF 5 (.int .i64 0) (by rw [← hA0]; rfl)
          replace hF := Fr.cons hF 4 (.slice X n n) (by rw [← hA0]; rfl)
          replace hF := Fr.cons hF 3 (.int .i64 (n : Int)) (by rw [← hA0]; rfl)
          replace hF := Fr.cons hF 1 (.pointer (some ⟨BZ, 0, none⟩)) (by rw [← hA0]; rfl)
          have hS : Below wd.heap.size wd (World.drew _) := (Below.refl _ wd).drew
          change wpAnyH _ _ _ _ _ _ _ _ (World.drew _)
          refine tk (i := 0) (d := 27) (v := .int .i64 0) hF rfl rfl (by kernel_rfl) (by kernel_rfl) (by kernel_rfl) (fun _ _ _ h => h) (yi_go rfl (fun W hW => ex_move W rfl (fr_at hF 3 rfl))) hS rfl (by decide) (fun a1 hA1 hF' => ?_)
          replace hF := hF'; clear hF'
          refine tk (i := 1) (d := 28) (v := .bool false) hF rfl rfl (by kernel_rfl) (by kernel_rfl) (by kernel_rfl) (fun _ _ _ h => h) (yi_go rfl (fun W hW => by skip; have f27 := fr_at hF 0 rfl; go_simp)) hS rfl (by decide) (fun a2 hA2 hF' => ?_)
          replace hF := hF'; clear hF'
          refine tk (i := 2) (d := 29) (v := .bool false) hF rfl rfl (by kernel_rfl) (by kernel_rfl) (by kernel_rfl) (fun _ _ _ h => h) (yi_go rfl (fun W hW => ex_move W rfl (fr_at hF 0 rfl))) hS rfl (by decide) (fun a3 hA3 hF' => ?_)
          replace hF := hF'; clear hF'
          refine tk (i := 3) (d := 30) (v := .int .i64 0) hF rfl rfl (by kernel_rfl) (by kernel_rfl) (by kernel_rfl) (fun _ _ _ h => h) (yi_want rfl rfl (fr_at hF 0 rfl) (fun W hW => ex_move W rfl (fr_at hF 8 rfl))) hS rfl (by decide) (fun a4 hA4 hF' => ?_)
          replace hF := hF'; clear hF'
          refine tk (i := 4) (d := 31) (v := .bool false) hF rfl rfl (by kernel_rfl) (by kernel_rfl) (by kernel_rfl) (fun _ _ _ h => h) (yi_want rfl rfl (fr_at hF 1 rfl) (fun W hW => by have f30 := fr_at hF 0 rfl; go_simp)) hS rfl (by decide) (fun a5 hA5 hF' => ?_)
          replace hF := hF'; clear hF'
          refine tk (i := 5) (d := 32) (v := .bool false) hF rfl rfl (by kernel_rfl) (by kernel_rfl) (by kernel_rfl) (fun _ _ _ h => h) (yi_go rfl (fun W hW => by have f29 := fr_at hF 2 rfl; have f31 := fr_at hF 0 rfl; go_simp)) hS rfl (by decide) (fun a6 hA6 hF' => ?_)
          replace hF := hF'; clear hF'
          refine tk (i := 6) (d := 33) (v := .bool false) hF rfl rfl (by kernel_rfl) (by kernel_rfl) (by kernel_rfl) (fun _ _ _ h => h) (yi_go rfl (fun W hW => ex_move W rfl (fr_at hF 0 rfl))) hS rfl (by decide) (fun a7 hA7 hF' => ?_)
          replace hF := hF'; clear hF'
          refine tk (i := 7) (d := 34) (v := .pointer (some ⟨BZ, 1, none⟩)) hF rfl rfl (by kernel_rfl) (by kernel_rfl) (by kernel_rfl) (fun _ _ _ h => h) (yi_want rfl rfl (fr_at hF 0 rfl) (fun W hW => by have f1 := fr_at hF 7 rfl; go_simp)) hS rfl (by decide) (fun a8 hA8 hF' => ?_)
          replace hF := hF'; clear hF'
          refine tk (i := 8) (d := 35) (v := .slice A2 m c2) hF rfl rfl (by kernel_rfl) (by kernel_rfl) (by kernel_rfl) (fun _ _ _ h => h) (yi_want rfl rfl (fr_at hF 1 rfl) (fun W hW => by replace cz1 := (hW.cell (p := ⟨BZ, 1, none⟩) (World.block_lt_of_cell? _ _ cz1)).trans cz1; have f34 := fr_at hF 0 rfl; go_simp)) hS rfl (by decide) (fun a9 hA9 hF' => ?_)
          replace hF := hF'; clear hF'
          refine tk (i := 9) (d := 36) (v := .int .i64 (m : Int)) hF rfl rfl (by kernel_rfl) (by kernel_rfl) (by kernel_rfl) (fun _ _ _ h => h) (yi_want rfl rfl (fr_at hF 2 rfl) (fun W hW => by have f35 := fr_at hF 0 rfl; go_simp)) hS rfl (by decide) (fun a10 hA10 hF' => ?_)
          replace hF := hF'; clear hF'
          refine tk (i := 10) (d := 37) (v := .bool false) hF rfl rfl (by kernel_rfl) (by kernel_rfl) (by kernel_rfl) (fun _ _ _ h => h) (yi_want rfl rfl (fr_at hF 3 rfl) (fun W hW => by have f36 := fr_at hF 0 rfl; go_simp)) hS rfl (by decide) (fun a11 hA11 hF' => ?_)
          replace hF := hF'; clear hF'
          refine tk (i := 11) (d := 38) (v := .bool false) hF rfl rfl (by kernel_rfl) (by kernel_rfl) (by kernel_rfl) (fun _ _ _ h => h) (yi_go rfl (fun W hW => by have f33 := fr_at hF 4 rfl; have f37 := fr_at hF 0 rfl; go_simp)) hS rfl (by decide) (fun a12 hA12 hF' => ?_)
          replace hF := hF'; clear hF'
          refine tk (i := 12) (d := 39) (v := .bool false) hF rfl rfl (by kernel_rfl) (by kernel_rfl) (by kernel_rfl) (fun _ _ _ h => h) (yi_go rfl (fun W hW => ex_move W rfl (fr_at hF 0 rfl))) hS rfl (by decide) (fun a13 hA13 hF' => ?_)
          replace hF := hF'; clear hF'
          refine tk (i := 13) (d := 40) (v := .slice X n n) hF rfl rfl (by kernel_rfl) (by kernel_rfl) (by kernel_rfl) (fun _ _ _ h => h) (yi_want rfl rfl (fr_at hF 0 rfl) (fun W hW => ex_move W rfl (fr_at hF 15 rfl))) hS rfl (by decide) (fun a14 hA14 hF' => ?_)
          replace hF := hF'; clear hF'
          refine tk (i := 14) (d := 41) (v := .int .i64 (n : Int)) hF rfl rfl (by kernel_rfl) (by kernel_rfl) (by kernel_rfl) (fun _ _ _ h => h) (yi_want rfl rfl (fr_at hF 1 rfl) (fun W hW => ex_move W rfl (fr_at hF 15 rfl))) hS rfl (by decide) (fun a15 hA15 hF' => ?_)
          replace hF := hF'; clear hF'
          refine wpAnyH_ready (rs := [15]) (by kernel_rfl) (by simp) ?_
          refine AllReadyH.cons rfl (fun K hK => ?_) AllReadyH.nil
          rw [if_pos (by rw [guard_at rfl rfl (fr_at hF 2 rfl)]; rfl)]
          have f40 := fr_at hF 1 rfl
          have f41 := fr_at hF 0 rfl
          go_simp
          clear f40 f41
          go_at_call 44
          refine (HSQ.out _ hS).mono ?_
          rintro e wa ⟨rfl, hb⟩
          go_wp2_with fail
          refine hK.out _ _ (on hS hb) (fun _ => ?_)
          replace hS := on hS hb
          clear hK K
          change wpAnyH _ _ _ _ _ _ _ (a15.put (some 42) (.bool true)) _
          have hF' := fr_put hF 42 (.bool true) rfl (by decide)
          generalize hA16 : Act.put a15 (some 42) (.bool true) = a16 at hF' ⊢
          replace hF := hF'; clear hF'
          refine tk (i := 16) (d := 43) (v := .bool false) hF rfl rfl (by kernel_rfl) (by kernel_rfl) (by kernel_rfl) (fun _ _ _ h => h) (yi_want rfl rfl (fr_at hF 3 rfl) (fun W hW => by have f42 := fr_at hF 0 rfl; go_simp)) hS rfl (by decide) (fun a17 hA17 hF' => ?_)
          replace hF := hF'; clear hF'
          refine tk (i := 17) (d := 44) (v := .bool false) hF rfl rfl (by kernel_rfl) (by kernel_rfl) (by kernel_rfl) (fun _ _ _ h => h) (yi_go rfl (fun W hW => by have f39 := fr_at hF 4 rfl; have f43 := fr_at hF 0 rfl; go_simp)) hS rfl (by decide) (fun a18 hA18 hF' => ?_)
          replace hF := hF'; clear hF'
          refine tk (i := 18) (d := 45) (v := .bool false) hF rfl rfl (by kernel_rfl) (by kernel_rfl) (by kernel_rfl) (fun _ _ _ h => h) (yi_go rfl (fun W hW => ex_move W rfl (fr_at hF 0 rfl))) hS rfl (by decide) (fun a19 hA19 hF' => ?_)
          replace hF := hF'; clear hF'
          refine tk (i := 19) (d := 46) (v := .pointer (some ⟨BL, 0, none⟩)) hF rfl rfl (by kernel_rfl) (by kernel_rfl) (by kernel_rfl) (fun _ _ _ h => h) (yi_want rfl rfl (fr_at hF 0 rfl) (fun W hW => ex_move W rfl (fr_at hF 23 rfl))) hS rfl (by decide) (fun a20 hA20 hF' => ?_)
          replace hF := hF'; clear hF'
          refine tk (i := 20) (d := 47) (v := .iface 24 (.pointer (some ⟨BL, 0, none⟩))) hF rfl rfl (by kernel_rfl) (by kernel_rfl) (by kernel_rfl) (fun _ _ _ h => h) (yi_want rfl rfl (fr_at hF 1 rfl) (fun W hW => by have f46 := fr_at hF 0 rfl; go_simp)) hS rfl (by decide) (fun a21 hA21 hF' => ?_)
          replace hF := hF'; clear hF'
          refine tk (i := 21) (d := 48) (v := .pointer (some ⟨BZ, 2, none⟩)) hF rfl rfl (by kernel_rfl) (by kernel_rfl) (by kernel_rfl) (fun _ _ _ h => h) (yi_want rfl rfl (fr_at hF 2 rfl) (fun W hW => by have f1 := fr_at hF 21 rfl; go_simp)) hS rfl (by decide) (fun a22 hA22 hF' => ?_)
          replace hF := hF'; clear hF'
          refine tk (i := 22) (d := 49) (v := .slice A3 k c3) hF rfl rfl (by kernel_rfl) (by kernel_rfl) (by kernel_rfl) (fun _ _ _ h => h) (yi_want rfl rfl (fr_at hF 3 rfl) (fun W hW => by replace cz2 := (hW.cell (p := ⟨BZ, 2, none⟩) (World.block_lt_of_cell? _ _ cz2)).trans cz2; have f48 := fr_at hF 0 rfl; go_simp)) hS rfl (by decide) (fun a23 hA23 hF' => ?_)
          replace hF := hF'; clear hF'
          refine tk (i := 23) (d := 50) (v := .int .i64 (n : Int)) hF rfl rfl (by kernel_rfl) (by kernel_rfl) (by kernel_rfl) (fun _ _ _ h => h) (yi_want rfl rfl (fr_at hF 4 rfl) (fun W hW => ex_move W rfl (fr_at hF 24 rfl))) hS rfl (by decide) (fun a24 hA24 hF' => ?_)
          replace hF := hF'; clear hF'
          refine tk (i := 24) (d := 51) (v := .slice A3 n c3) hF rfl rfl (by kernel_rfl) (by kernel_rfl) (by kernel_rfl) (fun _ _ _ h => h) (yi_want rfl rfl (fr_at hF 5 rfl) (fun W hW => by have f49 := fr_at hF 1 rfl; have f50 := fr_at hF 0 rfl; go_simp)) hS rfl (by decide) (fun a25 hA25 hF' => ?_)
          replace hF := hF'; clear hF'
          refine tk (i := 25) (d := 52) (v := .pointer (some ⟨BZ, 1, none⟩)) hF rfl rfl (by kernel_rfl) (by kernel_rfl) (by kernel_rfl) (fun _ _ _ h => h) (yi_want rfl rfl (fr_at hF 6 rfl) (fun W hW => by have f1 := fr_at hF 25 rfl; go_simp)) hS rfl (by decide) (fun a26 hA26 hF' => ?_)
          replace hF := hF'; clear hF'
          refine tk (i := 26) (d := 53) (v := .slice A2 m c2) hF rfl rfl (by kernel_rfl) (by kernel_rfl) (by kernel_rfl) (fun _ _ _ h => h) (yi_want rfl rfl (fr_at hF 7 rfl) (fun W hW => by replace cz1 := (hW.cell (p := ⟨BZ, 1, none⟩) (World.block_lt_of_cell? _ _ cz1)).trans cz1; have f52 := fr_at hF 0 rfl; go_simp)) hS rfl (by decide) (fun a27 hA27 hF' => ?_)
          replace hF := hF'; clear hF'
          refine wpAnyH_ready (rs := [27]) (by kernel_rfl) (by simp) ?_
          refine AllReadyH.cons rfl (fun K hK => ?_) AllReadyH.nil
          rw [if_pos (by rw [guard_at rfl rfl (fr_at hF 8 rfl)]; rfl)]
          have f47 := fr_at hF 6 rfl
          have f51 := fr_at hF 2 rfl
          have f53 := fr_at hF 0 rfl
          go_simp
          clear f47 f51 f53
          go_at_call 36
          refine (HHO.out _ hS).mono ?_
          rintro e wb ⟨rfl, hb⟩
          go_wp2_with fail
          refine hK.out _ _ (on hS hb) (fun _ => ?_)
          replace hS := on hS hb
          clear hK K
          change wpAnyH _ _ _ _ _ _ _ (a27.put (some 54) (.bool false)) _
          have hF' := fr_put hF 54 (.bool false) rfl (by decide)
          generalize hA28 : Act.put a27 (some 54) (.bool false) = a28 at hF' ⊢
          replace hF := hF'; clear hF'
          refine tk (i := 28) (d := 55) (v := .bool true) hF rfl rfl (by kernel_rfl) (by kernel_rfl) (by kernel_rfl) (fun _ _ _ h => h) (yi_want rfl rfl (fr_at hF 9 rfl) (fun W hW => by have f54 := fr_at hF 0 rfl; go_simp)) hS rfl (by decide) (fun a29 hA29 hF' => ?_)
          replace hF := hF'; clear hF'
          refine tk (i := 29) (d := 56) (v := .bool true) hF rfl rfl (by kernel_rfl) (by kernel_rfl) (by kernel_rfl) (fun _ _ _ h => h) (yi_go rfl (fun W hW => by have f45 := fr_at hF 10 rfl; have f55 := fr_at hF 0 rfl; go_simp)) hS rfl (by decide) (fun a30 hA30 hF' => ?_)
          replace hF := hF'; clear hF'
          refine wpAnyH_done (by kernel_rfl) ?_ _
          rw [← hA30, ← hA29, ← hA28, ← hA27, ← hA26, ← hA25, ← hA24, ← hA23, ← hA22, ← hA21, ← hA20, ← hA19, ← hA18, ← hA17, ← hA16, ← hA15, ← hA14, ← hA13, ← hA12, ← hA11, ← hA10, ← hA9, ← hA8, ← hA7, ← hA6, ← hA5, ← hA4, ← hA3, ← hA2, ← hA1, ← hA0]
          simp only [Act.put, List.setIfInBounds_toArray, List.set_cons_zero, List.set_cons_succ]
          clear hF
          have HB4 := Lib.hid (on HB3.out hS)
          have hs4 := hS
          clear hS
          go_wp2_with fail
          refine (Rea.alive_any _).mono ?_
          rintro e w5 ⟨rfl, hb5⟩
          have HB5 := Lib.hid (on HB4.out hb5)
          have HSQ5 := Lib.hid (on hs4 hb5)
          clear hb5
          go_wp2_with fail
          refine (HSQ.out _ HSQ5.out).mono ?_
          rintro e w6 ⟨rfl, hb6⟩
          have HB6 := Lib.hid (on HB5.out hb6)
          clear hb6
          go_wp2
          go_ret
          exact ⟨rfl, on HB0.out HB6.out⟩
        | true =>
          have HRE2 := Lib.hid (HRE.out rfl)
          clear HRE
          go_upto_region 4 with fail
          refine wp_region_held (S := fun W => Below wd.heap.size wd W) (by kernel_rfl) ?_
          generalize hA0 : Act.mk _ _ = a0
          have hF := Fr.nil (n := 105) (a := a0) (by rw [← hA0]; rfl)
          replace hF := Fr.cons hF 7 (.int .i64 0) (by rw [← hA0]; rfl)
          replace hF := Fr.cons hF 6 (.pointer (some ⟨BL, 0, none⟩)) (by rw [← hA0]; rfl)
          replace hF := Fr.cons hF 5 (.int .i64 0) (by rw [← hA0]; rfl)
          replace hF := Fr.cons hF 4 (.slice X n n) (by rw [← hA0]; rfl)
          replace hF := Fr.cons hF 3 (.int .i64 (n : Int)) (by rw [← hA0]; rfl)
          replace hF := Fr.cons hF 1 (.pointer (some ⟨BZ, 0, none⟩)) (by rw [← hA0]; rfl)
          have hS : Below wd.heap.size wd (World.drew _) := (Below.refl _ wd).drew
          change wpAnyH _ _ _ _ _ _ _ _ (World.drew _)
          refine tk (i := 0) (d := 27) (v := .int .i64 0) hF rfl rfl (by kernel_rfl) (by kernel_rfl) (by kernel_rfl) (fun _ _ _ h => h) (yi_go rfl (fun W hW => ex_move W rfl (fr_at hF 3 rfl))) hS rfl (by decide) (fun a1 hA1 hF' => ?_)
          replace hF := hF'; clear hF'
          refine tk (i := 1) (d := 28) (v := .bool false) hF rfl rfl (by kernel_rfl) (by kernel_rfl) (by kernel_rfl) (fun _ _ _ h => h) (yi_go rfl (fun W hW => by skip; have f27 := fr_at hF 0 rfl; go_simp)) hS rfl (by decide) (fun a2 hA2 hF' => ?_)
          replace hF := hF'; clear hF'
          refine tk (i := 2) (d := 29) (v := .bool false) hF rfl rfl (by kernel_rfl) (by kernel_rfl) (by kernel_rfl) (fun _ _ _ h => h) (yi_go rfl (fun W hW => ex_move W rfl (fr_at hF 0 rfl))) hS rfl (by decide) (fun a3 hA3 hF' => ?_)
          replace hF := hF'; clear hF'
          refine tk (i := 3) (d := 30) (v := .int .i64 0) hF rfl rfl (by kernel_rfl) (by kernel_rfl) (by kernel_rfl) (fun _ _ _ h => h) (yi_want rfl rfl (fr_at hF 0 rfl) (fun W hW => ex_move W rfl (fr_at hF 8 rfl))) hS rfl (by decide) (fun a4 hA4 hF' => ?_)
          replace hF := hF'; clear hF'
          refine tk (i := 4) (d := 31) (v := .bool false) hF rfl rfl (by kernel_rfl) (by kernel_rfl) (by kernel_rfl) (fun _ _ _ h => h) (yi_want rfl rfl (fr_at hF 1 rfl) (fun W hW => by have f30 := fr_at hF 0 rfl; go_simp)) hS rfl (by decide) (fun a5 hA5 hF' => ?_)
          replace hF := hF'; clear hF'
          refine tk (i := 5) (d := 32) (v := .bool false) hF rfl rfl (by kernel_rfl) (by kernel_rfl) (by kernel_rfl) (fun _ _ _ h => h) (yi_go rfl (fun W hW => by have f29 := fr_at hF 2 rfl; have f31 := fr_at hF 0 rfl; go_simp)) hS rfl (by decide) (fun a6 hA6 hF' => ?_)
          replace hF := hF'; clear hF'
          refine tk (i := 6) (d := 33) (v := .bool false) hF rfl rfl (by kernel_rfl) (by kernel_rfl) (by kernel_rfl) (fun _ _ _ h => h) (yi_go rfl (fun W hW => ex_move W rfl (fr_at hF 0 rfl))) hS rfl (by decide) (fun a7 hA7 hF' => ?_)
          replace hF := hF'; clear hF'
          refine tk (i := 7) (d := 34) (v := .pointer (some ⟨BZ, 1, none⟩)) hF rfl rfl (by kernel_rfl) (by kernel_rfl) (by kernel_rfl) (fun _ _ _ h => h) (yi_want rfl rfl (fr_at hF 0 rfl) (fun W hW => by have f1 := fr_at hF 7 rfl; go_simp)) hS rfl (by decide) (fun a8 hA8 hF' => ?_)
          replace hF := hF'; clear hF'
          refine tk (i := 8) (d := 35) (v := .slice A2 m c2) hF rfl rfl (by kernel_rfl) (by kernel_rfl) (by kernel_rfl) (fun _ _ _ h => h) (yi_want rfl rfl (fr_at hF 1 rfl) (fun W hW => by replace cz1 := (hW.cell (p := ⟨BZ, 1, none⟩) (World.block_lt_of_cell? _ _ cz1)).trans cz1; have f34 := fr_at hF 0 rfl; go_simp)) hS rfl (by decide) (fun a9 hA9 hF' => ?_)
          replace hF := hF'; clear hF'
          refine tk (i := 9) (d := 36) (v := .int .i64 (m : Int)) hF rfl rfl (by kernel_rfl) (by kernel_rfl) (by kernel_rfl) (fun _ _ _ h => h) (yi_want rfl rfl (fr_at hF 2 rfl) (fun W hW => by have f35 := fr_at hF 0 rfl; go_simp)) hS rfl (by decide) (fun a10 hA10 hF' => ?_)
          replace hF := hF'; clear hF'
          refine tk (i := 10) (d := 37) (v := .bool false) hF rfl rfl (by kernel_rfl) (by kernel_rfl) (by kernel_rfl) (fun _ _ _ h => h) (yi_want rfl rfl (fr_at hF 3 rfl) (fun W hW => by have f36 := fr_at hF 0 rfl; go_simp)) hS rfl (by decide) (fun a11 hA11 hF' => ?_)
          replace hF := hF'; clear hF'
          refine tk (i := 11) (d := 38) (v := .bool false) hF rfl rfl (by kernel_rfl) (by kernel_rfl) (by kernel_rfl) (fun _ _ _ h => h) (yi_go rfl (fun W hW => by have f33 := fr_at hF 4 rfl; have f37 := fr_at hF 0 rfl; go_simp)) hS rfl (by decide) (fun a12 hA12 hF' => ?_)
          replace hF := hF'; clear hF'
          refine tk (i := 12) (d := 39) (v := .bool false) hF rfl rfl (by kernel_rfl) (by kernel_rfl) (by kernel_rfl) (fun _ _ _ h => h) (yi_go rfl (fun W hW => ex_move W rfl (fr_at hF 0 rfl))) hS rfl (by decide) (fun a13 hA13 hF' => ?_)
          replace hF := hF'; clear hF'
          refine tk (i := 13) (d := 40) (v := .slice X n n) hF rfl rfl (by kernel_rfl) (by kernel_rfl) (by kernel_rfl) (fun _ _ _ h => h) (yi_want rfl rfl (fr_at hF 0 rfl) (fun W hW => ex_move W rfl (fr_at hF 15 rfl))) hS rfl (by decide) (fun a14 hA14 hF' => ?_)
          replace hF := hF'; clear hF'
          refine tk (i := 14) (d := 41) (v := .int .i64 (n : Int)) hF rfl rfl (by kernel_rfl) (by kernel_rfl) (by kernel_rfl) (fun _ _ _ h => h) (yi_want rfl rfl (fr_at hF 1 rfl) (fun W hW => ex_move W rfl (fr_at hF 15 rfl))) hS rfl (by decide) (fun a15 hA15 hF' => ?_)
          replace hF := hF'; clear hF'
          refine wpAnyH_ready (rs := [15]) (by kernel_rfl) (by simp) ?_
          refine AllReadyH.cons rfl (fun K hK => ?_) AllReadyH.nil
          rw [if_pos (by rw [guard_at rfl rfl (fr_at hF 2 rfl)]; rfl)]
          have f40 := fr_at hF 1 rfl
          have f41 := fr_at hF 0 rfl
          go_simp
          clear f40 f41
          go_at_call 44
          refine (HSQ.out _ hS).mono ?_
          rintro e wa ⟨rfl, hb⟩
          go_wp2_with fail
          refine hK.out _ _ (on hS hb) (fun _ => ?_)
          replace hS := on hS hb
          clear hK K
          change wpAnyH _ _ _ _ _ _ _ (a15.put (some 42) (.bool true)) _
          have hF' := fr_put hF 42 (.bool true) rfl (by decide)
          generalize hA16 : Act.put a15 (some 42) (.bool true) = a16 at hF' ⊢
          replace hF := hF'; clear hF'
          refine tk (i := 16) (d := 43) (v := .bool false) hF rfl rfl (by kernel_rfl) (by kernel_rfl) (by kernel_rfl) (fun _ _ _ h => h) (yi_want rfl rfl (fr_at hF 3 rfl) (fun W hW => by have f42 := fr_at hF 0 rfl; go_simp)) hS rfl (by decide) (fun a17 hA17 hF' => ?_)
          replace hF := hF'; clear hF'
          refine tk (i := 17) (d := 44) (v := .bool false) hF rfl rfl (by kernel_rfl) (by kernel_rfl) (by kernel_rfl) (fun _ _ _ h => h) (yi_go rfl (fun W hW => by have f39 := fr_at hF 4 rfl; have f43 := fr_at hF 0 rfl; go_simp)) hS rfl (by decide) (fun a18 hA18 hF' => ?_)
          replace hF := hF'; clear hF'
          refine tk (i := 18) (d := 45) (v := .bool false) hF rfl rfl (by kernel_rfl) (by kernel_rfl) (by kernel_rfl) (fun _ _ _ h => h) (yi_go rfl (fun W hW => ex_move W rfl (fr_at hF 0 rfl))) hS rfl (by decide) (fun a19 hA19 hF' => ?_)
          replace hF := hF'; clear hF'
          refine tk (i := 19) (d := 46) (v := .pointer (some ⟨BL, 0, none⟩)) hF rfl rfl (by kernel_rfl) (by kernel_rfl) (by kernel_rfl) (fun _ _ _ h => h) (yi_want rfl rfl (fr_at hF 0 rfl) (fun W hW => ex_move W rfl (fr_at hF 23 rfl))) hS rfl (by decide) (fun a20 hA20 hF' => ?_)
          replace hF := hF'; clear hF'
          refine tk (i := 20) (d := 47) (v := .iface 24 (.pointer (some ⟨BL, 0, none⟩))) hF rfl rfl (by kernel_rfl) (by kernel_rfl) (by kernel_rfl) (fun _ _ _ h => h) (yi_want rfl rfl (fr_at hF 1 rfl) (fun W hW => by have f46 := fr_at hF 0 rfl; go_simp)) hS rfl (by decide) (fun a21 hA21 hF' => ?_)
          replace hF := hF'; clear hF'
          refine tk (i := 21) (d := 48) (v := .pointer (some ⟨BZ, 2, none⟩)) hF rfl rfl (by kernel_rfl) (by kernel_rfl) (by kernel_rfl) (fun _ _ _ h => h) (yi_want rfl rfl (fr_at hF 2 rfl) (fun W hW => by have f1 := fr_at hF 21 rfl; go_simp)) hS rfl (by decide) (fun a22 hA22 hF' => ?_)
          replace hF := hF'; clear hF'
          refine tk (i := 22) (d := 49) (v := .slice A3 k c3) hF rfl rfl (by kernel_rfl) (by kernel_rfl) (by kernel_rfl) (fun _ _ _ h => h) (yi_want rfl rfl (fr_at hF 3 rfl) (fun W hW => by replace cz2 := (hW.cell (p := ⟨BZ, 2, none⟩) (World.block_lt_of_cell? _ _ cz2)).trans cz2; have f48 := fr_at hF 0 rfl; go_simp)) hS rfl (by decide) (fun a23 hA23 hF' => ?_)
          replace hF := hF'; clear hF'
          refine tk (i := 23) (d := 50) (v := .int .i64 (n : Int)) hF rfl rfl (by kernel_rfl) (by kernel_rfl) (by kernel_rfl) (fun _ _ _ h => h) (yi_want rfl rfl (fr_at hF 4 rfl) (fun W hW => ex_move W rfl (fr_at hF 24 rfl))) hS rfl (by decide) (fun a24 hA24 hF' => ?_)
          replace hF := hF'; clear hF'
          refine tk (i := 24) (d := 51) (v := .slice A3 n c3) hF rfl rfl (by kernel_rfl) (by kernel_rfl) (by kernel_rfl) (fun _ _ _ h => h) (yi_want rfl rfl (fr_at hF 5 rfl) (fun W hW => by have f49 := fr_at hF 1 rfl; have f50 := fr_at hF 0 rfl; go_simp)) hS rfl (by decide) (fun a25 hA25 hF' => ?_)
          replace hF := hF'; clear hF'
          refine tk (i := 25) (d := 52) (v := .pointer (some ⟨BZ, 1, none⟩)) hF rfl rfl (by kernel_rfl) (by kernel_rfl) (by kernel_rfl) (fun _ _ _ h => h) (yi_want rfl rfl (fr_at hF 6 rfl) (fun W hW => by have f1 := fr_at hF 25 rfl; go_simp)) hS rfl (by decide) (fun a26 hA26 hF' => ?_)
          replace hF := hF'; clear hF'
          refine tk (i := 26) (d := 53) (v := .slice A2 m c2) hF rfl rfl (by kernel_rfl) (by kernel_rfl) (by kernel_rfl) (fun _ _ _ h => h) (yi_want rfl rfl (fr_at hF 7 rfl) (fun W hW => by replace cz1 := (hW.cell (p := ⟨BZ, 1, none⟩) (World.block_lt_of_cell? _ _ cz1)).trans cz1; have f52 := fr_at hF 0 rfl; go_simp)) hS rfl (by decide) (fun a27 hA27 hF' => ?_)
          replace hF := hF'; clear hF'
          refine wpAnyH_ready (rs := [27]) (by kernel_rfl) (by simp) ?_
          refine AllReadyH.cons rfl (fun K hK => ?_) AllReadyH.nil
          rw [if_pos (by rw [guard_at rfl rfl (fr_at hF 8 rfl)]; rfl)]
          have f47 := fr_at hF 6 rfl
          have f51 := fr_at hF 2 rfl
          have f53 := fr_at hF 0 rfl
          go_simp
          clear f47 f51 f53
          go_at_call 36
          refine (HHO.out _ hS).mono ?_
          rintro e wb ⟨rfl, hb⟩
          go_wp2_with fail
          refine hK.out _ _ (on hS hb) (fun _ => ?_)
          replace hS := on hS hb
          clear hK K
          change wpAnyH _ _ _ _ _ _ _ (a27.put (some 54) (.bool true)) _
          have hF' := fr_put hF 54 (.bool true) rfl (by decide)
          generalize hA28 : Act.put a27 (some 54) (.bool true) = a28 at hF' ⊢
          replace hF := hF'; clear hF'
          refine tk (i := 28) (d := 55) (v := .bool false) hF rfl rfl (by kernel_rfl) (by kernel_rfl) (by kernel_rfl) (fun _ _ _ h => h) (yi_want rfl rfl (fr_at hF 9 rfl) (fun W hW => by have f54 := fr_at hF 0 rfl; go_simp)) hS rfl (by decide) (fun a29 hA29 hF' => ?_)
          replace hF := hF'; clear hF'
          refine tk (i := 29) (d := 56) (v := .bool false) hF rfl rfl (by kernel_rfl) (by kernel_rfl) (by kernel_rfl) (fun _ _ _ h => h) (yi_go rfl (fun W hW => by have f45 := fr_at hF 10 rfl; have f55 := fr_at hF 0 rfl; go_simp)) hS rfl (by decide) (fun a30 hA30 hF' => ?_)
          replace hF := hF'; clear hF'
          refine wpAnyH_done (by kernel_rfl) ?_ _
          rw [← hA30, ← hA29, ← hA28, ← hA27, ← hA26, ← hA25, ← hA24, ← hA23, ← hA22, ← hA21, ← hA20, ← hA19, ← hA18, ← hA17, ← hA16, ← hA15, ← hA14, ← hA13, ← hA12, ← hA11, ← hA10, ← hA9, ← hA8, ← hA7, ← hA6, ← hA5, ← hA4, ← hA3, ← hA2, ← hA1, ← hA0]
          simp only [Act.put, List.setIfInBounds_toArray, List.set_cons_zero, List.set_cons_succ]
          clear hF
          have HB4 := Lib.hid (on HB3.out hS)
          have HX4 := Lib.hid (isM_below HX3.out hS)
          have HZ4 := Lib.hid (z_on HZ3.out hS)
          have HL4 := Lib.hid (HL3.out.below hS)
          have hs4 := Lib.hid hS
          clear hS cz0 cz1 cz2
          have HQ := Lib.hid (fun W (h : Below wd.heap.size wd W) (x y : Nat) => latbelow_any (.pointer (some ⟨BL, 0, none⟩)) rows x y W (HL3.out.below h).v)
          have HVD := Lib.hid (((HV.out.below HB0.out).below HB3.out))
          clear HHO HSQ HNW HX4 HZ4 HL4 HX2 HZ2
          go_wp2_with fail
          go_loopw [8] (fun v wr => ∃ i : Nat, i ≤ n ∧ v = .int .i64 i ∧ Hid (Below wd.heap.size wd wr)) (fun v _ => n - (intOf v).toNat)
          case atStart => exact ⟨0, by omega, rfl, hs4⟩
          case round =>
            obtain ⟨i, hi, rfl, HB⟩ := hrel
            by_cases hin : i < n
            · have hil : i < vals.length := by rw [← H3.out]; omega
              obtain ⟨O, rfl, hX0⟩ := HX3.out i hin
              obtain ⟨b, off, rfl, hV0⟩ := HVD.out.2 (by omega)
              clear hX0 hV0
              have HBO := HB
              clear HB
              go_wp2_with fail
              go_loopw [9] (fun v wr => ∃ j : Nat, j ≤ n ∧ v = .int .i64 j ∧ Hid (Below wd.heap.size wd wr)) (fun v _ => n - (intOf v).toNat)
              case atStart => exact ⟨0, by omega, rfl, HBO⟩
              case round =>
                clear HBO
                obtain ⟨j, hj, rfl, HB⟩ := hrel
                by_cases hjn : j < n
                · have hjl : j < vals.length := by rw [← H3.out]; omega
                  obtain ⟨O', eO, g, cO, hg⟩ := (isM_below HX3.out HB.out) i hin
                  obtain ⟨rfl, _, _⟩ := Addr.mk.inj (Option.some.inj eO)
                  have cg := hg j hjn
                  have HRE3 := Lib.hid (fun h => HRE2.out i j h)
                  obtain ⟨b', off', eb, _, hc⟩ := (HVD.out.below HB.out).2 (by omega)
                  obtain ⟨rfl, rfl, _⟩ := Addr.mk.inj (Option.some.inj eb)
                  have ci := hc i hil
                  have cj := hc j hjl
                  rw [show vals.getD i 0 = vals[i] by simp [List.getD, hil], show vals.getD j 0 = vals[j] by simp [List.getD, hjl]] at HRE3
                  generalize vals[i] = x at ci HRE3
                  generalize vals[j] = y at cj HRE3
                  generalize Rea.reach n L i j = q at cg HRE3
                  obtain ⟨cz0, cz1, cz2⟩ := z_on HZ3.out HB.out
                  have HQ2 := Lib.hid (fun (W : World) (h : Below wr.heap.size wr W) => HQ.out W (on HB.out h) x y)
                  have j1 : (0 : Int) ≤ (i : Int) := by omega
                  have j2 : (i : Int) < (n : Int) := by omega
                  have j3 : (0 : Int) ≤ (j : Int) := by omega
                  have j4 : (j : Int) < (n : Int) := by omega
                  have j5 : (i : Int) < (k : Int) := by omega
                  have j6 : (j : Int) < (k : Int) := by omega
                  clear hg hc eb eO
                  cases q with
                  | false =>
                    clear HRE3
                    go_wp2_with fail
                    go_quiet (fail)
                    go_wp2
                    go_roundw
                    case rel => exact ⟨j + 1, by omega, by go_num, pw_below_drewN HB.out _⟩
                    case measure => simp [intOf]; omega
                  | true =>
                    by_cases hij : i = j
                    · subst hij
                      have dij : ((i : Int) != (i : Int)) = false := by simp
                      clear HRE3 cj ci
                      go_wp2_with fail
                      go_quiet (fail)
                      go_wp2
                      go_roundw
                      case rel => exact ⟨i + 1, by omega, by go_num, pw_below_drewN HB.out _⟩
                      case measure => simp [intOf]; omega
                    · have dij : ((i : Int) != (j : Int)) = true := by simp; omega
                      have hb : rowB rows x y = true := by
                        rcases HRE3.out rfl with h | h
                        · exact absurd h hij
                        · exact h
                      rw [hb] at HQ2
                      clear HRE3 hb
                      go_wp2_with fail
                      go_quiet ((go_at_call 25; exact Calls.quiet_of_same ((HQ2.out _ (pw_below_drewN (Below.refl _ _) _)).mono (fun e w' h => ⟨h.1, h.2.symm⟩))))
                      go_wp2
                      go_roundw
                      case rel => exact ⟨j + 1, by omega, by go_num, pw_below_drewN HB.out _⟩
                      case measure => simp [intOf]; omega
                · obtain rfl : j = n := by omega
                  go_wp2
                  go_roundw
                  case rel => exact ⟨i + 1, by omega, by go_num, HB⟩
                  case measure => simp [intOf]; omega
            · obtain rfl : i = n := by omega
              go_wp2_with fail
              refine (Rea.alive_any _).mono ?_
              rintro e w5 ⟨rfl, hb5⟩
              have HB5 := Lib.hid (on HB3.out (on HB.out hb5))
              clear hb5
              go_wp2
              go_ret
              exact ⟨rfl, on HB0.out HB5.out⟩
    · have de : (e != 0) = true := by simpa using he
      clear HOF
      go_wp2_with fail
      refine HNW.out.mono ?_
      rintro e' wd ⟨hb3, hnew⟩
      have HB3 := Lib.hid (on HB2.out hb3)
      have HZ3 := Lib.hid (z_on HZ2.out hb3)
      have HNEW := Lib.hid hnew
      clear hb3 hnew cz0 cz1 cz2
      obtain ⟨cz0, cz1, cz2⟩ := HZ3.out
      rcases HNEW.out with ⟨hr, rfl⟩ | ⟨hf, BL, rfl, _, hl⟩
      · obtain ⟨f, hff⟩ : ∃ f : Int, f = ((checkR rows : Nat) : Int) := ⟨_, rfl⟩
        have df : (f != 0) = true := by simp; omega
        rw [← hff]
        clear hff hr HNEW
        go_upto_region 4 with fail
        refine wp_region_held (S := fun W => Below wd.heap.size wd W) (by kernel_rfl) ?_
        generalize hA0 : Act.mk _ _ = a0
        have hF := Fr.nil (n := 105) (a := a0) (by rw [← hA0]; rfl)
        replace hF := Fr.cons hF 7 (.int .i64 (f : Int)) (by rw [← hA0]; rfl)
        replace hF := Fr.cons hF 6 (.pointer none) (by rw [← hA0]; rfl)
        replace hF := Fr.cons hF 5 (.int .i64 (e : Int)) (by rw [← hA0]; rfl)
        replace hF := Fr.cons hF 4 (.slice none 0 0) (by rw [← hA0]; rfl)
        replace hF := Fr.cons hF 3 (.int .i64 (n : Int)) (by rw [← hA0]; rfl)
        replace hF := Fr.cons hF 1 (.pointer (some ⟨BZ, 0, none⟩)) (by rw [← hA0]; rfl)
        have hS : Below wd.heap.size wd (World.drew _) := (Below.refl _ wd).drew
        change wpAnyH _ _ _ _ _ _ _ _ (World.drew _)
        refine tk (i := 0) (d := 27) (v := .int .i64 (e : Int)) hF rfl rfl (by kernel_rfl) (by kernel_rfl) (by kernel_rfl) (fun _ _ _ h => h) (yi_go rfl (fun W hW => ex_move W rfl (fr_at hF 3 rfl))) hS rfl (by decide) (fun a1 hA1 hF' => ?_)
        replace hF := hF'; clear hF'
        refine tk (i := 1) (d := 28) (v := .bool true) hF rfl rfl (by kernel_rfl) (by kernel_rfl) (by kernel_rfl) (fun _ _ _ h => h) (yi_go rfl (fun W hW => by skip; have f27 := fr_at hF 0 rfl; go_simp)) hS rfl (by decide) (fun a2 hA2 hF' => ?_)
        replace hF := hF'; clear hF'
        refine tk (i := 2) (d := 29) (v := .bool true) hF rfl rfl (by kernel_rfl) (by kernel_rfl) (by kernel_rfl) (fun _ _ _ h => h) (yi_go rfl (fun W hW => ex_move W rfl (fr_at hF 0 rfl))) hS rfl (by decide) (fun a3 hA3 hF' => ?_)
        replace hF := hF'; clear hF'
        refine tk (i := 3) (d := 30) (v := undef) hF rfl rfl (by kernel_rfl) (by kernel_rfl) (by kernel_rfl) (fun _ _ _ h => h) (yi_skip rfl rfl (fr_at hF 0 rfl)) hS rfl (by decide) (fun a4 hA4 hF' => ?_)
        replace hF := hF'; clear hF'
        refine tk (i := 4) (d := 31) (v := undef) hF rfl rfl (by kernel_rfl) (by kernel_rfl) (by kernel_rfl) (fun _ _ _ h => h) (yi_skip rfl rfl (fr_at hF 1 rfl)) hS rfl (by decide) (fun a5 hA5 hF' => ?_)
        replace hF := hF'; clear hF'
        refine tk (i := 5) (d := 32) (v := .bool true) hF rfl rfl (by kernel_rfl) (by kernel_rfl) (by kernel_rfl) (fun _ _ _ h => h) (yi_go rfl (fun W hW => by have f29 := fr_at hF 2 rfl; have f31 := fr_at hF 0 rfl; go_simp)) hS rfl (by decide) (fun a6 hA6 hF' => ?_)
        replace hF := hF'; clear hF'
        refine tk (i := 6) (d := 33) (v := .bool true) hF rfl rfl (by kernel_rfl) (by kernel_rfl) (by kernel_rfl) (fun _ _ _ h => h) (yi_go rfl (fun W hW => ex_move W rfl (fr_at hF 0 rfl))) hS rfl (by decide) (fun a7 hA7 hF' => ?_)
        replace hF := hF'; clear hF'
        refine tk (i := 7) (d := 34) (v := undef) hF rfl rfl (by kernel_rfl) (by kernel_rfl) (by kernel_rfl) (fun _ _ _ h => h) (yi_skip rfl rfl (fr_at hF 0 rfl)) hS rfl (by decide) (fun a8 hA8 hF' => ?_)
        replace hF := hF'; clear hF'
        refine tk (i := 8) (d := 35) (v := undef) hF rfl rfl (by kernel_rfl) (by kernel_rfl) (by kernel_rfl) (fun _ _ _ h => h) (yi_skip rfl rfl (fr_at hF 1 rfl)) hS rfl (by decide) (fun a9 hA9 hF' => ?_)
        replace hF := hF'; clear hF'
        refine tk (i := 9) (d := 36) (v := undef) hF rfl rfl (by kernel_rfl) (by kernel_rfl) (by kernel_rfl) (fun _ _ _ h => h) (yi_skip rfl rfl (fr_at hF 2 rfl)) hS rfl (by decide) (fun a10 hA10 hF' => ?_)
        replace hF := hF'; clear hF'
        refine tk (i := 10) (d := 37) (v := undef) hF rfl rfl (by kernel_rfl) (by kernel_rfl) (by kernel_rfl) (fun _ _ _ h => h) (yi_skip rfl rfl (fr_at hF 3 rfl)) hS rfl (by decide) (fun a11 hA11 hF' => ?_)
        replace hF := hF'; clear hF'
        refine tk (i := 11) (d := 38) (v := .bool true) hF rfl rfl (by kernel_rfl) (by kernel_rfl) (by kernel_rfl) (fun _ _ _ h => h) (yi_go rfl (fun W hW => by have f33 := fr_at hF 4 rfl; have f37 := fr_at hF 0 rfl; go_simp)) hS rfl (by decide) (fun a12 hA12 hF' => ?_)
        replace hF := hF'; clear hF'
        refine tk (i := 12) (d := 39) (v := .bool true) hF rfl rfl (by kernel_rfl) (by kernel_rfl) (by kernel_rfl) (fun _ _ _ h => h) (yi_go rfl (fun W hW => ex_move W rfl (fr_at hF 0 rfl))) hS rfl (by decide) (fun a13 hA13 hF' => ?_)
        replace hF := hF'; clear hF'
        refine tk (i := 13) (d := 40) (v := undef) hF rfl rfl (by kernel_rfl) (by kernel_rfl) (by kernel_rfl) (fun _ _ _ h => h) (yi_skip rfl rfl (fr_at hF 0 rfl)) hS rfl (by decide) (fun a14 hA14 hF' => ?_)
        replace hF := hF'; clear hF'
        refine tk (i := 14) (d := 41) (v := undef) hF rfl rfl (by kernel_rfl) (by kernel_rfl) (by kernel_rfl) (fun _ _ _ h => h) (yi_skip rfl rfl (fr_at hF 1 rfl)) hS rfl (by decide) (fun a15 hA15 hF' => ?_)
        replace hF := hF'; clear hF'
        refine tk (i := 15) (d := 42) (v := undef) hF rfl rfl (by kernel_rfl) (by kernel_rfl) (by kernel_rfl) (fun _ _ _ h => h) (yi_skip rfl rfl (fr_at hF 2 rfl)) hS rfl (by decide) (fun a16 hA16 hF' => ?_)
        replace hF := hF'; clear hF'
        refine tk (i := 16) (d := 43) (v := undef) hF rfl rfl (by kernel_rfl) (by kernel_rfl) (by kernel_rfl) (fun _ _ _ h => h) (yi_skip rfl rfl (fr_at hF 3 rfl)) hS rfl (by decide) (fun a17 hA17 hF' => ?_)
        replace hF := hF'; clear hF'
        refine tk (i := 17) (d := 44) (v := .bool true) hF rfl rfl (by kernel_rfl) (by kernel_rfl) (by kernel_rfl) (fun _ _ _ h => h) (yi_go rfl (fun W hW => by have f39 := fr_at hF 4 rfl; have f43 := fr_at hF 0 rfl; go_simp)) hS rfl (by decide) (fun a18 hA18 hF' => ?_)
        replace hF := hF'; clear hF'
        refine tk (i := 18) (d := 45) (v := .bool true) hF rfl rfl (by kernel_rfl) (by kernel_rfl) (by kernel_rfl) (fun _ _ _ h => h) (yi_go rfl (fun W hW => ex_move W rfl (fr_at hF 0 rfl))) hS rfl (by decide) (fun a19 hA19 hF' => ?_)
        replace hF := hF'; clear hF'
        refine tk (i := 19) (d := 46) (v := undef) hF rfl rfl (by kernel_rfl) (by kernel_rfl) (by kernel_rfl) (fun _ _ _ h => h) (yi_skip rfl rfl (fr_at hF 0 rfl)) hS rfl (by decide) (fun a20 hA20 hF' => ?_)
        replace hF := hF'; clear hF'
        refine tk (i := 20) (d := 47) (v := undef) hF rfl rfl (by kernel_rfl) (by kernel_rfl) (by kernel_rfl) (fun _ _ _ h => h) (yi_skip rfl rfl (fr_at hF 1 rfl)) hS rfl (by decide) (fun a21 hA21 hF' => ?_)
        replace hF := hF'; clear hF'
        refine tk (i := 21) (d := 48) (v := undef) hF rfl rfl (by kernel_rfl) (by kernel_rfl) (by kernel_rfl) (fun _ _ _ h => h) (yi_skip rfl rfl (fr_at hF 2 rfl)) hS rfl (by decide) (fun a22 hA22 hF' => ?_)
        replace hF := hF'; clear hF'
        refine tk (i := 22) (d := 49) (v := undef) hF rfl rfl (by kernel_rfl) (by kernel_rfl) (by kernel_rfl) (fun _ _ _ h => h) (yi_skip rfl rfl (fr_at hF 3 rfl)) hS rfl (by decide) (fun a23 hA23 hF' => ?_)
        replace hF := hF'; clear hF'
        refine tk (i := 23) (d := 50) (v := undef) hF rfl rfl (by kernel_rfl) (by kernel_rfl) (by kernel_rfl) (fun _ _ _ h => h) (yi_skip rfl rfl (fr_at hF 4 rfl)) hS rfl (by decide) (fun a24 hA24 hF' => ?_)
        replace hF := hF'; clear hF'
        refine tk (i := 24) (d := 51) (v := undef) hF rfl rfl (by kernel_rfl) (by kernel_rfl) (by kernel_rfl) (fun _ _ _ h => h) (yi_skip rfl rfl (fr_at hF 5 rfl)) hS rfl (by decide) (fun a25 hA25 hF' => ?_)
        replace hF := hF'; clear hF'
        refine tk (i := 25) (d := 52) (v := undef) hF rfl rfl (by kernel_rfl) (by kernel_rfl) (by kernel_rfl) (fun _ _ _ h => h) (yi_skip rfl rfl (fr_at hF 6 rfl)) hS rfl (by decide) (fun a26 hA26 hF' => ?_)
        replace hF := hF'; clear hF'
        refine tk (i := 26) (d := 53) (v := undef) hF rfl rfl (by kernel_rfl) (by kernel_rfl) (by kernel_rfl) (fun _ _ _ h => h) (yi_skip rfl rfl (fr_at hF 7 rfl)) hS rfl (by decide) (fun a27 hA27 hF' => ?_)
        replace hF := hF'; clear hF'
        refine tk (i := 27) (d := 54) (v := undef) hF rfl rfl (by kernel_rfl) (by kernel_rfl) (by kernel_rfl) (fun _ _ _ h => h) (yi_skip rfl rfl (fr_at hF 8 rfl)) hS rfl (by decide) (fun a28 hA28 hF' => ?_)
        replace hF := hF'; clear hF'
        refine tk (i := 28) (d := 55) (v := undef) hF rfl rfl (by kernel_rfl) (by kernel_rfl) (by kernel_rfl) (fun _ _ _ h => h) (yi_skip rfl rfl (fr_at hF 9 rfl)) hS rfl (by decide) (fun a29 hA29 hF' => ?_)
        replace hF := hF'; clear hF'
        refine tk (i := 29) (d := 56) (v := .bool true) hF rfl rfl (by kernel_rfl) (by kernel_rfl) (by kernel_rfl) (fun _ _ _ h => h) (yi_go rfl (fun W hW => by have f45 := fr_at hF 10 rfl; have f55 := fr_at hF 0 rfl; go_simp)) hS rfl (by decide) (fun a30 hA30 hF' => ?_)
        replace hF := hF'; clear hF'
        refine wpAnyH_done (by kernel_rfl) ?_ _
        rw [← hA30, ← hA29, ← hA28, ← hA27, ← hA26, ← hA25, ← hA24, ← hA23, ← hA22, ← hA21, ← hA20, ← hA19, ← hA18, ← hA17, ← hA16, ← hA15, ← hA14, ← hA13, ← hA12, ← hA11, ← hA10, ← hA9, ← hA8, ← hA7, ← hA6, ← hA5, ← hA4, ← hA3, ← hA2, ← hA1, ← hA0]
        simp only [Act.put, List.setIfInBounds_toArray, List.set_cons_zero, List.set_cons_succ]
        clear hF
        have HB4 := Lib.hid (on HB3.out hS)
        clear hS
        go_wp2_with fail
        refine (Rea.alive_any _).mono ?_
        rintro e w5 ⟨rfl, hb5⟩
        have HB5 := Lib.hid (on HB4.out hb5)
        clear hb5
        go_wp2
        go_ret
        exact ⟨rfl, on HB0.out HB5.out⟩
      · clear hf hl HNEW
        go_upto_region 4 with fail
        refine wp_region_held (S := fun W => Below wd.heap.size wd W) (by kernel_rfl) ?_
        generalize hA0 : Act.mk _ _ = a0
        have hF := Fr.nil (n := 105) (a := a0) (by rw [← hA0]; rfl)
        replace hF := Fr.cons hF 7 (.int .i64 0) (by rw [← hA0]; rfl)
        replace hF := Fr.cons hF 6 (.pointer (some ⟨BL, 0, none⟩)) (by rw [← hA0]; rfl)
        replace hF := Fr.cons hF 5 (.int .i64 (e : Int)) (by rw [← hA0]; rfl)
        replace hF := Fr.cons hF 4 (.slice none 0 0) (by rw [← hA0]; rfl)
        replace hF := Fr.cons hF 3 (.int .i64 (n : Int)) (by rw [← hA0]; rfl)
        replace hF := Fr.cons hF 1 (.pointer (some ⟨BZ, 0, none⟩)) (by rw [← hA0]; rfl)
        have hS : Below wd.heap.size wd (World.drew _) := (Below.refl _ wd).drew
        change wpAnyH _ _ _ _ _ _ _ _ (World.drew _)
        refine tk (i := 0) (d := 27) (v := .int .i64 (e : Int)) hF rfl rfl (by kernel_rfl) (by kernel_rfl) (by kernel_rfl) (fun _ _ _ h => h) (yi_go rfl (fun W hW => ex_move W rfl (fr_at hF 3 rfl))) hS rfl (by decide) (fun a1 hA1 hF' => ?_)
        replace hF := hF'; clear hF'
        refine tk (i := 1) (d := 28) (v := .bool true) hF rfl rfl (by kernel_rfl) (by kernel_rfl) (by kernel_rfl) (fun _ _ _ h => h) (yi_go rfl (fun W hW => by skip; have f27 := fr_at hF 0 rfl; go_simp)) hS rfl (by decide) (fun a2 hA2 hF' => ?_)
        replace hF := hF'; clear hF'
        refine tk (i := 2) (d := 29) (v := .bool true) hF rfl rfl (by kernel_rfl) (by kernel_rfl) (by kernel_rfl) (fun _ _ _ h => h) (yi_go rfl (fun W hW => ex_move W rfl (fr_at hF 0 rfl))) hS rfl (by decide) (fun a3 hA3 hF' => ?_)
        replace hF := hF'; clear hF'
        refine tk (i := 3) (d := 30) (v := undef) hF rfl rfl (by kernel_rfl) (by kernel_rfl) (by kernel_rfl) (fun _ _ _ h => h) (yi_skip rfl rfl (fr_at hF 0 rfl)) hS rfl (by decide) (fun a4 hA4 hF' => ?_)
        replace hF := hF'; clear hF'
        refine tk (i := 4) (d := 31) (v := undef) hF rfl rfl (by kernel_rfl) (by kernel_rfl) (by kernel_rfl) (fun _ _ _ h => h) (yi_skip rfl rfl (fr_at hF 1 rfl)) hS rfl (by decide) (fun a5 hA5 hF' => ?_)
        replace hF := hF'; clear hF'
        refine tk (i := 5) (d := 32) (v := .bool true) hF rfl rfl (by kernel_rfl) (by kernel_rfl) (by kernel_rfl) (fun _ _ _ h => h) (yi_go rfl (fun W hW => by have f29 := fr_at hF 2 rfl; have f31 := fr_at hF 0 rfl; go_simp)) hS rfl (by decide) (fun a6 hA6 hF' => ?_)
        replace hF := hF'; clear hF'
        refine tk (i := 6) (d := 33) (v := .bool true) hF rfl rfl (by kernel_rfl) (by kernel_rfl) (by kernel_rfl) (fun _ _ _ h => h) (yi_go rfl (fun W hW => ex_move W rfl (fr_at hF 0 rfl))) hS rfl (by decide) (fun a7 hA7 hF' => ?_)
        replace hF := hF'; clear hF'
        refine tk (i := 7) (d := 34) (v := undef) hF rfl rfl (by kernel_rfl) (by kernel_rfl) (by kernel_rfl) (fun _ _ _ h => h) (yi_skip rfl rfl (fr_at hF 0 rfl)) hS rfl (by decide) (fun a8 hA8 hF' => ?_)
        replace hF := hF'; clear hF'
        refine tk (i := 8) (d := 35) (v := undef) hF rfl rfl (by kernel_rfl) (by kernel_rfl) (by kernel_rfl) (fun _ _ _ h => h) (yi_skip rfl rfl (fr_at hF 1 rfl)) hS rfl (by decide) (fun a9 hA9 hF' => ?_)
        replace hF := hF'; clear hF'
        refine tk (i := 9) (d := 36) (v := undef) hF rfl rfl (by kernel_rfl) (by kernel_rfl) (by kernel_rfl) (fun _ _ _ h => h) (yi_skip rfl rfl (fr_at hF 2 rfl)) hS rfl (by decide) (fun a10 hA10 hF' => ?_)
        replace hF := hF'; clear hF'
        refine tk (i := 10) (d := 37) (v := undef) hF rfl rfl (by kernel_rfl) (by kernel_rfl) (by kernel_rfl) (fun _ _ _ h => h) (yi_skip rfl rfl (fr_at hF 3 rfl)) hS rfl (by decide) (fun a11 hA11 hF' => ?_)
        replace hF := hF'; clear hF'
        refine tk (i := 11) (d := 38) (v := .bool true) hF rfl rfl (by kernel_rfl) (by kernel_rfl) (by kernel_rfl) (fun _ _ _ h => h) (yi_go rfl (fun W hW => by have f33 := fr_at hF 4 rfl; have f37 := fr_at hF 0 rfl; go_simp)) hS rfl (by decide) (fun a12 hA12 hF' => ?_)
        replace hF := hF'; clear hF'
        refine tk (i := 12) (d := 39) (v := .bool true) hF rfl rfl (by kernel_rfl) (by kernel_rfl) (by kernel_rfl) (fun _ _ _ h => h) (yi_go rfl (fun W hW => ex_move W rfl (fr_at hF 0 rfl))) hS rfl (by decide) (fun a13 hA13 hF' => ?_)
        replace hF := hF'; clear hF'
        refine tk (i := 13) (d := 40) (v := undef) hF rfl rfl (by kernel_rfl) (by kernel_rfl) (by kernel_rfl) (fun _ _ _ h => h) (yi_skip rfl rfl (fr_at hF 0 rfl)) hS rfl (by decide) (fun a14 hA14 hF' => ?_)
        replace hF := hF'; clear hF'
        refine tk (i := 14) (d := 41) (v := undef) hF rfl rfl (by kernel_rfl) (by kernel_rfl) (by kernel_rfl) (fun _ _ _ h => h) (yi_skip rfl rfl (fr_at hF 1 rfl)) hS rfl (by decide) (fun a15 hA15 hF' => ?_)
        replace hF := hF'; clear hF'
        refine tk (i := 15) (d := 42) (v := undef) hF rfl rfl (by kernel_rfl) (by kernel_rfl) (by kernel_rfl) (fun _ _ _ h => h) (yi_skip rfl rfl (fr_at hF 2 rfl)) hS rfl (by decide) (fun a16 hA16 hF' => ?_)
        replace hF := hF'; clear hF'
        refine tk (i := 16) (d := 43) (v := undef) hF rfl rfl (by kernel_rfl) (by kernel_rfl) (by kernel_rfl) (fun _ _ _ h => h) (yi_skip rfl rfl (fr_at hF 3 rfl)) hS rfl (by decide) (fun a17 hA17 hF' => ?_)
        replace hF := hF'; clear hF'
        refine tk (i := 17) (d := 44) (v := .bool true) hF rfl rfl (by kernel_rfl) (by kernel_rfl) (by kernel_rfl) (fun _ _ _ h => h) (yi_go rfl (fun W hW => by have f39 := fr_at hF 4 rfl; have f43 := fr_at hF 0 rfl; go_simp)) hS rfl (by decide) (fun a18 hA18 hF' => ?_)
        replace hF := hF'; clear hF'
        refine tk (i := 18) (d := 45) (v := .bool true) hF rfl rfl (by kernel_rfl) (by kernel_rfl) (by kernel_rfl) (fun _ _ _ h => h) (yi_go rfl (fun W hW => ex_move W rfl (fr_at hF 0 rfl))) hS rfl (by decide) (fun a19 hA19 hF' => ?_)
        replace hF := hF'; clear hF'
        refine tk (i := 19) (d := 46) (v := undef) hF rfl rfl (by kernel_rfl) (by kernel_rfl) (by kernel_rfl) (fun _ _ _ h => h) (yi_skip rfl rfl (fr_at hF 0 rfl)) hS rfl (by decide) (fun a20 hA20 hF' => ?_)
        replace hF := hF'; clear hF'
        refine tk (i := 20) (d := 47) (v := undef) hF rfl rfl (by kernel_rfl) (by kernel_rfl) (by kernel_rfl) (fun _ _ _ h => h) (yi_skip rfl rfl (fr_at hF 1 rfl)) hS rfl (by decide) (fun a21 hA21 hF' => ?_)
        replace hF := hF'; clear hF'
        refine tk (i := 21) (d := 48) (v := undef) hF rfl rfl (by kernel_rfl) (by kernel_rfl) (by kernel_rfl) (fun _ _ _ h => h) (yi_skip rfl rfl (fr_at hF 2 rfl)) hS rfl (by decide) (fun a22 hA22 hF' => ?_)
        replace hF := hF'; clear hF'
        refine tk (i := 22) (d := 49) (v := undef) hF rfl rfl (by kernel_rfl) (by kernel_rfl) (by kernel_rfl) (fun _ _ _ h => h) (yi_skip rfl rfl (fr_at hF 3 rfl)) hS rfl (by decide) (fun a23 hA23 hF' => ?_)
        replace hF := hF'; clear hF'
        refine tk (i := 23) (d := 50) (v := undef) hF rfl rfl (by kernel_rfl) (by kernel_rfl) (by kernel_rfl) (fun _ _ _ h => h) (yi_skip rfl rfl (fr_at hF 4 rfl)) hS rfl (by decide) (fun a24 hA24 hF' => ?_)
        replace hF := hF'; clear hF'
        refine tk (i := 24) (d := 51) (v := undef) hF rfl rfl (by kernel_rfl) (by kernel_rfl) (by kernel_rfl) (fun _ _ _ h => h) (yi_skip rfl rfl (fr_at hF 5 rfl)) hS rfl (by decide) (fun a25 hA25 hF' => ?_)
        replace hF := hF'; clear hF'
        refine tk (i := 25) (d := 52) (v := undef) hF rfl rfl (by kernel_rfl) (by kernel_rfl) (by kernel_rfl) (fun _ _ _ h => h) (yi_skip rfl rfl (fr_at hF 6 rfl)) hS rfl (by decide) (fun a26 hA26 hF' => ?_)
        replace hF := hF'; clear hF'
        refine tk (i := 26) (d := 53) (v := undef) hF rfl rfl (by kernel_rfl) (by kernel_rfl) (by kernel_rfl) (fun _ _ _ h => h) (yi_skip rfl rfl (fr_at hF 7 rfl)) hS rfl (by decide) (fun a27 hA27 hF' => ?_)
        replace hF := hF'; clear hF'
        refine tk (i := 27) (d := 54) (v := undef) hF rfl rfl (by kernel_rfl) (by kernel_rfl) (by kernel_rfl) (fun _ _ _ h => h) (yi_skip rfl rfl (fr_at hF 8 rfl)) hS rfl (by decide) (fun a28 hA28 hF' => ?_)
        replace hF := hF'; clear hF'
        refine tk (i := 28) (d := 55) (v := undef) hF rfl rfl (by kernel_rfl) (by kernel_rfl) (by kernel_rfl) (fun _ _ _ h => h) (yi_skip rfl rfl (fr_at hF 9 rfl)) hS rfl (by decide) (fun a29 hA29 hF' => ?_)
        replace hF := hF'; clear hF'
        refine tk (i := 29) (d := 56) (v := .bool true) hF rfl rfl (by kernel_rfl) (by kernel_rfl) (by kernel_rfl) (fun _ _ _ h => h) (yi_go rfl (fun W hW => by have f45 := fr_at hF 10 rfl; have f55 := fr_at hF 0 rfl; go_simp)) hS rfl (by decide) (fun a30 hA30 hF' => ?_)
        replace hF := hF'; clear hF'
        refine wpAnyH_done (by kernel_rfl) ?_ _
        rw [← hA30, ← hA29, ← hA28, ← hA27, ← hA26, ← hA25, ← hA24, ← hA23, ← hA22, ← hA21, ← hA20, ← hA19, ← hA18, ← hA17, ← hA16, ← hA15, ← hA14, ← hA13, ← hA12, ← hA11, ← hA10, ← hA9, ← hA8, ← hA7, ← hA6, ← hA5, ← hA4, ← hA3, ← hA2, ← hA1, ← hA0]
        simp only [Act.put, List.setIfInBounds_toArray, List.set_cons_zero, List.set_cons_succ]
        clear hF
        have HB4 := Lib.hid (on HB3.out hS)
        clear hS
        go_wp2_with fail
        refine (Rea.alive_any _).mono ?_
        rintro e w5 ⟨rfl, hb5⟩
        have HB5 := Lib.hid (on HB4.out hb5)
        clear hb5
        go_wp2
        go_ret
        exact ⟨rfl, on HB0.out HB5.out⟩
end Go.Proofs.YtappaokjlnpbnaaDoor
