/- ReachesOn. -/
import Derived.Test.YtjkfmgjebemphaaAlive
import Derived.Test.YtjkfmgjebemphaaOpen
import Derived.Deep.QuietTactic
import Derived.BigQuiet
import Derived.Test.YtjkfmgjebemphaaTake
namespace Go.Proofs.Ytjkfmgjebemphaa
open Go.RowKit
/-- does a bound lead out of i to one that reaches j? -/
def wit (n : Nat) (L : List Bd) (i j : Nat) (b : Bd) : Bool := b.av && b.an == i && b.bv && decide (b.bn < n) && reach n L b.bn j
theorem IsM.cells {w : World} {O n i j : Nat} {M : Nat → Nat → Bool} (h : IsM w (some ⟨O, 0, none⟩) n M) (hi : i < n) (hj : j < n) : ∃ g, w.cell? ⟨O, i, none⟩ = some (.slice (some ⟨g, 0, none⟩) n n) ∧ w.cell? ⟨g, j, none⟩ = some (.bool (M i j)) := by
  obtain ⟨O', e, g, h1, h2⟩ := h i hi
  cases e
  exact ⟨g, h1, h2 j hj⟩
theorem below_drewN {B : Nat} {w W : World} (h : Below B w W) (n : Nat) : Below B w (W.drewN n) := ⟨h.os, h.tape, h.output, h.size, h.block⟩
set_option maxRecDepth 20000 in
set_option maxHeartbeats 2000000 in
theorem on_lim (a : Option Addr) (cap m : Nat) (n : Int) (h : n < 0 ∨ 64 < n ∨ 256 < m) (hm : (m : Int) ≤ 9223372036854775807) (w : World) : Calls Try.prog 3 #[.int .i64 n, .slice a m cap] w fun e w' => e = .returned (.bool true) ∧ Below w.heap.size w w' := by
  have HF := Lib.hid (of_lim a cap m n h hm w)
  clear h
  obtain ⟨b, hb⟩ : ∃ b, decide (300 < (m : Int)) = b := ⟨_, rfl⟩
  cases b <;>
    (go_enter Try.func3, Try.ntmps3
     go_wp2_with fail
     refine HF.out.mono ?_
     rintro e w1 ⟨rfl, hb1⟩
     have HB1 := Lib.hid hb1
     clear hb1
     go_wp2_with fail
     refine (alive_any w1).mono ?_
     rintro e w2 ⟨rfl, hb2⟩
     have HB2 := Lib.hid (on HB1.out hb2)
     clear hb2
     go_wp2
     go_ret
     exact ⟨rfl, HB2.out⟩)
set_option maxRecDepth 20000 in
set_option maxHeartbeats 2000000 in
theorem on_bad (a : Option Addr) (cap : Nat) (L : List Bd) (n m : Nat) (hn : n ≤ 64) (hm : m = L.length) (hm' : m ≤ 256) (ho : L.all (·.ok n) = false) (w : World) (hL : Bds w a L) : Calls Try.prog 3 #[.int .i64 (n : Int), .slice a m cap] w fun e w' => e = .returned (.bool true) ∧ Below w.heap.size w w' := by
  have HF := Lib.hid (of_bad a cap L n m hn hm hm' ho w hL)
  clear hm hn ho hL
  have hb : decide (300 < (m : Int)) = false := by simp; omega
  go_enter Try.func3, Try.ntmps3
  go_wp2_with fail
  refine HF.out.mono ?_
  rintro e w1 ⟨hb1, rfl⟩
  have HB1 := Lib.hid hb1
  clear hb1
  go_wp2_with fail
  refine (alive_any w1).mono ?_
  rintro e w2 ⟨rfl, hb2⟩
  have HB2 := Lib.hid (on HB1.out hb2)
  clear hb2
  go_wp2
  go_ret
  exact ⟨rfl, HB2.out⟩
set_option maxRecDepth 20000 in
set_option maxHeartbeats 16000000 in
theorem on_ok (a : Option Addr) (cap : Nat) (L : List Bd) (n m : Nat) (hn : n ≤ 64) (hm : m = L.length) (hm' : m ≤ 256) (ho : L.all (·.ok n) = true) (w : World) (hL : Bds w a L) : Calls Try.prog 3 #[.int .i64 (n : Int), .slice a m cap] w fun e w' => e = .returned (.bool true) ∧ Below w.heap.size w w' := by
  have HF := Lib.hid (of_ok a cap L n m hn hm hm' ho w hL)
  have HL := Lib.hid hL
  have HO := Lib.hid (List.all_eq_true.1 ho)
  have HM := Lib.hid hm
  have hb : decide (300 < (m : Int)) = false := by simp; omega
  clear hm ho hL
  go_enter Try.func3, Try.ntmps3
  go_wp2_with fail
  refine HF.out.mono ?_
  rintro e w1 ⟨hb1, ax, rfl, hx⟩
  have HX1 := Lib.hid hx
  have HB1 := Lib.hid hb1
  clear hb1 hx
  go_wp2_with fail
  refine (square_any ax n hn (reach n L) w1 HX1.out).mono ?_
  rintro e w2 ⟨rfl, hb2⟩
  have HX := Lib.hid (HX1.out.below hb2)
  have HB := Lib.hid (on HB1.out hb2)
  clear hb2 HX1 HB1
  go_wp2
  go_loopw [7] (fun i wr => ∃ k : Nat, k ≤ m ∧ i = .int .i64 k ∧ Hid (Below w2.heap.size w2 wr)) (fun i _ => m - (intOf i).toNat)
  case atStart => exact ⟨0, by omega, rfl, Below.refl _ w2⟩
  case round =>
    obtain ⟨k, hk, rfl, HW⟩ := hrel
    by_cases hlt : k < m
    · as_aux_lemma =>
      have hkl : k < L.length := by rw [← HM.out]; exact hlt
      obtain ⟨b, o, rfl, c0, c1, c2, c3, l1, l2⟩ := (HL.out.below (on HB.out HW.out)) k hkl
      have hok := HO.out _ (List.getElem_mem hkl)
      have hedge : L[k].av = true → L[k].bv = true → reach n L L[k].an L[k].bn = true := reach_edge n L _ (List.getElem_mem hkl)
      obtain ⟨va, hva⟩ : ∃ va, va = L[k].av := ⟨_, rfl⟩
      obtain ⟨na, hna⟩ : ∃ na, na = L[k].an := ⟨_, rfl⟩
      obtain ⟨vb, hvb⟩ : ∃ vb, vb = L[k].bv := ⟨_, rfl⟩
      obtain ⟨nb, hnb⟩ : ∃ nb, nb = L[k].bn := ⟨_, rfl⟩
      unfold Bd.ok at hok
      rw [← hva, ← hvb, ← hna, ← hnb] at hok hedge
      rw [← hva] at c0
      rw [← hna] at c1 l1
      rw [← hvb] at c2
      rw [← hnb] at c3 l2
      clear hva hna hvb hnb
      have i1 : (0 : Int) ≤ (k : Int) := by omega
      have i2 : (k : Int) < (m : Int) := by omega
      cases va with
      | false =>
        clear hok hedge
        go_wp2
        go_quiet (fail)
        go_wp2
        go_roundw
        case rel => exact ⟨k + 1, by omega, by go_num, below_drewN HW.out _⟩
        case measure => simp [intOf]; omega
      | true =>
        cases vb with
        | false =>
          clear hok hedge
          go_wp2
          go_quiet (fail)
          go_wp2
          go_roundw
          case rel => exact ⟨k + 1, by omega, by go_num, below_drewN HW.out _⟩
          case measure => simp [intOf]; omega
        | true =>
          simp at hok
          have hr := hedge rfl rfl
          obtain ⟨O1, e1, g1, d1, d2⟩ := HX.out.below HW.out na (by omega)
          subst e1
          have d3 := d2 nb (by omega)
          rw [hr] at d3
          have j1 : (na : Int) < (n : Int) := by omega
          have j2 : (nb : Int) < (n : Int) := by omega
          have j3 : decide ((n : Int) ≤ (na : Int)) = false := by simp; omega
          have j4 : decide ((n : Int) ≤ (nb : Int)) = false := by simp; omega
          have j5 : decide (n ≤ na) = false := by simp; omega
          have j6 : decide (n ≤ nb) = false := by simp; omega
          have j7 : ¬ ((n : Int) ≤ (na : Int)) := by omega
          have j8 : ¬ ((n : Int) ≤ (nb : Int)) := by omega
          clear hok hedge hr d2
          go_wp2
          go_quiet (fail)
          go_wp2
          go_roundw
          case rel => exact ⟨k + 1, by omega, by go_num, below_drewN HW.out _⟩
          case measure => simp [intOf]; omega
    · obtain rfl : k = m := by omega
      have HW1 := HW
      clear HW
      go_wp2
      go_loopw [8] (fun i wr => ∃ i0 : Nat, i0 ≤ n ∧ i = .int .i64 i0 ∧ Hid (Below w2.heap.size w2 wr)) (fun i _ => n - (intOf i).toNat)
      case atStart => exact ⟨0, by omega, rfl, HW1.out⟩
      case round =>
        obtain ⟨i0, hi0, rfl, HW⟩ := hrel
        by_cases hin : i0 < n
        · go_wp2
          go_loopw [9] (fun j wr => ∃ j0 : Nat, j0 ≤ n ∧ j = .int .i64 j0 ∧ Hid (Below w2.heap.size w2 wr)) (fun j _ => n - (intOf j).toNat)
          case atStart => exact ⟨0, by omega, rfl, HW.out⟩
          case round =>
            clear HW
            obtain ⟨j0, hj0, rfl, HW⟩ := hrel
            by_cases hjn : j0 < n
            · obtain ⟨O1, e1, _⟩ := HX.out i0 hin
              subst e1
              obtain ⟨g1, d1, d3⟩ := (HX.out.below HW.out).cells hin hjn
              obtain ⟨t, ht⟩ : ∃ t, t = reach n L i0 j0 := ⟨_, rfl⟩
              rw [← ht] at d3
              have hself : i0 = j0 → t = true := by rintro rfl; rw [ht]; exact reach_self n L _
              have i1 : (0 : Int) ≤ (i0 : Int) := by omega
              have i2 : (i0 : Int) < (n : Int) := by omega
              have i3 : (0 : Int) ≤ (j0 : Int) := by omega
              have i4 : (j0 : Int) < (n : Int) := by omega
              have HS := Lib.hid hself
              have HTT := Lib.hid ht
              clear hself ht
              by_cases e : i0 = j0
              · as_aux_lemma =>
                subst e
                obtain ht : t = true := HS.out rfl
                rw [ht] at d3
                have HT1 := Lib.hid ht
                clear ht
                go_wp2
                go_loopw [10] (fun q wr => ∃ k0 : Nat, k0 ≤ n ∧ q = .int .i64 k0 ∧ Hid (Below w2.heap.size w2 wr)) (fun q _ => n - (intOf q).toNat)
                case atStart => exact ⟨0, by omega, rfl, HW.out⟩
                case round =>
                  clear HW d1 d3
                  obtain ⟨k0, hk0, rfl, HW⟩ := hrel
                  by_cases hkn : k0 < n
                  · as_aux_lemma =>
                    obtain ⟨g2, z1, z2⟩ := (HX.out.below HW.out).cells hin hjn
                    obtain ⟨g3, z3, z4⟩ := (HX.out.below HW.out).cells hjn hkn
                    obtain ⟨g4, z5, z6⟩ := (HX.out.below HW.out).cells hin hkn
                    rw [z1] at z5
                    cases z5
                    rw [← HTT.out] at z2
                    generalize reach n L i0 k0 = q at z4 z6
                    have i5 : (0 : Int) ≤ (k0 : Int) := by omega
                    have i6 : (k0 : Int) < (n : Int) := by omega
                    cases t with
                    | false =>
                      go_wp2
                      go_roundw
                      case rel => exact ⟨k0 + 1, by omega, by go_num, HW.out⟩
                      case measure => simp [intOf]; omega
                    | true =>
                      cases q with
                      | false =>
                        go_wp2
                        go_roundw
                        case rel => exact ⟨k0 + 1, by omega, by go_num, HW.out⟩
                        case measure => simp [intOf]; omega
                      | true =>
                        go_wp2
                        go_roundw
                        case rel => exact ⟨k0 + 1, by omega, by go_num, HW.out⟩
                        case measure => simp [intOf]; omega
                  · obtain rfl : n = k0 := by omega
                    obtain ⟨g2, z1, z2⟩ := (HX.out.below HW.out).cells hin hjn
                    rw [← HTT.out, HT1.out] at z2
                    go_wp2
                    refine wp_loop_rounds 1 ?_
                    rw [rounds_succ]
                    go_wp2
                    all_goals exact ⟨⟨i0 + 1, by omega, by go_num, HW.out⟩, by simp [intOf]; omega⟩
              · have q1 : ((i0 : Int) == (j0 : Int)) = false := by rw [beq_eq_false_iff_ne]; omega
                have q2 : (i0 == j0) = false := by simpa using e
                have q3 : ¬ i0 = j0 := e
                go_wp2
                go_loopw [10] (fun q wr => ∃ k0 : Nat, k0 ≤ n ∧ q = .int .i64 k0 ∧ Hid (Below w2.heap.size w2 wr)) (fun q _ => n - (intOf q).toNat)
                case atStart => exact ⟨0, by omega, rfl, HW.out⟩
                case round =>
                  clear HW d1 d3
                  obtain ⟨k0, hk0, rfl, HW⟩ := hrel
                  by_cases hkn : k0 < n
                  · as_aux_lemma =>
                    obtain ⟨g2, z1, z2⟩ := (HX.out.below HW.out).cells hin hjn
                    obtain ⟨g3, z3, z4⟩ := (HX.out.below HW.out).cells hjn hkn
                    obtain ⟨g4, z5, z6⟩ := (HX.out.below HW.out).cells hin hkn
                    rw [z1] at z5
                    cases z5
                    have hon : t = true → reach n L j0 k0 = true → reach n L i0 k0 = true := fun a b => reach_on n L i0 j0 k0 hjn (HTT.out ▸ a) b
                    rw [← HTT.out] at z2
                    generalize reach n L j0 k0 = q at z4 hon
                    generalize reach n L i0 k0 = r at z6 hon
                    have i5 : (0 : Int) ≤ (k0 : Int) := by omega
                    have i6 : (k0 : Int) < (n : Int) := by omega
                    have HON := Lib.hid hon
                    clear hon
                    cases t with
                    | false =>
                      go_wp2
                      go_roundw
                      case rel => exact ⟨k0 + 1, by omega, by go_num, HW.out⟩
                      case measure => simp [intOf]; omega
                    | true =>
                      cases q with
                      | false =>
                        go_wp2
                        go_roundw
                        case rel => exact ⟨k0 + 1, by omega, by go_num, HW.out⟩
                        case measure => simp [intOf]; omega
                      | true =>
                        obtain rfl : r = true := HON.out rfl rfl
                        go_wp2
                        go_roundw
                        case rel => exact ⟨k0 + 1, by omega, by go_num, HW.out⟩
                        case measure => simp [intOf]; omega
                  · obtain rfl : n = k0 := by omega
                    obtain ⟨g2, z1, z2⟩ := (HX.out.below HW.out).cells hin hjn
                    rw [← HTT.out] at z2
                    cases t with
                    | false =>
                      go_wp2
                      refine wp_loop_rounds 1 ?_
                      rw [rounds_succ]
                      go_wp2
                      all_goals exact ⟨⟨j0 + 1, by omega, by go_num, HW.out⟩, by simp [intOf]; omega⟩
                    | true =>
                      go_wp2
                      go_loopw [11, 12] (fun f q wr => ∃ (k1 : Nat) (fb : Bool), k1 ≤ L.length ∧ q = .int .i64 k1 ∧ f = .bool fb ∧ Hid (fb = false → ∀ b ∈ L.take k1, wit n L i0 j0 b = false) ∧ Hid (Below w2.heap.size w2 wr)) (fun _ q _ => L.length - (intOf q).toNat)
                      case atStart => exact ⟨0, false, by omega, rfl, rfl, fun _ b hb => by simp at hb, HW.out⟩
                      case round =>
                        clear HW z1 z2
                        obtain ⟨k1, fb, hk1, rfl, rfl, HF1, HW⟩ := hrel
                        cases fb with
                        | true =>
                          go_wp2
                          all_goals exact ⟨⟨j0 + 1, by omega, by go_num, HW.out⟩, by simp [intOf]; omega⟩
                        | false =>
                          by_cases hk2 : k1 < L.length
                          · have hk3 : (k1 : Int) < (k : Int) := by have := HM.out; omega
                            have hk4 : (0 : Int) ≤ (k1 : Int) := by omega
                            obtain ⟨b, o, e1, c0, c1, c2, c3, l1, l2⟩ := (HL.out.below (on HB.out HW.out)) k1 hk2
                            subst e1
                            have hok := HO.out _ (List.getElem_mem hk2)
                            obtain ⟨va, hva⟩ : ∃ va, va = L[k1].av := ⟨_, rfl⟩
                            obtain ⟨na, hna⟩ : ∃ na, na = L[k1].an := ⟨_, rfl⟩
                            obtain ⟨vb, hvb⟩ : ∃ vb, vb = L[k1].bv := ⟨_, rfl⟩
                            obtain ⟨nb, hnb⟩ : ∃ nb, nb = L[k1].bn := ⟨_, rfl⟩
                            have HWT : Hid (wit n L i0 j0 L[k1] = (va && na == i0 && vb && decide (nb < n) && reach n L nb j0)) := Lib.hid (by unfold wit; rw [hva, hna, hvb, hnb])
                            unfold Bd.ok at hok
                            rw [← hvb, ← hnb] at hok
                            rw [← hva] at c0
                            rw [← hna] at c1 l1
                            rw [← hvb] at c2
                            rw [← hnb] at c3 l2
                            clear hva hna hvb hnb
                            have RF := Below.refl wr.heap.size wr
                            have HF2 := Lib.hid (HF1.out rfl)
                            clear HF1
                            have i5 : (i0 : Int) < 64 := by omega
                            have i7 : IntKind.u64.wrap (i0 : Int) = (i0 : Int) := by rw [IntKind.wrap_u64]; omega
                            have HT1 : Hid (List.take (k1 + 1) L = List.take k1 L ++ [L[k1]]) := Lib.hid (List.take_succ_eq_append_getElem hk2)
                            cases va with
                            | false =>
                              as_aux_lemma =>
                              clear hok c2 c3 l2
                              go_wp2
                              refine wp_region_held (S := fun W => Below wr.heap.size wr W) (by kernel_rfl) ?_
                              generalize hA0 : Act.mk _ _ = a0
                              have hF := Fr.nil (n := 228) (a := a0) (by rw [← hA0]; rfl)
                              replace hF := Fr.cons hF 9 (.int .i64 j0) (by rw [← hA0]; rfl)
                              replace hF := Fr.cons hF 5 (.slice (some ⟨O1, 0, none⟩) n n) (by rw [← hA0]; rfl)
                              replace hF := Fr.cons hF 0 (.int .i64 n) (by rw [← hA0]; rfl)
                              replace hF := Fr.cons hF 8 (.int .i64 i0) (by rw [← hA0]; rfl)
                              replace hF := Fr.cons hF 12 (.int .i64 k1) (by rw [← hA0]; rfl)
                              replace hF := Fr.cons hF 1 (.slice (some ⟨b, o, none⟩) k cap) (by rw [← hA0]; rfl)
                              have hS := Below.drew RF
                              change wpAnyH _ _ _ _ _ _ _ _ (World.drew _)
                              refine tk (i := 0) (d := 183) (v := .slice (some ⟨b, o, none⟩) k cap) hF rfl rfl (by kernel_rfl) (by kernel_rfl) (by kernel_rfl) (fun _ _ _ h => h) (yi_go rfl (fun W hW => ex_move W rfl (fr_at hF 0 rfl))) hS rfl (by decide) (fun a1 hA1 hF' => ?_)
                              replace hF := hF'; clear hF'
                              refine tk (i := 1) (d := 184) (v := .int .i64 k1) hF rfl rfl (by kernel_rfl) (by kernel_rfl) (by kernel_rfl) (fun _ _ _ h => h) (yi_go rfl (fun W hW => ex_move W rfl (fr_at hF 2 rfl))) hS rfl (by decide) (fun a2 hA2 hF' => ?_)
                              replace hF := hF'; clear hF'
                              refine tk (i := 2) (d := 185) (v := .pointer (some ⟨b, o + k1 * 4, none⟩)) hF rfl rfl (by kernel_rfl) (by kernel_rfl) (by kernel_rfl) (fun _ _ _ h => h) (yi_go rfl (fun W hW => by have f183 := fr_at hF 1 rfl; have f184 := fr_at hF 0 rfl; go_simp)) hS rfl (by decide) (fun a3 hA3 hF' => ?_)
                              replace hF := hF'; clear hF'
                              refine tk (i := 3) (d := 186) (v := .pointer (some ⟨b, o + k1 * 4, none⟩)) hF rfl rfl (by kernel_rfl) (by kernel_rfl) (by kernel_rfl) (fun _ _ _ h => h) (yi_go rfl (fun W hW => by have f185 := fr_at hF 0 rfl; go_simp)) hS rfl (by decide) (fun a4 hA4 hF' => ?_)
                              replace hF := hF'; clear hF'
                              refine tk (i := 4) (d := 187) (v := .agg #[.bool false, .int .u64 na]) hF rfl rfl (by kernel_rfl) (by kernel_rfl) (by kernel_rfl) (fun _ _ _ h => h) (yi_go rfl (fun W hW => by replace c0 := (hW.cell (p := ⟨b, o + k1 * 4, none⟩) (World.block_lt_of_cell? _ _ c0)).trans c0; replace c1 := (hW.cell (p := ⟨b, o + k1 * 4 + 1, none⟩) (World.block_lt_of_cell? _ _ c1)).trans c1; have f186 := fr_at hF 0 rfl; go_simp)) hS rfl (by decide) (fun a5 hA5 hF' => ?_)
                              replace hF := hF'; clear hF'
                              refine tk (i := 5) (d := 188) (v := .int .i64 i0) hF rfl rfl (by kernel_rfl) (by kernel_rfl) (by kernel_rfl) (fun _ _ _ h => h) (yi_go rfl (fun W hW => ex_move W rfl (fr_at hF 7 rfl))) hS rfl (by decide) (fun a6 hA6 hF' => ?_)
                              replace hF := hF'; clear hF'
                              refine tk (i := 6) (d := 189) (v := .int .u64 i0) hF rfl rfl (by kernel_rfl) (by kernel_rfl) (by kernel_rfl) (fun _ _ _ h => h) (yi_go rfl (fun W hW => by have f188 := fr_at hF 0 rfl; go_simp)) hS rfl (by decide) (fun a7 hA7 hF' => ?_)
                              replace hF := hF'; clear hF'
                              refine wpAnyH_ready (rs := [7]) (by kernel_rfl) (by simp) ?_
                              refine AllReadyH.cons rfl (fun K hK => ?_) AllReadyH.nil
                              have f189 := fr_at hF 0 rfl
                              go_simp
                              clear f189
                              go_at_call 9
                              refine (v_any i0 _).mono ?_
                              rintro e w' ⟨rfl, hb⟩
                              go_wp2_with fail
                              refine hK.out _ _ (on hS hb) (fun hHeld => ?_)
                              clear hK K hS hb
                              have hS := hHeld
                              clear hHeld
                              change wpAnyH _ _ _ _ _ _ _ (a7.put (some 190) (.agg #[.bool true, .int .u64 i0])) _
                              have hF' := fr_put hF 190 (.agg #[.bool true, .int .u64 i0]) rfl (by decide)
                              generalize hA8 : Act.put a7 (some 190) (.agg #[.bool true, .int .u64 i0]) = a8 at hF' ⊢
                              replace hF := hF'; clear hF'
                              refine tk (i := 8) (d := 191) (v := .bool false) hF rfl rfl (by kernel_rfl) (by kernel_rfl) (by kernel_rfl) (fun _ _ _ h => h) (yi_go rfl (fun W hW => by have f187 := fr_at hF 3 rfl; have f190 := fr_at hF 0 rfl; go_simp)) hS rfl (by decide) (fun a9 hA9 hF' => ?_)
                              replace hF := hF'; clear hF'
                              refine tk (i := 9) (d := 192) (v := .bool false) hF rfl rfl (by kernel_rfl) (by kernel_rfl) (by kernel_rfl) (fun _ _ _ h => h) (yi_go rfl (fun W hW => ex_move W rfl (fr_at hF 0 rfl))) hS rfl (by decide) (fun a10 hA10 hF' => ?_)
                              replace hF := hF'; clear hF'
                              refine tk (i := 10) (d := 193) (v := undef) hF rfl rfl (by kernel_rfl) (by kernel_rfl) (by kernel_rfl) (fun _ _ _ h => h) (yi_skip rfl rfl (fr_at hF 0 rfl)) hS rfl (by decide) (fun a11 hA11 hF' => ?_)
                              replace hF := hF'; clear hF'
                              refine tk (i := 11) (d := 194) (v := undef) hF rfl rfl (by kernel_rfl) (by kernel_rfl) (by kernel_rfl) (fun _ _ _ h => h) (yi_skip rfl rfl (fr_at hF 1 rfl)) hS rfl (by decide) (fun a12 hA12 hF' => ?_)
                              replace hF := hF'; clear hF'
                              refine tk (i := 12) (d := 195) (v := undef) hF rfl rfl (by kernel_rfl) (by kernel_rfl) (by kernel_rfl) (fun _ _ _ h => h) (yi_skip rfl rfl (fr_at hF 2 rfl)) hS rfl (by decide) (fun a13 hA13 hF' => ?_)
                              replace hF := hF'; clear hF'
                              refine tk (i := 13) (d := 196) (v := undef) hF rfl rfl (by kernel_rfl) (by kernel_rfl) (by kernel_rfl) (fun _ _ _ h => h) (yi_skip rfl rfl (fr_at hF 3 rfl)) hS rfl (by decide) (fun a14 hA14 hF' => ?_)
                              replace hF := hF'; clear hF'
                              refine tk (i := 14) (d := 197) (v := undef) hF rfl rfl (by kernel_rfl) (by kernel_rfl) (by kernel_rfl) (fun _ _ _ h => h) (yi_skip rfl rfl (fr_at hF 4 rfl)) hS rfl (by decide) (fun a15 hA15 hF' => ?_)
                              replace hF := hF'; clear hF'
                              refine tk (i := 15) (d := 198) (v := undef) hF rfl rfl (by kernel_rfl) (by kernel_rfl) (by kernel_rfl) (fun _ _ _ h => h) (yi_skip rfl rfl (fr_at hF 5 rfl)) hS rfl (by decide) (fun a16 hA16 hF' => ?_)
                              replace hF := hF'; clear hF'
                              refine tk (i := 16) (d := 199) (v := .bool false) hF rfl rfl (by kernel_rfl) (by kernel_rfl) (by kernel_rfl) (fun _ _ _ h => h) (yi_go rfl (fun W hW => by have f192 := fr_at hF 6 rfl; have f198 := fr_at hF 0 rfl; go_simp)) hS rfl (by decide) (fun a17 hA17 hF' => ?_)
                              replace hF := hF'; clear hF'
                              refine tk (i := 17) (d := 200) (v := .bool false) hF rfl rfl (by kernel_rfl) (by kernel_rfl) (by kernel_rfl) (fun _ _ _ h => h) (yi_go rfl (fun W hW => ex_move W rfl (fr_at hF 0 rfl))) hS rfl (by decide) (fun a18 hA18 hF' => ?_)
                              replace hF := hF'; clear hF'
                              refine tk (i := 18) (d := 201) (v := undef) hF rfl rfl (by kernel_rfl) (by kernel_rfl) (by kernel_rfl) (fun _ _ _ h => h) (yi_skip rfl rfl (fr_at hF 0 rfl)) hS rfl (by decide) (fun a19 hA19 hF' => ?_)
                              replace hF := hF'; clear hF'
                              refine tk (i := 19) (d := 202) (v := undef) hF rfl rfl (by kernel_rfl) (by kernel_rfl) (by kernel_rfl) (fun _ _ _ h => h) (yi_skip rfl rfl (fr_at hF 1 rfl)) hS rfl (by decide) (fun a20 hA20 hF' => ?_)
                              replace hF := hF'; clear hF'
                              refine tk (i := 20) (d := 203) (v := undef) hF rfl rfl (by kernel_rfl) (by kernel_rfl) (by kernel_rfl) (fun _ _ _ h => h) (yi_skip rfl rfl (fr_at hF 2 rfl)) hS rfl (by decide) (fun a21 hA21 hF' => ?_)
                              replace hF := hF'; clear hF'
                              refine tk (i := 21) (d := 204) (v := undef) hF rfl rfl (by kernel_rfl) (by kernel_rfl) (by kernel_rfl) (fun _ _ _ h => h) (yi_skip rfl rfl (fr_at hF 3 rfl)) hS rfl (by decide) (fun a22 hA22 hF' => ?_)
                              replace hF := hF'; clear hF'
                              refine tk (i := 22) (d := 205) (v := undef) hF rfl rfl (by kernel_rfl) (by kernel_rfl) (by kernel_rfl) (fun _ _ _ h => h) (yi_skip rfl rfl (fr_at hF 4 rfl)) hS rfl (by decide) (fun a23 hA23 hF' => ?_)
                              replace hF := hF'; clear hF'
                              refine tk (i := 23) (d := 206) (v := undef) hF rfl rfl (by kernel_rfl) (by kernel_rfl) (by kernel_rfl) (fun _ _ _ h => h) (yi_skip rfl rfl (fr_at hF 5 rfl)) hS rfl (by decide) (fun a24 hA24 hF' => ?_)
                              replace hF := hF'; clear hF'
                              refine tk (i := 24) (d := 207) (v := undef) hF rfl rfl (by kernel_rfl) (by kernel_rfl) (by kernel_rfl) (fun _ _ _ h => h) (yi_skip rfl rfl (fr_at hF 6 rfl)) hS rfl (by decide) (fun a25 hA25 hF' => ?_)
                              replace hF := hF'; clear hF'
                              refine tk (i := 25) (d := 208) (v := undef) hF rfl rfl (by kernel_rfl) (by kernel_rfl) (by kernel_rfl) (fun _ _ _ h => h) (yi_skip rfl rfl (fr_at hF 7 rfl)) hS rfl (by decide) (fun a26 hA26 hF' => ?_)
                              replace hF := hF'; clear hF'
                              refine tk (i := 26) (d := 209) (v := undef) hF rfl rfl (by kernel_rfl) (by kernel_rfl) (by kernel_rfl) (fun _ _ _ h => h) (yi_skip rfl rfl (fr_at hF 8 rfl)) hS rfl (by decide) (fun a27 hA27 hF' => ?_)
                              replace hF := hF'; clear hF'
                              refine tk (i := 27) (d := 210) (v := .bool false) hF rfl rfl (by kernel_rfl) (by kernel_rfl) (by kernel_rfl) (fun _ _ _ h => h) (yi_go rfl (fun W hW => by have f200 := fr_at hF 9 rfl; have f209 := fr_at hF 0 rfl; go_simp)) hS rfl (by decide) (fun a28 hA28 hF' => ?_)
                              replace hF := hF'; clear hF'
                              refine tk (i := 28) (d := 211) (v := .bool false) hF rfl rfl (by kernel_rfl) (by kernel_rfl) (by kernel_rfl) (fun _ _ _ h => h) (yi_go rfl (fun W hW => ex_move W rfl (fr_at hF 0 rfl))) hS rfl (by decide) (fun a29 hA29 hF' => ?_)
                              replace hF := hF'; clear hF'
                              refine tk (i := 29) (d := 212) (v := undef) hF rfl rfl (by kernel_rfl) (by kernel_rfl) (by kernel_rfl) (fun _ _ _ h => h) (yi_skip rfl rfl (fr_at hF 0 rfl)) hS rfl (by decide) (fun a30 hA30 hF' => ?_)
                              replace hF := hF'; clear hF'
                              refine tk (i := 30) (d := 213) (v := undef) hF rfl rfl (by kernel_rfl) (by kernel_rfl) (by kernel_rfl) (fun _ _ _ h => h) (yi_skip rfl rfl (fr_at hF 1 rfl)) hS rfl (by decide) (fun a31 hA31 hF' => ?_)
                              replace hF := hF'; clear hF'
                              refine tk (i := 31) (d := 214) (v := undef) hF rfl rfl (by kernel_rfl) (by kernel_rfl) (by kernel_rfl) (fun _ _ _ h => h) (yi_skip rfl rfl (fr_at hF 2 rfl)) hS rfl (by decide) (fun a32 hA32 hF' => ?_)
                              replace hF := hF'; clear hF'
                              refine tk (i := 32) (d := 215) (v := undef) hF rfl rfl (by kernel_rfl) (by kernel_rfl) (by kernel_rfl) (fun _ _ _ h => h) (yi_skip rfl rfl (fr_at hF 3 rfl)) hS rfl (by decide) (fun a33 hA33 hF' => ?_)
                              replace hF := hF'; clear hF'
                              refine tk (i := 33) (d := 216) (v := undef) hF rfl rfl (by kernel_rfl) (by kernel_rfl) (by kernel_rfl) (fun _ _ _ h => h) (yi_skip rfl rfl (fr_at hF 4 rfl)) hS rfl (by decide) (fun a34 hA34 hF' => ?_)
                              replace hF := hF'; clear hF'
                              refine tk (i := 34) (d := 217) (v := undef) hF rfl rfl (by kernel_rfl) (by kernel_rfl) (by kernel_rfl) (fun _ _ _ h => h) (yi_skip rfl rfl (fr_at hF 5 rfl)) hS rfl (by decide) (fun a35 hA35 hF' => ?_)
                              replace hF := hF'; clear hF'
                              refine tk (i := 35) (d := 218) (v := undef) hF rfl rfl (by kernel_rfl) (by kernel_rfl) (by kernel_rfl) (fun _ _ _ h => h) (yi_skip rfl rfl (fr_at hF 6 rfl)) hS rfl (by decide) (fun a36 hA36 hF' => ?_)
                              replace hF := hF'; clear hF'
                              refine tk (i := 36) (d := 219) (v := undef) hF rfl rfl (by kernel_rfl) (by kernel_rfl) (by kernel_rfl) (fun _ _ _ h => h) (yi_skip rfl rfl (fr_at hF 7 rfl)) hS rfl (by decide) (fun a37 hA37 hF' => ?_)
                              replace hF := hF'; clear hF'
                              refine tk (i := 37) (d := 220) (v := undef) hF rfl rfl (by kernel_rfl) (by kernel_rfl) (by kernel_rfl) (fun _ _ _ h => h) (yi_skip rfl rfl (fr_at hF 8 rfl)) hS rfl (by decide) (fun a38 hA38 hF' => ?_)
                              replace hF := hF'; clear hF'
                              refine tk (i := 38) (d := 221) (v := undef) hF rfl rfl (by kernel_rfl) (by kernel_rfl) (by kernel_rfl) (fun _ _ _ h => h) (yi_skip rfl rfl (fr_at hF 9 rfl)) hS rfl (by decide) (fun a39 hA39 hF' => ?_)
                              replace hF := hF'; clear hF'
                              refine tk (i := 39) (d := 222) (v := undef) hF rfl rfl (by kernel_rfl) (by kernel_rfl) (by kernel_rfl) (fun _ _ _ h => h) (yi_skip rfl rfl (fr_at hF 10 rfl)) hS rfl (by decide) (fun a40 hA40 hF' => ?_)
                              replace hF := hF'; clear hF'
                              refine tk (i := 40) (d := 223) (v := undef) hF rfl rfl (by kernel_rfl) (by kernel_rfl) (by kernel_rfl) (fun _ _ _ h => h) (yi_skip rfl rfl (fr_at hF 11 rfl)) hS rfl (by decide) (fun a41 hA41 hF' => ?_)
                              replace hF := hF'; clear hF'
                              refine tk (i := 41) (d := 224) (v := .bool false) hF rfl rfl (by kernel_rfl) (by kernel_rfl) (by kernel_rfl) (fun _ _ _ h => h) (yi_go rfl (fun W hW => by have f211 := fr_at hF 12 rfl; have f223 := fr_at hF 0 rfl; go_simp)) hS rfl (by decide) (fun a42 hA42 hF' => ?_)
                              replace hF := hF'; clear hF'
                              refine tk (i := 42) (d := 11) (v := .bool false) hF rfl rfl (by kernel_rfl) (by kernel_rfl) (by kernel_rfl) (fun _ _ _ h => h) (yi_go rfl (fun W hW => ex_assign W rfl (fr_at hF 0 rfl))) hS rfl (by decide) (fun a43 hA43 hF' => ?_)
                              replace hF := hF'; clear hF'
                              refine wpAnyH_done (by kernel_rfl) ?_ _
                              rw [← hA43, ← hA42, ← hA41, ← hA40, ← hA39, ← hA38, ← hA37, ← hA36, ← hA35, ← hA34, ← hA33, ← hA32, ← hA31, ← hA30, ← hA29, ← hA28, ← hA27, ← hA26, ← hA25, ← hA24, ← hA23, ← hA22, ← hA21, ← hA20, ← hA19, ← hA18, ← hA17, ← hA16, ← hA15, ← hA14, ← hA13, ← hA12, ← hA11, ← hA10, ← hA9, ← hA8, ← hA7, ← hA6, ← hA5, ← hA4, ← hA3, ← hA2, ← hA1, ← hA0]
                              simp only [Act.put, List.setIfInBounds_toArray, List.set_cons_zero, List.set_cons_succ]
                              go_wp2
                              go_roundw
                              case rel => exact ⟨k1 + 1, false, by omega, by go_num, rfl, Lib.hid (fun _ b hb => by rw [HT1.out, List.mem_append] at hb; rcases hb with hb | hb; exact HF2.out b hb; rw [List.mem_singleton] at hb; rw [hb, HWT.out]; simp), Lib.hid (on HW.out hS)⟩
                              case measure => simp [intOf]; omega
                            | true =>
                              by_cases hni : i0 = na
                              · subst hni
                                cases vb with
                                | false =>
                                  as_aux_lemma =>
                                  clear hok c3 l2
                                  go_wp2
                                  refine wp_region_held (S := fun W => Below wr.heap.size wr W) (by kernel_rfl) ?_
                                  generalize hA0 : Act.mk _ _ = a0
                                  have hF := Fr.nil (n := 228) (a := a0) (by rw [← hA0]; rfl)
                                  replace hF := Fr.cons hF 9 (.int .i64 j0) (by rw [← hA0]; rfl)
                                  replace hF := Fr.cons hF 5 (.slice (some ⟨O1, 0, none⟩) n n) (by rw [← hA0]; rfl)
                                  replace hF := Fr.cons hF 0 (.int .i64 n) (by rw [← hA0]; rfl)
                                  replace hF := Fr.cons hF 8 (.int .i64 i0) (by rw [← hA0]; rfl)
                                  replace hF := Fr.cons hF 12 (.int .i64 k1) (by rw [← hA0]; rfl)
                                  replace hF := Fr.cons hF 1 (.slice (some ⟨b, o, none⟩) k cap) (by rw [← hA0]; rfl)
                                  have hS := Below.drew RF
                                  change wpAnyH _ _ _ _ _ _ _ _ (World.drew _)
                                  refine tk (i := 0) (d := 183) (v := .slice (some ⟨b, o, none⟩) k cap) hF rfl rfl (by kernel_rfl) (by kernel_rfl) (by kernel_rfl) (fun _ _ _ h => h) (yi_go rfl (fun W hW => ex_move W rfl (fr_at hF 0 rfl))) hS rfl (by decide) (fun a1 hA1 hF' => ?_)
                                  replace hF := hF'; clear hF'
                                  refine tk (i := 1) (d := 184) (v := .int .i64 k1) hF rfl rfl (by kernel_rfl) (by kernel_rfl) (by kernel_rfl) (fun _ _ _ h => h) (yi_go rfl (fun W hW => ex_move W rfl (fr_at hF 2 rfl))) hS rfl (by decide) (fun a2 hA2 hF' => ?_)
                                  replace hF := hF'; clear hF'
                                  refine tk (i := 2) (d := 185) (v := .pointer (some ⟨b, o + k1 * 4, none⟩)) hF rfl rfl (by kernel_rfl) (by kernel_rfl) (by kernel_rfl) (fun _ _ _ h => h) (yi_go rfl (fun W hW => by have f183 := fr_at hF 1 rfl; have f184 := fr_at hF 0 rfl; go_simp)) hS rfl (by decide) (fun a3 hA3 hF' => ?_)
                                  replace hF := hF'; clear hF'
                                  refine tk (i := 3) (d := 186) (v := .pointer (some ⟨b, o + k1 * 4, none⟩)) hF rfl rfl (by kernel_rfl) (by kernel_rfl) (by kernel_rfl) (fun _ _ _ h => h) (yi_go rfl (fun W hW => by have f185 := fr_at hF 0 rfl; go_simp)) hS rfl (by decide) (fun a4 hA4 hF' => ?_)
                                  replace hF := hF'; clear hF'
                                  refine tk (i := 4) (d := 187) (v := .agg #[.bool true, .int .u64 i0]) hF rfl rfl (by kernel_rfl) (by kernel_rfl) (by kernel_rfl) (fun _ _ _ h => h) (yi_go rfl (fun W hW => by replace c0 := (hW.cell (p := ⟨b, o + k1 * 4, none⟩) (World.block_lt_of_cell? _ _ c0)).trans c0; replace c1 := (hW.cell (p := ⟨b, o + k1 * 4 + 1, none⟩) (World.block_lt_of_cell? _ _ c1)).trans c1; have f186 := fr_at hF 0 rfl; go_simp)) hS rfl (by decide) (fun a5 hA5 hF' => ?_)
                                  replace hF := hF'; clear hF'
                                  refine tk (i := 5) (d := 188) (v := .int .i64 i0) hF rfl rfl (by kernel_rfl) (by kernel_rfl) (by kernel_rfl) (fun _ _ _ h => h) (yi_go rfl (fun W hW => ex_move W rfl (fr_at hF 7 rfl))) hS rfl (by decide) (fun a6 hA6 hF' => ?_)
                                  replace hF := hF'; clear hF'
                                  refine tk (i := 6) (d := 189) (v := .int .u64 i0) hF rfl rfl (by kernel_rfl) (by kernel_rfl) (by kernel_rfl) (fun _ _ _ h => h) (yi_go rfl (fun W hW => by have f188 := fr_at hF 0 rfl; go_simp)) hS rfl (by decide) (fun a7 hA7 hF' => ?_)
                                  replace hF := hF'; clear hF'
                                  refine wpAnyH_ready (rs := [7]) (by kernel_rfl) (by simp) ?_
                                  refine AllReadyH.cons rfl (fun K hK => ?_) AllReadyH.nil
                                  have f189 := fr_at hF 0 rfl
                                  go_simp
                                  clear f189
                                  go_at_call 9
                                  refine (v_any i0 _).mono ?_
                                  rintro e w' ⟨rfl, hb⟩
                                  go_wp2_with fail
                                  refine hK.out _ _ (on hS hb) (fun hHeld => ?_)
                                  clear hK K hS hb
                                  have hS := hHeld
                                  clear hHeld
                                  change wpAnyH _ _ _ _ _ _ _ (a7.put (some 190) (.agg #[.bool true, .int .u64 i0])) _
                                  have hF' := fr_put hF 190 (.agg #[.bool true, .int .u64 i0]) rfl (by decide)
                                  generalize hA8 : Act.put a7 (some 190) (.agg #[.bool true, .int .u64 i0]) = a8 at hF' ⊢
                                  replace hF := hF'; clear hF'
                                  refine tk (i := 8) (d := 191) (v := .bool true) hF rfl rfl (by kernel_rfl) (by kernel_rfl) (by kernel_rfl) (fun _ _ _ h => h) (yi_go rfl (fun W hW => by have f187 := fr_at hF 3 rfl; have f190 := fr_at hF 0 rfl; go_simp)) hS rfl (by decide) (fun a9 hA9 hF' => ?_)
                                  replace hF := hF'; clear hF'
                                  refine tk (i := 9) (d := 192) (v := .bool true) hF rfl rfl (by kernel_rfl) (by kernel_rfl) (by kernel_rfl) (fun _ _ _ h => h) (yi_go rfl (fun W hW => ex_move W rfl (fr_at hF 0 rfl))) hS rfl (by decide) (fun a10 hA10 hF' => ?_)
                                  replace hF := hF'; clear hF'
                                  refine tk (i := 10) (d := 193) (v := .slice (some ⟨b, o, none⟩) k cap) hF rfl rfl (by kernel_rfl) (by kernel_rfl) (by kernel_rfl) (fun _ _ _ h => h) (yi_want rfl rfl (fr_at hF 0 rfl) (fun W hW => ex_move W rfl (fr_at hF 10 rfl))) hS rfl (by decide) (fun a11 hA11 hF' => ?_)
                                  replace hF := hF'; clear hF'
                                  refine tk (i := 11) (d := 194) (v := .int .i64 k1) hF rfl rfl (by kernel_rfl) (by kernel_rfl) (by kernel_rfl) (fun _ _ _ h => h) (yi_want rfl rfl (fr_at hF 1 rfl) (fun W hW => ex_move W rfl (fr_at hF 12 rfl))) hS rfl (by decide) (fun a12 hA12 hF' => ?_)
                                  replace hF := hF'; clear hF'
                                  refine tk (i := 12) (d := 195) (v := .pointer (some ⟨b, o + k1 * 4, none⟩)) hF rfl rfl (by kernel_rfl) (by kernel_rfl) (by kernel_rfl) (fun _ _ _ h => h) (yi_want rfl rfl (fr_at hF 2 rfl) (fun W hW => by have f193 := fr_at hF 1 rfl; have f194 := fr_at hF 0 rfl; go_simp)) hS rfl (by decide) (fun a13 hA13 hF' => ?_)
                                  replace hF := hF'; clear hF'
                                  refine tk (i := 13) (d := 196) (v := .pointer (some ⟨b, o + k1 * 4 + 2, none⟩)) hF rfl rfl (by kernel_rfl) (by kernel_rfl) (by kernel_rfl) (fun _ _ _ h => h) (yi_want rfl rfl (fr_at hF 3 rfl) (fun W hW => by have f195 := fr_at hF 0 rfl; go_simp)) hS rfl (by decide) (fun a14 hA14 hF' => ?_)
                                  replace hF := hF'; clear hF'
                                  refine tk (i := 14) (d := 197) (v := .pointer (some ⟨b, o + k1 * 4 + 2, none⟩)) hF rfl rfl (by kernel_rfl) (by kernel_rfl) (by kernel_rfl) (fun _ _ _ h => h) (yi_want rfl rfl (fr_at hF 4 rfl) (fun W hW => by have f196 := fr_at hF 0 rfl; go_simp)) hS rfl (by decide) (fun a15 hA15 hF' => ?_)
                                  replace hF := hF'; clear hF'
                                  refine tk (i := 15) (d := 198) (v := .bool false) hF rfl rfl (by kernel_rfl) (by kernel_rfl) (by kernel_rfl) (fun _ _ _ h => h) (yi_want rfl rfl (fr_at hF 5 rfl) (fun W hW => by replace c2 := (hW.cell (p := ⟨b, o + k1 * 4 + 2, none⟩) (World.block_lt_of_cell? _ _ c2)).trans c2; have f197 := fr_at hF 0 rfl; go_simp)) hS rfl (by decide) (fun a16 hA16 hF' => ?_)
                                  replace hF := hF'; clear hF'
                                  refine tk (i := 16) (d := 199) (v := .bool false) hF rfl rfl (by kernel_rfl) (by kernel_rfl) (by kernel_rfl) (fun _ _ _ h => h) (yi_go rfl (fun W hW => by have f192 := fr_at hF 6 rfl; have f198 := fr_at hF 0 rfl; go_simp)) hS rfl (by decide) (fun a17 hA17 hF' => ?_)
                                  replace hF := hF'; clear hF'
                                  refine tk (i := 17) (d := 200) (v := .bool false) hF rfl rfl (by kernel_rfl) (by kernel_rfl) (by kernel_rfl) (fun _ _ _ h => h) (yi_go rfl (fun W hW => ex_move W rfl (fr_at hF 0 rfl))) hS rfl (by decide) (fun a18 hA18 hF' => ?_)
                                  replace hF := hF'; clear hF'
                                  refine tk (i := 18) (d := 201) (v := undef) hF rfl rfl (by kernel_rfl) (by kernel_rfl) (by kernel_rfl) (fun _ _ _ h => h) (yi_skip rfl rfl (fr_at hF 0 rfl)) hS rfl (by decide) (fun a19 hA19 hF' => ?_)
                                  replace hF := hF'; clear hF'
                                  refine tk (i := 19) (d := 202) (v := undef) hF rfl rfl (by kernel_rfl) (by kernel_rfl) (by kernel_rfl) (fun _ _ _ h => h) (yi_skip rfl rfl (fr_at hF 1 rfl)) hS rfl (by decide) (fun a20 hA20 hF' => ?_)
                                  replace hF := hF'; clear hF'
                                  refine tk (i := 20) (d := 203) (v := undef) hF rfl rfl (by kernel_rfl) (by kernel_rfl) (by kernel_rfl) (fun _ _ _ h => h) (yi_skip rfl rfl (fr_at hF 2 rfl)) hS rfl (by decide) (fun a21 hA21 hF' => ?_)
                                  replace hF := hF'; clear hF'
                                  refine tk (i := 21) (d := 204) (v := undef) hF rfl rfl (by kernel_rfl) (by kernel_rfl) (by kernel_rfl) (fun _ _ _ h => h) (yi_skip rfl rfl (fr_at hF 3 rfl)) hS rfl (by decide) (fun a22 hA22 hF' => ?_)
                                  replace hF := hF'; clear hF'
                                  refine tk (i := 22) (d := 205) (v := undef) hF rfl rfl (by kernel_rfl) (by kernel_rfl) (by kernel_rfl) (fun _ _ _ h => h) (yi_skip rfl rfl (fr_at hF 4 rfl)) hS rfl (by decide) (fun a23 hA23 hF' => ?_)
                                  replace hF := hF'; clear hF'
                                  refine tk (i := 23) (d := 206) (v := undef) hF rfl rfl (by kernel_rfl) (by kernel_rfl) (by kernel_rfl) (fun _ _ _ h => h) (yi_skip rfl rfl (fr_at hF 5 rfl)) hS rfl (by decide) (fun a24 hA24 hF' => ?_)
                                  replace hF := hF'; clear hF'
                                  refine tk (i := 24) (d := 207) (v := undef) hF rfl rfl (by kernel_rfl) (by kernel_rfl) (by kernel_rfl) (fun _ _ _ h => h) (yi_skip rfl rfl (fr_at hF 6 rfl)) hS rfl (by decide) (fun a25 hA25 hF' => ?_)
                                  replace hF := hF'; clear hF'
                                  refine tk (i := 25) (d := 208) (v := undef) hF rfl rfl (by kernel_rfl) (by kernel_rfl) (by kernel_rfl) (fun _ _ _ h => h) (yi_skip rfl rfl (fr_at hF 7 rfl)) hS rfl (by decide) (fun a26 hA26 hF' => ?_)
                                  replace hF := hF'; clear hF'
                                  refine tk (i := 26) (d := 209) (v := undef) hF rfl rfl (by kernel_rfl) (by kernel_rfl) (by kernel_rfl) (fun _ _ _ h => h) (yi_skip rfl rfl (fr_at hF 8 rfl)) hS rfl (by decide) (fun a27 hA27 hF' => ?_)
                                  replace hF := hF'; clear hF'
                                  refine tk (i := 27) (d := 210) (v := .bool false) hF rfl rfl (by kernel_rfl) (by kernel_rfl) (by kernel_rfl) (fun _ _ _ h => h) (yi_go rfl (fun W hW => by have f200 := fr_at hF 9 rfl; have f209 := fr_at hF 0 rfl; go_simp)) hS rfl (by decide) (fun a28 hA28 hF' => ?_)
                                  replace hF := hF'; clear hF'
                                  refine tk (i := 28) (d := 211) (v := .bool false) hF rfl rfl (by kernel_rfl) (by kernel_rfl) (by kernel_rfl) (fun _ _ _ h => h) (yi_go rfl (fun W hW => ex_move W rfl (fr_at hF 0 rfl))) hS rfl (by decide) (fun a29 hA29 hF' => ?_)
                                  replace hF := hF'; clear hF'
                                  refine tk (i := 29) (d := 212) (v := undef) hF rfl rfl (by kernel_rfl) (by kernel_rfl) (by kernel_rfl) (fun _ _ _ h => h) (yi_skip rfl rfl (fr_at hF 0 rfl)) hS rfl (by decide) (fun a30 hA30 hF' => ?_)
                                  replace hF := hF'; clear hF'
                                  refine tk (i := 30) (d := 213) (v := undef) hF rfl rfl (by kernel_rfl) (by kernel_rfl) (by kernel_rfl) (fun _ _ _ h => h) (yi_skip rfl rfl (fr_at hF 1 rfl)) hS rfl (by decide) (fun a31 hA31 hF' => ?_)
                                  replace hF := hF'; clear hF'
                                  refine tk (i := 31) (d := 214) (v := undef) hF rfl rfl (by kernel_rfl) (by kernel_rfl) (by kernel_rfl) (fun _ _ _ h => h) (yi_skip rfl rfl (fr_at hF 2 rfl)) hS rfl (by decide) (fun a32 hA32 hF' => ?_)
                                  replace hF := hF'; clear hF'
                                  refine tk (i := 32) (d := 215) (v := undef) hF rfl rfl (by kernel_rfl) (by kernel_rfl) (by kernel_rfl) (fun _ _ _ h => h) (yi_skip rfl rfl (fr_at hF 3 rfl)) hS rfl (by decide) (fun a33 hA33 hF' => ?_)
                                  replace hF := hF'; clear hF'
                                  refine tk (i := 33) (d := 216) (v := undef) hF rfl rfl (by kernel_rfl) (by kernel_rfl) (by kernel_rfl) (fun _ _ _ h => h) (yi_skip rfl rfl (fr_at hF 4 rfl)) hS rfl (by decide) (fun a34 hA34 hF' => ?_)
                                  replace hF := hF'; clear hF'
                                  refine tk (i := 34) (d := 217) (v := undef) hF rfl rfl (by kernel_rfl) (by kernel_rfl) (by kernel_rfl) (fun _ _ _ h => h) (yi_skip rfl rfl (fr_at hF 5 rfl)) hS rfl (by decide) (fun a35 hA35 hF' => ?_)
                                  replace hF := hF'; clear hF'
                                  refine tk (i := 35) (d := 218) (v := undef) hF rfl rfl (by kernel_rfl) (by kernel_rfl) (by kernel_rfl) (fun _ _ _ h => h) (yi_skip rfl rfl (fr_at hF 6 rfl)) hS rfl (by decide) (fun a36 hA36 hF' => ?_)
                                  replace hF := hF'; clear hF'
                                  refine tk (i := 36) (d := 219) (v := undef) hF rfl rfl (by kernel_rfl) (by kernel_rfl) (by kernel_rfl) (fun _ _ _ h => h) (yi_skip rfl rfl (fr_at hF 7 rfl)) hS rfl (by decide) (fun a37 hA37 hF' => ?_)
                                  replace hF := hF'; clear hF'
                                  refine tk (i := 37) (d := 220) (v := undef) hF rfl rfl (by kernel_rfl) (by kernel_rfl) (by kernel_rfl) (fun _ _ _ h => h) (yi_skip rfl rfl (fr_at hF 8 rfl)) hS rfl (by decide) (fun a38 hA38 hF' => ?_)
                                  replace hF := hF'; clear hF'
                                  refine tk (i := 38) (d := 221) (v := undef) hF rfl rfl (by kernel_rfl) (by kernel_rfl) (by kernel_rfl) (fun _ _ _ h => h) (yi_skip rfl rfl (fr_at hF 9 rfl)) hS rfl (by decide) (fun a39 hA39 hF' => ?_)
                                  replace hF := hF'; clear hF'
                                  refine tk (i := 39) (d := 222) (v := undef) hF rfl rfl (by kernel_rfl) (by kernel_rfl) (by kernel_rfl) (fun _ _ _ h => h) (yi_skip rfl rfl (fr_at hF 10 rfl)) hS rfl (by decide) (fun a40 hA40 hF' => ?_)
                                  replace hF := hF'; clear hF'
                                  refine tk (i := 40) (d := 223) (v := undef) hF rfl rfl (by kernel_rfl) (by kernel_rfl) (by kernel_rfl) (fun _ _ _ h => h) (yi_skip rfl rfl (fr_at hF 11 rfl)) hS rfl (by decide) (fun a41 hA41 hF' => ?_)
                                  replace hF := hF'; clear hF'
                                  refine tk (i := 41) (d := 224) (v := .bool false) hF rfl rfl (by kernel_rfl) (by kernel_rfl) (by kernel_rfl) (fun _ _ _ h => h) (yi_go rfl (fun W hW => by have f211 := fr_at hF 12 rfl; have f223 := fr_at hF 0 rfl; go_simp)) hS rfl (by decide) (fun a42 hA42 hF' => ?_)
                                  replace hF := hF'; clear hF'
                                  refine tk (i := 42) (d := 11) (v := .bool false) hF rfl rfl (by kernel_rfl) (by kernel_rfl) (by kernel_rfl) (fun _ _ _ h => h) (yi_go rfl (fun W hW => ex_assign W rfl (fr_at hF 0 rfl))) hS rfl (by decide) (fun a43 hA43 hF' => ?_)
                                  replace hF := hF'; clear hF'
                                  refine wpAnyH_done (by kernel_rfl) ?_ _
                                  rw [← hA43, ← hA42, ← hA41, ← hA40, ← hA39, ← hA38, ← hA37, ← hA36, ← hA35, ← hA34, ← hA33, ← hA32, ← hA31, ← hA30, ← hA29, ← hA28, ← hA27, ← hA26, ← hA25, ← hA24, ← hA23, ← hA22, ← hA21, ← hA20, ← hA19, ← hA18, ← hA17, ← hA16, ← hA15, ← hA14, ← hA13, ← hA12, ← hA11, ← hA10, ← hA9, ← hA8, ← hA7, ← hA6, ← hA5, ← hA4, ← hA3, ← hA2, ← hA1, ← hA0]
                                  simp only [Act.put, List.setIfInBounds_toArray, List.set_cons_zero, List.set_cons_succ]
                                  go_wp2
                                  go_roundw
                                  case rel => exact ⟨k1 + 1, false, by omega, by go_num, rfl, Lib.hid (fun _ b hb => by rw [HT1.out, List.mem_append] at hb; rcases hb with hb | hb; exact HF2.out b hb; rw [List.mem_singleton] at hb; rw [hb, HWT.out]; simp), Lib.hid (on HW.out hS)⟩
                                  case measure => simp [intOf]; omega
                                | true =>
                                  as_aux_lemma =>
                                  have hnbn : nb < n := by simp at hok; exact hok.2
                                  obtain ⟨g1, z1, z2⟩ := (HX.out.below HW.out).cells hnbn hjn
                                  clear hok
                                  obtain ⟨rb, hrb⟩ : ∃ rb, rb = reach n L nb j0 := ⟨_, rfl⟩
                                  rw [← hrb] at z2
                                  have HRB := Lib.hid hrb
                                  clear hrb
                                  have i8 : IntKind.u64.wrap (n : Int) = (n : Int) := by rw [IntKind.wrap_u64]; omega
                                  have i9 : decide ((nb : Int) < (n : Int)) = true := by simp; omega
                                  have i10 : (nb : Int) < (n : Int) := by omega
                                  have i11 : ¬ ((n : Int) ≤ (nb : Int)) := by omega
                                  have i12 : decide ((n : Int) ≤ (nb : Int)) = false := by simp; omega
                                  have i13 : decide (n ≤ nb) = false := by simp; omega
                                  go_wp2
                                  refine wp_region_held (S := fun W => Below wr.heap.size wr W) (by kernel_rfl) ?_
                                  generalize hA0 : Act.mk _ _ = a0
                                  have hF := Fr.nil (n := 228) (a := a0) (by rw [← hA0]; rfl)
                                  replace hF := Fr.cons hF 9 (.int .i64 j0) (by rw [← hA0]; rfl)
                                  replace hF := Fr.cons hF 5 (.slice (some ⟨O1, 0, none⟩) n n) (by rw [← hA0]; rfl)
                                  replace hF := Fr.cons hF 0 (.int .i64 n) (by rw [← hA0]; rfl)
                                  replace hF := Fr.cons hF 8 (.int .i64 i0) (by rw [← hA0]; rfl)
                                  replace hF := Fr.cons hF 12 (.int .i64 k1) (by rw [← hA0]; rfl)
                                  replace hF := Fr.cons hF 1 (.slice (some ⟨b, o, none⟩) k cap) (by rw [← hA0]; rfl)
                                  have hS := Below.drew RF
                                  change wpAnyH _ _ _ _ _ _ _ _ (World.drew _)
                                  refine tk (i := 0) (d := 183) (v := .slice (some ⟨b, o, none⟩) k cap) hF rfl rfl (by kernel_rfl) (by kernel_rfl) (by kernel_rfl) (fun _ _ _ h => h) (yi_go rfl (fun W hW => ex_move W rfl (fr_at hF 0 rfl))) hS rfl (by decide) (fun a1 hA1 hF' => ?_)
                                  replace hF := hF'; clear hF'
                                  refine tk (i := 1) (d := 184) (v := .int .i64 k1) hF rfl rfl (by kernel_rfl) (by kernel_rfl) (by kernel_rfl) (fun _ _ _ h => h) (yi_go rfl (fun W hW => ex_move W rfl (fr_at hF 2 rfl))) hS rfl (by decide) (fun a2 hA2 hF' => ?_)
                                  replace hF := hF'; clear hF'
                                  refine tk (i := 2) (d := 185) (v := .pointer (some ⟨b, o + k1 * 4, none⟩)) hF rfl rfl (by kernel_rfl) (by kernel_rfl) (by kernel_rfl) (fun _ _ _ h => h) (yi_go rfl (fun W hW => by have f183 := fr_at hF 1 rfl; have f184 := fr_at hF 0 rfl; go_simp)) hS rfl (by decide) (fun a3 hA3 hF' => ?_)
                                  replace hF := hF'; clear hF'
                                  refine tk (i := 3) (d := 186) (v := .pointer (some ⟨b, o + k1 * 4, none⟩)) hF rfl rfl (by kernel_rfl) (by kernel_rfl) (by kernel_rfl) (fun _ _ _ h => h) (yi_go rfl (fun W hW => by have f185 := fr_at hF 0 rfl; go_simp)) hS rfl (by decide) (fun a4 hA4 hF' => ?_)
                                  replace hF := hF'; clear hF'
                                  refine tk (i := 4) (d := 187) (v := .agg #[.bool true, .int .u64 i0]) hF rfl rfl (by kernel_rfl) (by kernel_rfl) (by kernel_rfl) (fun _ _ _ h => h) (yi_go rfl (fun W hW => by replace c0 := (hW.cell (p := ⟨b, o + k1 * 4, none⟩) (World.block_lt_of_cell? _ _ c0)).trans c0; replace c1 := (hW.cell (p := ⟨b, o + k1 * 4 + 1, none⟩) (World.block_lt_of_cell? _ _ c1)).trans c1; have f186 := fr_at hF 0 rfl; go_simp)) hS rfl (by decide) (fun a5 hA5 hF' => ?_)
                                  replace hF := hF'; clear hF'
                                  refine tk (i := 5) (d := 188) (v := .int .i64 i0) hF rfl rfl (by kernel_rfl) (by kernel_rfl) (by kernel_rfl) (fun _ _ _ h => h) (yi_go rfl (fun W hW => ex_move W rfl (fr_at hF 7 rfl))) hS rfl (by decide) (fun a6 hA6 hF' => ?_)
                                  replace hF := hF'; clear hF'
                                  refine tk (i := 6) (d := 189) (v := .int .u64 i0) hF rfl rfl (by kernel_rfl) (by kernel_rfl) (by kernel_rfl) (fun _ _ _ h => h) (yi_go rfl (fun W hW => by have f188 := fr_at hF 0 rfl; go_simp)) hS rfl (by decide) (fun a7 hA7 hF' => ?_)
                                  replace hF := hF'; clear hF'
                                  refine wpAnyH_ready (rs := [7]) (by kernel_rfl) (by simp) ?_
                                  refine AllReadyH.cons rfl (fun K hK => ?_) AllReadyH.nil
                                  have f189 := fr_at hF 0 rfl
                                  go_simp
                                  clear f189
                                  go_at_call 9
                                  refine (v_any i0 _).mono ?_
                                  rintro e w' ⟨rfl, hb⟩
                                  go_wp2_with fail
                                  refine hK.out _ _ (on hS hb) (fun hHeld => ?_)
                                  clear hK K hS hb
                                  have hS := hHeld
                                  clear hHeld
                                  change wpAnyH _ _ _ _ _ _ _ (a7.put (some 190) (.agg #[.bool true, .int .u64 i0])) _
                                  have hF' := fr_put hF 190 (.agg #[.bool true, .int .u64 i0]) rfl (by decide)
                                  generalize hA8 : Act.put a7 (some 190) (.agg #[.bool true, .int .u64 i0]) = a8 at hF' ⊢
                                  replace hF := hF'; clear hF'
                                  refine tk (i := 8) (d := 191) (v := .bool true) hF rfl rfl (by kernel_rfl) (by kernel_rfl) (by kernel_rfl) (fun _ _ _ h => h) (yi_go rfl (fun W hW => by have f187 := fr_at hF 3 rfl; have f190 := fr_at hF 0 rfl; go_simp)) hS rfl (by decide) (fun a9 hA9 hF' => ?_)
                                  replace hF := hF'; clear hF'
                                  refine tk (i := 9) (d := 192) (v := .bool true) hF rfl rfl (by kernel_rfl) (by kernel_rfl) (by kernel_rfl) (fun _ _ _ h => h) (yi_go rfl (fun W hW => ex_move W rfl (fr_at hF 0 rfl))) hS rfl (by decide) (fun a10 hA10 hF' => ?_)
                                  replace hF := hF'; clear hF'
                                  refine tk (i := 10) (d := 193) (v := .slice (some ⟨b, o, none⟩) k cap) hF rfl rfl (by kernel_rfl) (by kernel_rfl) (by kernel_rfl) (fun _ _ _ h => h) (yi_want rfl rfl (fr_at hF 0 rfl) (fun W hW => ex_move W rfl (fr_at hF 10 rfl))) hS rfl (by decide) (fun a11 hA11 hF' => ?_)
                                  replace hF := hF'; clear hF'
                                  refine tk (i := 11) (d := 194) (v := .int .i64 k1) hF rfl rfl (by kernel_rfl) (by kernel_rfl) (by kernel_rfl) (fun _ _ _ h => h) (yi_want rfl rfl (fr_at hF 1 rfl) (fun W hW => ex_move W rfl (fr_at hF 12 rfl))) hS rfl (by decide) (fun a12 hA12 hF' => ?_)
                                  replace hF := hF'; clear hF'
                                  refine tk (i := 12) (d := 195) (v := .pointer (some ⟨b, o + k1 * 4, none⟩)) hF rfl rfl (by kernel_rfl) (by kernel_rfl) (by kernel_rfl) (fun _ _ _ h => h) (yi_want rfl rfl (fr_at hF 2 rfl) (fun W hW => by have f193 := fr_at hF 1 rfl; have f194 := fr_at hF 0 rfl; go_simp)) hS rfl (by decide) (fun a13 hA13 hF' => ?_)
                                  replace hF := hF'; clear hF'
                                  refine tk (i := 13) (d := 196) (v := .pointer (some ⟨b, o + k1 * 4 + 2, none⟩)) hF rfl rfl (by kernel_rfl) (by kernel_rfl) (by kernel_rfl) (fun _ _ _ h => h) (yi_want rfl rfl (fr_at hF 3 rfl) (fun W hW => by have f195 := fr_at hF 0 rfl; go_simp)) hS rfl (by decide) (fun a14 hA14 hF' => ?_)
                                  replace hF := hF'; clear hF'
                                  refine tk (i := 14) (d := 197) (v := .pointer (some ⟨b, o + k1 * 4 + 2, none⟩)) hF rfl rfl (by kernel_rfl) (by kernel_rfl) (by kernel_rfl) (fun _ _ _ h => h) (yi_want rfl rfl (fr_at hF 4 rfl) (fun W hW => by have f196 := fr_at hF 0 rfl; go_simp)) hS rfl (by decide) (fun a15 hA15 hF' => ?_)
                                  replace hF := hF'; clear hF'
                                  refine tk (i := 15) (d := 198) (v := .bool true) hF rfl rfl (by kernel_rfl) (by kernel_rfl) (by kernel_rfl) (fun _ _ _ h => h) (yi_want rfl rfl (fr_at hF 5 rfl) (fun W hW => by replace c2 := (hW.cell (p := ⟨b, o + k1 * 4 + 2, none⟩) (World.block_lt_of_cell? _ _ c2)).trans c2; have f197 := fr_at hF 0 rfl; go_simp)) hS rfl (by decide) (fun a16 hA16 hF' => ?_)
                                  replace hF := hF'; clear hF'
                                  refine tk (i := 16) (d := 199) (v := .bool true) hF rfl rfl (by kernel_rfl) (by kernel_rfl) (by kernel_rfl) (fun _ _ _ h => h) (yi_go rfl (fun W hW => by have f192 := fr_at hF 6 rfl; have f198 := fr_at hF 0 rfl; go_simp)) hS rfl (by decide) (fun a17 hA17 hF' => ?_)
                                  replace hF := hF'; clear hF'
                                  refine tk (i := 17) (d := 200) (v := .bool true) hF rfl rfl (by kernel_rfl) (by kernel_rfl) (by kernel_rfl) (fun _ _ _ h => h) (yi_go rfl (fun W hW => ex_move W rfl (fr_at hF 0 rfl))) hS rfl (by decide) (fun a18 hA18 hF' => ?_)
                                  replace hF := hF'; clear hF'
                                  refine tk (i := 18) (d := 201) (v := .slice (some ⟨b, o, none⟩) k cap) hF rfl rfl (by kernel_rfl) (by kernel_rfl) (by kernel_rfl) (fun _ _ _ h => h) (yi_want rfl rfl (fr_at hF 0 rfl) (fun W hW => ex_move W rfl (fr_at hF 18 rfl))) hS rfl (by decide) (fun a19 hA19 hF' => ?_)
                                  replace hF := hF'; clear hF'
                                  refine tk (i := 19) (d := 202) (v := .int .i64 k1) hF rfl rfl (by kernel_rfl) (by kernel_rfl) (by kernel_rfl) (fun _ _ _ h => h) (yi_want rfl rfl (fr_at hF 1 rfl) (fun W hW => ex_move W rfl (fr_at hF 20 rfl))) hS rfl (by decide) (fun a20 hA20 hF' => ?_)
                                  replace hF := hF'; clear hF'
                                  refine tk (i := 20) (d := 203) (v := .pointer (some ⟨b, o + k1 * 4, none⟩)) hF rfl rfl (by kernel_rfl) (by kernel_rfl) (by kernel_rfl) (fun _ _ _ h => h) (yi_want rfl rfl (fr_at hF 2 rfl) (fun W hW => by have f201 := fr_at hF 1 rfl; have f202 := fr_at hF 0 rfl; go_simp)) hS rfl (by decide) (fun a21 hA21 hF' => ?_)
                                  replace hF := hF'; clear hF'
                                  refine tk (i := 21) (d := 204) (v := .pointer (some ⟨b, o + k1 * 4 + 2, none⟩)) hF rfl rfl (by kernel_rfl) (by kernel_rfl) (by kernel_rfl) (fun _ _ _ h => h) (yi_want rfl rfl (fr_at hF 3 rfl) (fun W hW => by have f203 := fr_at hF 0 rfl; go_simp)) hS rfl (by decide) (fun a22 hA22 hF' => ?_)
                                  replace hF := hF'; clear hF'
                                  refine tk (i := 22) (d := 205) (v := .pointer (some ⟨b, o + k1 * 4 + 2 + 1, none⟩)) hF rfl rfl (by kernel_rfl) (by kernel_rfl) (by kernel_rfl) (fun _ _ _ h => h) (yi_want rfl rfl (fr_at hF 4 rfl) (fun W hW => by have f204 := fr_at hF 0 rfl; go_simp)) hS rfl (by decide) (fun a23 hA23 hF' => ?_)
                                  replace hF := hF'; clear hF'
                                  refine tk (i := 23) (d := 206) (v := .int .u64 nb) hF rfl rfl (by kernel_rfl) (by kernel_rfl) (by kernel_rfl) (fun _ _ _ h => h) (yi_want rfl rfl (fr_at hF 5 rfl) (fun W hW => by replace c3 := (hW.cell (p := ⟨b, o + k1 * 4 + 2 + 1, none⟩) (World.block_lt_of_cell? _ _ c3)).trans c3; have f205 := fr_at hF 0 rfl; go_simp)) hS rfl (by decide) (fun a24 hA24 hF' => ?_)
                                  replace hF := hF'; clear hF'
                                  refine tk (i := 24) (d := 207) (v := .int .i64 n) hF rfl rfl (by kernel_rfl) (by kernel_rfl) (by kernel_rfl) (fun _ _ _ h => h) (yi_want rfl rfl (fr_at hF 6 rfl) (fun W hW => ex_move W rfl (fr_at hF 27 rfl))) hS rfl (by decide) (fun a25 hA25 hF' => ?_)
                                  replace hF := hF'; clear hF'
                                  refine tk (i := 25) (d := 208) (v := .int .u64 n) hF rfl rfl (by kernel_rfl) (by kernel_rfl) (by kernel_rfl) (fun _ _ _ h => h) (yi_want rfl rfl (fr_at hF 7 rfl) (fun W hW => by have f207 := fr_at hF 0 rfl; go_simp)) hS rfl (by decide) (fun a26 hA26 hF' => ?_)
                                  replace hF := hF'; clear hF'
                                  refine tk (i := 26) (d := 209) (v := .bool true) hF rfl rfl (by kernel_rfl) (by kernel_rfl) (by kernel_rfl) (fun _ _ _ h => h) (yi_want rfl rfl (fr_at hF 8 rfl) (fun W hW => by have f206 := fr_at hF 2 rfl; have f208 := fr_at hF 0 rfl; go_simp)) hS rfl (by decide) (fun a27 hA27 hF' => ?_)
                                  replace hF := hF'; clear hF'
                                  refine tk (i := 27) (d := 210) (v := .bool true) hF rfl rfl (by kernel_rfl) (by kernel_rfl) (by kernel_rfl) (fun _ _ _ h => h) (yi_go rfl (fun W hW => by have f200 := fr_at hF 9 rfl; have f209 := fr_at hF 0 rfl; go_simp)) hS rfl (by decide) (fun a28 hA28 hF' => ?_)
                                  replace hF := hF'; clear hF'
                                  refine tk (i := 28) (d := 211) (v := .bool true) hF rfl rfl (by kernel_rfl) (by kernel_rfl) (by kernel_rfl) (fun _ _ _ h => h) (yi_go rfl (fun W hW => ex_move W rfl (fr_at hF 0 rfl))) hS rfl (by decide) (fun a29 hA29 hF' => ?_)
                                  replace hF := hF'; clear hF'
                                  refine tk (i := 29) (d := 212) (v := .slice (some ⟨O1, 0, none⟩) n n) hF rfl rfl (by kernel_rfl) (by kernel_rfl) (by kernel_rfl) (fun _ _ _ h => h) (yi_want rfl rfl (fr_at hF 0 rfl) (fun W hW => ex_move W rfl (fr_at hF 33 rfl))) hS rfl (by decide) (fun a30 hA30 hF' => ?_)
                                  replace hF := hF'; clear hF'
                                  refine tk (i := 30) (d := 213) (v := .slice (some ⟨b, o, none⟩) k cap) hF rfl rfl (by kernel_rfl) (by kernel_rfl) (by kernel_rfl) (fun _ _ _ h => h) (yi_want rfl rfl (fr_at hF 1 rfl) (fun W hW => ex_move W rfl (fr_at hF 30 rfl))) hS rfl (by decide) (fun a31 hA31 hF' => ?_)
                                  replace hF := hF'; clear hF'
                                  refine tk (i := 31) (d := 214) (v := .int .i64 k1) hF rfl rfl (by kernel_rfl) (by kernel_rfl) (by kernel_rfl) (fun _ _ _ h => h) (yi_want rfl rfl (fr_at hF 2 rfl) (fun W hW => ex_move W rfl (fr_at hF 32 rfl))) hS rfl (by decide) (fun a32 hA32 hF' => ?_)
                                  replace hF := hF'; clear hF'
                                  refine tk (i := 32) (d := 215) (v := .pointer (some ⟨b, o + k1 * 4, none⟩)) hF rfl rfl (by kernel_rfl) (by kernel_rfl) (by kernel_rfl) (fun _ _ _ h => h) (yi_want rfl rfl (fr_at hF 3 rfl) (fun W hW => by have f213 := fr_at hF 1 rfl; have f214 := fr_at hF 0 rfl; go_simp)) hS rfl (by decide) (fun a33 hA33 hF' => ?_)
                                  replace hF := hF'; clear hF'
                                  refine tk (i := 33) (d := 216) (v := .pointer (some ⟨b, o + k1 * 4 + 2, none⟩)) hF rfl rfl (by kernel_rfl) (by kernel_rfl) (by kernel_rfl) (fun _ _ _ h => h) (yi_want rfl rfl (fr_at hF 4 rfl) (fun W hW => by have f215 := fr_at hF 0 rfl; go_simp)) hS rfl (by decide) (fun a34 hA34 hF' => ?_)
                                  replace hF := hF'; clear hF'
                                  refine tk (i := 34) (d := 217) (v := .pointer (some ⟨b, o + k1 * 4 + 2 + 1, none⟩)) hF rfl rfl (by kernel_rfl) (by kernel_rfl) (by kernel_rfl) (fun _ _ _ h => h) (yi_want rfl rfl (fr_at hF 5 rfl) (fun W hW => by have f216 := fr_at hF 0 rfl; go_simp)) hS rfl (by decide) (fun a35 hA35 hF' => ?_)
                                  replace hF := hF'; clear hF'
                                  refine tk (i := 35) (d := 218) (v := .int .u64 nb) hF rfl rfl (by kernel_rfl) (by kernel_rfl) (by kernel_rfl) (fun _ _ _ h => h) (yi_want rfl rfl (fr_at hF 6 rfl) (fun W hW => by replace c3 := (hW.cell (p := ⟨b, o + k1 * 4 + 2 + 1, none⟩) (World.block_lt_of_cell? _ _ c3)).trans c3; have f217 := fr_at hF 0 rfl; go_simp)) hS rfl (by decide) (fun a36 hA36 hF' => ?_)
                                  replace hF := hF'; clear hF'
                                  refine tk (i := 36) (d := 219) (v := .pointer (some ⟨O1, nb, none⟩)) hF rfl rfl (by kernel_rfl) (by kernel_rfl) (by kernel_rfl) (fun _ _ _ h => h) (yi_want rfl rfl (fr_at hF 7 rfl) (fun W hW => by have f212 := fr_at hF 6 rfl; have f218 := fr_at hF 0 rfl; go_simp)) hS rfl (by decide) (fun a37 hA37 hF' => ?_)
                                  replace hF := hF'; clear hF'
                                  refine tk (i := 37) (d := 220) (v := .slice (some ⟨g1, 0, none⟩) n n) hF rfl rfl (by kernel_rfl) (by kernel_rfl) (by kernel_rfl) (fun _ _ _ h => h) (yi_want rfl rfl (fr_at hF 8 rfl) (fun W hW => by replace z1 := (hW.cell (p := ⟨O1, nb, none⟩) (World.block_lt_of_cell? _ _ z1)).trans z1; have f219 := fr_at hF 0 rfl; go_simp)) hS rfl (by decide) (fun a38 hA38 hF' => ?_)
                                  replace hF := hF'; clear hF'
                                  refine tk (i := 38) (d := 221) (v := .int .i64 j0) hF rfl rfl (by kernel_rfl) (by kernel_rfl) (by kernel_rfl) (fun _ _ _ h => h) (yi_want rfl rfl (fr_at hF 9 rfl) (fun W hW => ex_move W rfl (fr_at hF 43 rfl))) hS rfl (by decide) (fun a39 hA39 hF' => ?_)
                                  replace hF := hF'; clear hF'
                                  refine tk (i := 39) (d := 222) (v := .pointer (some ⟨g1, j0, none⟩)) hF rfl rfl (by kernel_rfl) (by kernel_rfl) (by kernel_rfl) (fun _ _ _ h => h) (yi_want rfl rfl (fr_at hF 10 rfl) (fun W hW => by have f220 := fr_at hF 1 rfl; have f221 := fr_at hF 0 rfl; go_simp)) hS rfl (by decide) (fun a40 hA40 hF' => ?_)
                                  replace hF := hF'; clear hF'
                                  refine tk (i := 40) (d := 223) (v := .bool rb) hF rfl rfl (by kernel_rfl) (by kernel_rfl) (by kernel_rfl) (fun _ _ _ h => h) (yi_want rfl rfl (fr_at hF 11 rfl) (fun W hW => by replace z2 := (hW.cell (p := ⟨g1, j0, none⟩) (World.block_lt_of_cell? _ _ z2)).trans z2; have f222 := fr_at hF 0 rfl; go_simp)) hS rfl (by decide) (fun a41 hA41 hF' => ?_)
                                  replace hF := hF'; clear hF'
                                  refine tk (i := 41) (d := 224) (v := .bool rb) hF rfl rfl (by kernel_rfl) (by kernel_rfl) (by kernel_rfl) (fun _ _ _ h => h) (yi_go rfl (fun W hW => by have f211 := fr_at hF 12 rfl; have f223 := fr_at hF 0 rfl; go_simp)) hS rfl (by decide) (fun a42 hA42 hF' => ?_)
                                  replace hF := hF'; clear hF'
                                  refine tk (i := 42) (d := 11) (v := .bool rb) hF rfl rfl (by kernel_rfl) (by kernel_rfl) (by kernel_rfl) (fun _ _ _ h => h) (yi_go rfl (fun W hW => ex_assign W rfl (fr_at hF 0 rfl))) hS rfl (by decide) (fun a43 hA43 hF' => ?_)
                                  replace hF := hF'; clear hF'
                                  refine wpAnyH_done (by kernel_rfl) ?_ _
                                  rw [← hA43, ← hA42, ← hA41, ← hA40, ← hA39, ← hA38, ← hA37, ← hA36, ← hA35, ← hA34, ← hA33, ← hA32, ← hA31, ← hA30, ← hA29, ← hA28, ← hA27, ← hA26, ← hA25, ← hA24, ← hA23, ← hA22, ← hA21, ← hA20, ← hA19, ← hA18, ← hA17, ← hA16, ← hA15, ← hA14, ← hA13, ← hA12, ← hA11, ← hA10, ← hA9, ← hA8, ← hA7, ← hA6, ← hA5, ← hA4, ← hA3, ← hA2, ← hA1, ← hA0]
                                  simp only [Act.put, List.setIfInBounds_toArray, List.set_cons_zero, List.set_cons_succ]
                                  go_wp2
                                  go_roundw
                                  case rel => exact ⟨k1 + 1, rb, by omega, by go_num, rfl, Lib.hid (fun h b hb => by rw [HT1.out, List.mem_append] at hb; rcases hb with hb | hb; exact HF2.out b hb; rw [List.mem_singleton] at hb; rw [hb, HWT.out, ← HRB.out, h]; simp), Lib.hid (on HW.out hS)⟩
                                  case measure => simp [intOf]; omega
                              · have q5 : ((na : Int) == (i0 : Int)) = false := by rw [beq_eq_false_iff_ne]; omega
                                have q6 : (na == i0) = false := by simpa using Ne.symm hni
                                as_aux_lemma =>
                                clear hok c2 c3 l2
                                go_wp2
                                refine wp_region_held (S := fun W => Below wr.heap.size wr W) (by kernel_rfl) ?_
                                generalize hA0 : Act.mk _ _ = a0
                                have hF := Fr.nil (n := 228) (a := a0) (by rw [← hA0]; rfl)
                                replace hF := Fr.cons hF 9 (.int .i64 j0) (by rw [← hA0]; rfl)
                                replace hF := Fr.cons hF 5 (.slice (some ⟨O1, 0, none⟩) n n) (by rw [← hA0]; rfl)
                                replace hF := Fr.cons hF 0 (.int .i64 n) (by rw [← hA0]; rfl)
                                replace hF := Fr.cons hF 8 (.int .i64 i0) (by rw [← hA0]; rfl)
                                replace hF := Fr.cons hF 12 (.int .i64 k1) (by rw [← hA0]; rfl)
                                replace hF := Fr.cons hF 1 (.slice (some ⟨b, o, none⟩) k cap) (by rw [← hA0]; rfl)
                                have hS := Below.drew RF
                                change wpAnyH _ _ _ _ _ _ _ _ (World.drew _)
                                refine tk (i := 0) (d := 183) (v := .slice (some ⟨b, o, none⟩) k cap) hF rfl rfl (by kernel_rfl) (by kernel_rfl) (by kernel_rfl) (fun _ _ _ h => h) (yi_go rfl (fun W hW => ex_move W rfl (fr_at hF 0 rfl))) hS rfl (by decide) (fun a1 hA1 hF' => ?_)
                                replace hF := hF'; clear hF'
                                refine tk (i := 1) (d := 184) (v := .int .i64 k1) hF rfl rfl (by kernel_rfl) (by kernel_rfl) (by kernel_rfl) (fun _ _ _ h => h) (yi_go rfl (fun W hW => ex_move W rfl (fr_at hF 2 rfl))) hS rfl (by decide) (fun a2 hA2 hF' => ?_)
                                replace hF := hF'; clear hF'
                                refine tk (i := 2) (d := 185) (v := .pointer (some ⟨b, o + k1 * 4, none⟩)) hF rfl rfl (by kernel_rfl) (by kernel_rfl) (by kernel_rfl) (fun _ _ _ h => h) (yi_go rfl (fun W hW => by have f183 := fr_at hF 1 rfl; have f184 := fr_at hF 0 rfl; go_simp)) hS rfl (by decide) (fun a3 hA3 hF' => ?_)
                                replace hF := hF'; clear hF'
                                refine tk (i := 3) (d := 186) (v := .pointer (some ⟨b, o + k1 * 4, none⟩)) hF rfl rfl (by kernel_rfl) (by kernel_rfl) (by kernel_rfl) (fun _ _ _ h => h) (yi_go rfl (fun W hW => by have f185 := fr_at hF 0 rfl; go_simp)) hS rfl (by decide) (fun a4 hA4 hF' => ?_)
                                replace hF := hF'; clear hF'
                                refine tk (i := 4) (d := 187) (v := .agg #[.bool true, .int .u64 na]) hF rfl rfl (by kernel_rfl) (by kernel_rfl) (by kernel_rfl) (fun _ _ _ h => h) (yi_go rfl (fun W hW => by replace c0 := (hW.cell (p := ⟨b, o + k1 * 4, none⟩) (World.block_lt_of_cell? _ _ c0)).trans c0; replace c1 := (hW.cell (p := ⟨b, o + k1 * 4 + 1, none⟩) (World.block_lt_of_cell? _ _ c1)).trans c1; have f186 := fr_at hF 0 rfl; go_simp)) hS rfl (by decide) (fun a5 hA5 hF' => ?_)
                                replace hF := hF'; clear hF'
                                refine tk (i := 5) (d := 188) (v := .int .i64 i0) hF rfl rfl (by kernel_rfl) (by kernel_rfl) (by kernel_rfl) (fun _ _ _ h => h) (yi_go rfl (fun W hW => ex_move W rfl (fr_at hF 7 rfl))) hS rfl (by decide) (fun a6 hA6 hF' => ?_)
                                replace hF := hF'; clear hF'
                                refine tk (i := 6) (d := 189) (v := .int .u64 i0) hF rfl rfl (by kernel_rfl) (by kernel_rfl) (by kernel_rfl) (fun _ _ _ h => h) (yi_go rfl (fun W hW => by have f188 := fr_at hF 0 rfl; go_simp)) hS rfl (by decide) (fun a7 hA7 hF' => ?_)
                                replace hF := hF'; clear hF'
                                refine wpAnyH_ready (rs := [7]) (by kernel_rfl) (by simp) ?_
                                refine AllReadyH.cons rfl (fun K hK => ?_) AllReadyH.nil
                                have f189 := fr_at hF 0 rfl
                                go_simp
                                clear f189
                                go_at_call 9
                                refine (v_any i0 _).mono ?_
                                rintro e w' ⟨rfl, hb⟩
                                go_wp2_with fail
                                refine hK.out _ _ (on hS hb) (fun hHeld => ?_)
                                clear hK K hS hb
                                have hS := hHeld
                                clear hHeld
                                change wpAnyH _ _ _ _ _ _ _ (a7.put (some 190) (.agg #[.bool true, .int .u64 i0])) _
                                have hF' := fr_put hF 190 (.agg #[.bool true, .int .u64 i0]) rfl (by decide)
                                generalize hA8 : Act.put a7 (some 190) (.agg #[.bool true, .int .u64 i0]) = a8 at hF' ⊢
                                replace hF := hF'; clear hF'
                                refine tk (i := 8) (d := 191) (v := .bool false) hF rfl rfl (by kernel_rfl) (by kernel_rfl) (by kernel_rfl) (fun _ _ _ h => h) (yi_go rfl (fun W hW => by have f187 := fr_at hF 3 rfl; have f190 := fr_at hF 0 rfl; go_simp)) hS rfl (by decide) (fun a9 hA9 hF' => ?_)
                                replace hF := hF'; clear hF'
                                refine tk (i := 9) (d := 192) (v := .bool false) hF rfl rfl (by kernel_rfl) (by kernel_rfl) (by kernel_rfl) (fun _ _ _ h => h) (yi_go rfl (fun W hW => ex_move W rfl (fr_at hF 0 rfl))) hS rfl (by decide) (fun a10 hA10 hF' => ?_)
                                replace hF := hF'; clear hF'
                                refine tk (i := 10) (d := 193) (v := undef) hF rfl rfl (by kernel_rfl) (by kernel_rfl) (by kernel_rfl) (fun _ _ _ h => h) (yi_skip rfl rfl (fr_at hF 0 rfl)) hS rfl (by decide) (fun a11 hA11 hF' => ?_)
                                replace hF := hF'; clear hF'
                                refine tk (i := 11) (d := 194) (v := undef) hF rfl rfl (by kernel_rfl) (by kernel_rfl) (by kernel_rfl) (fun _ _ _ h => h) (yi_skip rfl rfl (fr_at hF 1 rfl)) hS rfl (by decide) (fun a12 hA12 hF' => ?_)
                                replace hF := hF'; clear hF'
                                refine tk (i := 12) (d := 195) (v := undef) hF rfl rfl (by kernel_rfl) (by kernel_rfl) (by kernel_rfl) (fun _ _ _ h => h) (yi_skip rfl rfl (fr_at hF 2 rfl)) hS rfl (by decide) (fun a13 hA13 hF' => ?_)
                                replace hF := hF'; clear hF'
                                refine tk (i := 13) (d := 196) (v := undef) hF rfl rfl (by kernel_rfl) (by kernel_rfl) (by kernel_rfl) (fun _ _ _ h => h) (yi_skip rfl rfl (fr_at hF 3 rfl)) hS rfl (by decide) (fun a14 hA14 hF' => ?_)
                                replace hF := hF'; clear hF'
                                refine tk (i := 14) (d := 197) (v := undef) hF rfl rfl (by kernel_rfl) (by kernel_rfl) (by kernel_rfl) (fun _ _ _ h => h) (yi_skip rfl rfl (fr_at hF 4 rfl)) hS rfl (by decide) (fun a15 hA15 hF' => ?_)
                                replace hF := hF'; clear hF'
                                refine tk (i := 15) (d := 198) (v := undef) hF rfl rfl (by kernel_rfl) (by kernel_rfl) (by kernel_rfl) (fun _ _ _ h => h) (yi_skip rfl rfl (fr_at hF 5 rfl)) hS rfl (by decide) (fun a16 hA16 hF' => ?_)
                                replace hF := hF'; clear hF'
                                refine tk (i := 16) (d := 199) (v := .bool false) hF rfl rfl (by kernel_rfl) (by kernel_rfl) (by kernel_rfl) (fun _ _ _ h => h) (yi_go rfl (fun W hW => by have f192 := fr_at hF 6 rfl; have f198 := fr_at hF 0 rfl; go_simp)) hS rfl (by decide) (fun a17 hA17 hF' => ?_)
                                replace hF := hF'; clear hF'
                                refine tk (i := 17) (d := 200) (v := .bool false) hF rfl rfl (by kernel_rfl) (by kernel_rfl) (by kernel_rfl) (fun _ _ _ h => h) (yi_go rfl (fun W hW => ex_move W rfl (fr_at hF 0 rfl))) hS rfl (by decide) (fun a18 hA18 hF' => ?_)
                                replace hF := hF'; clear hF'
                                refine tk (i := 18) (d := 201) (v := undef) hF rfl rfl (by kernel_rfl) (by kernel_rfl) (by kernel_rfl) (fun _ _ _ h => h) (yi_skip rfl rfl (fr_at hF 0 rfl)) hS rfl (by decide) (fun a19 hA19 hF' => ?_)
                                replace hF := hF'; clear hF'
                                refine tk (i := 19) (d := 202) (v := undef) hF rfl rfl (by kernel_rfl) (by kernel_rfl) (by kernel_rfl) (fun _ _ _ h => h) (yi_skip rfl rfl (fr_at hF 1 rfl)) hS rfl (by decide) (fun a20 hA20 hF' => ?_)
                                replace hF := hF'; clear hF'
                                refine tk (i := 20) (d := 203) (v := undef) hF rfl rfl (by kernel_rfl) (by kernel_rfl) (by kernel_rfl) (fun _ _ _ h => h) (yi_skip rfl rfl (fr_at hF 2 rfl)) hS rfl (by decide) (fun a21 hA21 hF' => ?_)
                                replace hF := hF'; clear hF'
                                refine tk (i := 21) (d := 204) (v := undef) hF rfl rfl (by kernel_rfl) (by kernel_rfl) (by kernel_rfl) (fun _ _ _ h => h) (yi_skip rfl rfl (fr_at hF 3 rfl)) hS rfl (by decide) (fun a22 hA22 hF' => ?_)
                                replace hF := hF'; clear hF'
                                refine tk (i := 22) (d := 205) (v := undef) hF rfl rfl (by kernel_rfl) (by kernel_rfl) (by kernel_rfl) (fun _ _ _ h => h) (yi_skip rfl rfl (fr_at hF 4 rfl)) hS rfl (by decide) (fun a23 hA23 hF' => ?_)
                                replace hF := hF'; clear hF'
                                refine tk (i := 23) (d := 206) (v := undef) hF rfl rfl (by kernel_rfl) (by kernel_rfl) (by kernel_rfl) (fun _ _ _ h => h) (yi_skip rfl rfl (fr_at hF 5 rfl)) hS rfl (by decide) (fun a24 hA24 hF' => ?_)
                                replace hF := hF'; clear hF'
                                refine tk (i := 24) (d := 207) (v := undef) hF rfl rfl (by kernel_rfl) (by kernel_rfl) (by kernel_rfl) (fun _ _ _ h => h) (yi_skip rfl rfl (fr_at hF 6 rfl)) hS rfl (by decide) (fun a25 hA25 hF' => ?_)
                                replace hF := hF'; clear hF'
                                refine tk (i := 25) (d := 208) (v := undef) hF rfl rfl (by kernel_rfl) (by kernel_rfl) (by kernel_rfl) (fun _ _ _ h => h) (yi_skip rfl rfl (fr_at hF 7 rfl)) hS rfl (by decide) (fun a26 hA26 hF' => ?_)
                                replace hF := hF'; clear hF'
                                refine tk (i := 26) (d := 209) (v := undef) hF rfl rfl (by kernel_rfl) (by kernel_rfl) (by kernel_rfl) (fun _ _ _ h => h) (yi_skip rfl rfl (fr_at hF 8 rfl)) hS rfl (by decide) (fun a27 hA27 hF' => ?_)
                                replace hF := hF'; clear hF'
                                refine tk (i := 27) (d := 210) (v := .bool false) hF rfl rfl (by kernel_rfl) (by kernel_rfl) (by kernel_rfl) (fun _ _ _ h => h) (yi_go rfl (fun W hW => by have f200 := fr_at hF 9 rfl; have f209 := fr_at hF 0 rfl; go_simp)) hS rfl (by decide) (fun a28 hA28 hF' => ?_)
                                replace hF := hF'; clear hF'
                                refine tk (i := 28) (d := 211) (v := .bool false) hF rfl rfl (by kernel_rfl) (by kernel_rfl) (by kernel_rfl) (fun _ _ _ h => h) (yi_go rfl (fun W hW => ex_move W rfl (fr_at hF 0 rfl))) hS rfl (by decide) (fun a29 hA29 hF' => ?_)
                                replace hF := hF'; clear hF'
                                refine tk (i := 29) (d := 212) (v := undef) hF rfl rfl (by kernel_rfl) (by kernel_rfl) (by kernel_rfl) (fun _ _ _ h => h) (yi_skip rfl rfl (fr_at hF 0 rfl)) hS rfl (by decide) (fun a30 hA30 hF' => ?_)
                                replace hF := hF'; clear hF'
                                refine tk (i := 30) (d := 213) (v := undef) hF rfl rfl (by kernel_rfl) (by kernel_rfl) (by kernel_rfl) (fun _ _ _ h => h) (yi_skip rfl rfl (fr_at hF 1 rfl)) hS rfl (by decide) (fun a31 hA31 hF' => ?_)
                                replace hF := hF'; clear hF'
                                refine tk (i := 31) (d := 214) (v := undef) hF rfl rfl (by kernel_rfl) (by kernel_rfl) (by kernel_rfl) (fun _ _ _ h => h) (yi_skip rfl rfl (fr_at hF 2 rfl)) hS rfl (by decide) (fun a32 hA32 hF' => ?_)
                                replace hF := hF'; clear hF'
                                refine tk (i := 32) (d := 215) (v := undef) hF rfl rfl (by kernel_rfl) (by kernel_rfl) (by kernel_rfl) (fun _ _ _ h => h) (yi_skip rfl rfl (fr_at hF 3 rfl)) hS rfl (by decide) (fun a33 hA33 hF' => ?_)
                                replace hF := hF'; clear hF'
                                refine tk (i := 33) (d := 216) (v := undef) hF rfl rfl (by kernel_rfl) (by kernel_rfl) (by kernel_rfl) (fun _ _ _ h => h) (yi_skip rfl rfl (fr_at hF 4 rfl)) hS rfl (by decide) (fun a34 hA34 hF' => ?_)
                                replace hF := hF'; clear hF'
                                refine tk (i := 34) (d := 217) (v := undef) hF rfl rfl (by kernel_rfl) (by kernel_rfl) (by kernel_rfl) (fun _ _ _ h => h) (yi_skip rfl rfl (fr_at hF 5 rfl)) hS rfl (by decide) (fun a35 hA35 hF' => ?_)
                                replace hF := hF'; clear hF'
                                refine tk (i := 35) (d := 218) (v := undef) hF rfl rfl (by kernel_rfl) (by kernel_rfl) (by kernel_rfl) (fun _ _ _ h => h) (yi_skip rfl rfl (fr_at hF 6 rfl)) hS rfl (by decide) (fun a36 hA36 hF' => ?_)
                                replace hF := hF'; clear hF'
                                refine tk (i := 36) (d := 219) (v := undef) hF rfl rfl (by kernel_rfl) (by kernel_rfl) (by kernel_rfl) (fun _ _ _ h => h) (yi_skip rfl rfl (fr_at hF 7 rfl)) hS rfl (by decide) (fun a37 hA37 hF' => ?_)
                                replace hF := hF'; clear hF'
                                refine tk (i := 37) (d := 220) (v := undef) hF rfl rfl (by kernel_rfl) (by kernel_rfl) (by kernel_rfl) (fun _ _ _ h => h) (yi_skip rfl rfl (fr_at hF 8 rfl)) hS rfl (by decide) (fun a38 hA38 hF' => ?_)
                                replace hF := hF'; clear hF'
                                refine tk (i := 38) (d := 221) (v := undef) hF rfl rfl (by kernel_rfl) (by kernel_rfl) (by kernel_rfl) (fun _ _ _ h => h) (yi_skip rfl rfl (fr_at hF 9 rfl)) hS rfl (by decide) (fun a39 hA39 hF' => ?_)
                                replace hF := hF'; clear hF'
                                refine tk (i := 39) (d := 222) (v := undef) hF rfl rfl (by kernel_rfl) (by kernel_rfl) (by kernel_rfl) (fun _ _ _ h => h) (yi_skip rfl rfl (fr_at hF 10 rfl)) hS rfl (by decide) (fun a40 hA40 hF' => ?_)
                                replace hF := hF'; clear hF'
                                refine tk (i := 40) (d := 223) (v := undef) hF rfl rfl (by kernel_rfl) (by kernel_rfl) (by kernel_rfl) (fun _ _ _ h => h) (yi_skip rfl rfl (fr_at hF 11 rfl)) hS rfl (by decide) (fun a41 hA41 hF' => ?_)
                                replace hF := hF'; clear hF'
                                refine tk (i := 41) (d := 224) (v := .bool false) hF rfl rfl (by kernel_rfl) (by kernel_rfl) (by kernel_rfl) (fun _ _ _ h => h) (yi_go rfl (fun W hW => by have f211 := fr_at hF 12 rfl; have f223 := fr_at hF 0 rfl; go_simp)) hS rfl (by decide) (fun a42 hA42 hF' => ?_)
                                replace hF := hF'; clear hF'
                                refine tk (i := 42) (d := 11) (v := .bool false) hF rfl rfl (by kernel_rfl) (by kernel_rfl) (by kernel_rfl) (fun _ _ _ h => h) (yi_go rfl (fun W hW => ex_assign W rfl (fr_at hF 0 rfl))) hS rfl (by decide) (fun a43 hA43 hF' => ?_)
                                replace hF := hF'; clear hF'
                                refine wpAnyH_done (by kernel_rfl) ?_ _
                                rw [← hA43, ← hA42, ← hA41, ← hA40, ← hA39, ← hA38, ← hA37, ← hA36, ← hA35, ← hA34, ← hA33, ← hA32, ← hA31, ← hA30, ← hA29, ← hA28, ← hA27, ← hA26, ← hA25, ← hA24, ← hA23, ← hA22, ← hA21, ← hA20, ← hA19, ← hA18, ← hA17, ← hA16, ← hA15, ← hA14, ← hA13, ← hA12, ← hA11, ← hA10, ← hA9, ← hA8, ← hA7, ← hA6, ← hA5, ← hA4, ← hA3, ← hA2, ← hA1, ← hA0]
                                simp only [Act.put, List.setIfInBounds_toArray, List.set_cons_zero, List.set_cons_succ]
                                go_wp2
                                go_roundw
                                case rel => exact ⟨k1 + 1, false, by omega, by go_num, rfl, Lib.hid (fun _ b hb => by rw [HT1.out, List.mem_append] at hb; rcases hb with hb | hb; exact HF2.out b hb; rw [List.mem_singleton] at hb; rw [hb, HWT.out]; simp [q6]), Lib.hid (on HW.out hS)⟩
                                case measure => simp [intOf]; omega
                          · exfalso
                            have hw := HF1.out rfl
                            rw [List.take_of_length_le (by omega)] at hw
                            rcases reach_first n L HO.out i0 j0 HTT.out.symm with h | ⟨b, hb, h1, h2, h3, h4, h5⟩
                            · exact q3 h
                            · have := hw b hb
                              simp [wit, h1, h2, h3, h4, h5] at this
            · obtain rfl : n = j0 := by omega
              go_wp2
              go_roundw
              case rel => exact ⟨i0 + 1, by omega, by go_num, HW.out⟩
              case measure => simp [intOf]; omega
        · obtain rfl : n = i0 := by omega
          go_wp2_with fail
          refine (alive_any _).mono ?_
          rintro e w3 ⟨rfl, hb3⟩
          have HB3 := Lib.hid (on (on HB.out HW.out) hb3)
          clear hb3
          go_wp2
          go_ret
          exact ⟨rfl, HB3.out⟩
end Go.Proofs.Ytjkfmgjebemphaa
