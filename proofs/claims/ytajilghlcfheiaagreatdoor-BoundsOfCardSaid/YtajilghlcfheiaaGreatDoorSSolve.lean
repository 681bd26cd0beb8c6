/- The document's Solve: its walk. -/
import Derived.Test.YtajilghlcfheiaaGreatDoorSMem
import Derived.Test.YtajilghlcfheiaaGreatDoorSSort
namespace Go.Proofs.YtajilghlcfheiaaGreatDoor.Trm
open Go.RowKit Go.Proofs.YtajilghlcfheiaaGreatDoorW.PrintWords
open Rea (Bd Bds on)
open Bnd (SI Full Sol Low High tv okT okB chkF updF lst Nums RS)
set_option maxRecDepth 100000
/-- what the document's Solve tells. -/
def RSays (S : SI) (vars : Int) (L : List Bd) (w : World) (e : Ending) (w' : World) : Prop :=
  Below w.heap.size w w' ∧ ∃ A B ca cb xs ys e', e = .returned (.tuple #[.slice A xs.length ca, .slice B ys.length cb, .int .i64 ((e' : Nat) : Int)]) ∧ Bnd.Ans2 S vars L xs ys e' ∧ Nums w' A xs ∧ Nums w' B ys
theorem z_on {w w' : World} {B : Nat} {a b c : Value} (h : w.cell? ⟨B, 0, none⟩ = some a ∧ w.cell? ⟨B, 1, none⟩ = some b ∧ w.cell? ⟨B, 2, none⟩ = some c) (hb : Below w.heap.size w w') : w'.cell? ⟨B, 0, none⟩ = some a ∧ w'.cell? ⟨B, 1, none⟩ = some b ∧ w'.cell? ⟨B, 2, none⟩ = some c := ⟨cell_on h.1 hb, cell_on h.2.1 hb, cell_on h.2.2 hb⟩
theorem under22 : Tryz.prog.underlying 22 = some (.slice 66) := by kernel_rfl
theorem info66 : (Tryz.prog.info? 66).map (fun i => (i.zero, i.size, i.bytes)) = some (some (.int .u64 0), 1, 8) := by kernel_rfl
theorem full_of {S : SI} (hFN : Full S ∨ Bnd.None S) {N : Nat} {L : List Bd} (hok : ∀ b ∈ L, okB S N b = true) (hr : (decide (0 < N) && !S.has S.bot) = false) (h : L ≠ [] ∨ 0 < N) : Full S := by
  rcases hFN with hF | hF
  · exact hF
  · rw [hF.has] at hr
    have hN : N = 0 := by
      cases N with
      | zero => rfl
      | succ n => simp at hr
    subst hN
    rcases h with h | h
    · exact absurd (no_bounds hF hok) h
    · omega
theorem none_of {S : SI} (hFN : Full S ∨ Bnd.None S) {N : Nat} {L : List Bd} (hr : (decide (0 < N) && !S.has S.bot) = true) : ¬ ∃ f, Sol S N L f := by
  rintro ⟨f, hf⟩
  rcases hFN with hF | hF
  · rw [hF.bot.1] at hr
    simp at hr
  · have hN : 0 < N := by
      cases N with
      | zero => simp at hr
      | succ n => omega
    have := hf.1 0 hN
    rw [hF.has] at this
    cases this
theorem both_vals {S : SI} {N : Nat} {L : List Bd} {f h : Nat → Nat} (hF : L ≠ [] ∨ 0 < N → Full S) (h1 : L ≠ [] ∨ 0 < N → Low S N L f) (h2 : L ≠ [] ∨ 0 < N → High S N L h) : Low S N L f ∧ High S N L h ∧ (∀ i, i < N → f i < 18446744073709551616) ∧ ∀ i, i < N → h i < 18446744073709551616 := by
  by_cases hx : L ≠ [] ∨ 0 < N
  · exact ⟨h1 hx, h2 hx, fun i hi => (hF hx).lt _ ((h1 hx).1.1 i hi), fun i hi => (hF hx).lt _ ((h2 hx).1.1 i hi)⟩
  · have hN : N = 0 := by omega
    have hL : L = [] := Classical.byContradiction fun h => hx (.inl h)
    subst hN
    subst hL
    have sl : ∀ k, Sol S 0 [] k := fun k => ⟨fun i hi => absurd hi (by omega), fun b hb => by cases hb⟩
    exact ⟨⟨sl _, fun _ _ i hi => by omega⟩, ⟨sl _, fun _ _ i hi => by omega⟩, fun i hi => by omega, fun i hi => by omega⟩
set_option maxHeartbeats 2000000 in
theorem rsolve_any (v : Value) (S : SI) (hFN : Full S ∨ Bnd.None S) (vars : Int) (A2 : Option Addr) (m c2 : Nat) (L : List Bd) (hm : m = L.length) (hmax : m ≤ 1000) (w : World) (hS : RS w v S) (hL : Bds w A2 L) :
    Calls Tryz.prog 13 #[v, .int .i64 vars, .slice A2 m c2] w (RSays S vars L w) := by
  obtain ⟨so, sA, sn, sc, sy, rfl⟩ := hS.shape
  have HB0 := Lib.hid (lit_below w (.cells #[.int .i64 so, .slice sA sn sc, .int .i64 sy] 31))
  have HZ := Lib.hid (Bnd.three_cells w (.int .i64 so) (.slice sA sn sc) (.int .i64 sy) 31)
  have HM := Lib.hid hm
  have HFN := Lib.hid hFN
  clear hm hFN
  go_enter Tryz.func13, Tryz.ntmps13
  go_wp2_with fail
  generalize w.alloc _ = wa at *
  have HL := Lib.hid (hL.below HB0.out)
  have HRS := Lib.hid (hS.below HB0.out)
  obtain ⟨TB, hTB⟩ : ∃ B, B = w.heap.size := ⟨_, rfl⟩
  rw [← hTB] at HZ ⊢
  have HTB := Lib.hid (show TB < wa.heap.size from by have h := HZ.out.1; exact World.block_lt_of_cell? wa _ h)
  clear hTB hL hS
  refine (Bnd.rs_check _ S vars A2 m c2 L HM.out (by omega) wa HRS.out HL.out).mono ?_
  rintro e w1 ⟨rfl, hb⟩
  have HB1 := Lib.hid hb
  clear hb
  obtain ⟨ck, hck⟩ : ∃ ck, ck = chkF S vars L := ⟨_, rfl⟩
  rw [← hck]
  have HCK := Lib.hid hck
  clear hck
  by_cases hc : ck = 0
  · subst hc
    obtain ⟨h0, h64, _, hok⟩ := Bnd.chk_vars HCK.out.symm
    obtain ⟨N, rfl⟩ := Int.eq_ofNat_of_zero_le h0
    have hN64 : N ≤ 64 := by omega
    have HOK := Lib.hid (show ∀ b ∈ L, okB S N b = true from hok)
    have HZ1 := Lib.hid (z_on HZ.out HB1.out)
    clear h0 h64 hok
    obtain ⟨r, hr⟩ : ∃ r, r = (decide (0 < N) && !S.has S.bot) := ⟨_, rfl⟩
    have HR := Lib.hid hr
    clear hr
    go_upto_region 4 with fail
    go_cut [32] from 24 to 32 (fun u wx => u = .bool r ∧ Hid (Below wa.heap.size wa wx))
    case first =>
      obtain ⟨z0, z1, z2⟩ := HZ1.out
      by_cases hN : 0 < N
      · have d1 : decide ((N : Int) > 0) = true := by simp; omega
        have d2 : decide (0 < N) = true := by simp; omega
        have hbl : S.bot < 18446744073709551616 := by
          rcases HFN.out with hF | hF
          · exact hF.lt _ hF.bot.1
          · rw [hF.bot]; decide
        obtain ⟨q, hq⟩ : ∃ q, q = S.has S.bot := ⟨_, rfl⟩
        have KB := Lib.hid (fun W (h : Below wa.heap.size wa W) => (show Calls Tryz.prog 53 #[.agg #[.int .i64 so, .slice sA sn sc, .int .i64 sy]] W fun e W' => e = .returned (.int .u64 ((S.bot : Nat) : Int)) ∧ W'.cell? ⟨TB, 0, none⟩ = some (.int .i64 so) ∧ W'.cell? ⟨TB, 1, none⟩ = some (.slice sA sn sc) ∧ W'.cell? ⟨TB, 2, none⟩ = some (.int .i64 sy) ∧ Below wa.heap.size wa W' from (Bnd.rs_bot _ S W (HRS.out.below h)).mono (by
          rintro e W' ⟨rfl, hb⟩
          obtain ⟨y0, y1, y2⟩ := z_on HZ.out (on h hb)
          exact ⟨rfl, y0, y1, y2, on h hb⟩)))
        have KH := Lib.hid (fun W (h : Below wa.heap.size wa W) => (show Calls Tryz.prog 52 #[.agg #[.int .i64 so, .slice sA sn sc, .int .i64 sy], .int .u64 ((S.bot : Nat) : Int)] W fun e W' => e = .returned (.bool q) ∧ W'.cell? ⟨TB, 0, none⟩ = some (.int .i64 so) ∧ W'.cell? ⟨TB, 1, none⟩ = some (.slice sA sn sc) ∧ W'.cell? ⟨TB, 2, none⟩ = some (.int .i64 sy) ∧ Below wa.heap.size wa W' from by
          rw [hq]
          exact (Bnd.rs_has _ S S.bot hbl W (HRS.out.below h)).mono (by
            rintro e W' ⟨rfl, hb⟩
            obtain ⟨y0, y1, y2⟩ := z_on HZ.out (on h hb)
            exact ⟨rfl, y0, y1, y2, on h hb⟩)))
        have hb1 := HB1.out
        have HQ := Lib.hid (show r = !q by rw [HR.out, d2, hq]; rfl)
        generalize S.bot = bt at KB KH
        clear hbl hq HR
        go_wp2_with fail
        go_region_held3 (fun W => W.cell? ⟨TB, 0, none⟩ = some (.int .i64 so) ∧ W.cell? ⟨TB, 1, none⟩ = some (.slice sA sn sc) ∧ W.cell? ⟨TB, 2, none⟩ = some (.int .i64 sy) ∧ Below wa.heap.size wa W) (first | exact ⟨by assumption, by assumption, by assumption, by first | assumption | exact Below.drew (by assumption)⟩)
          (first | (go_at_call 53; refine (KB.out _ (by first | assumption | exact Below.drew (by assumption))).mono ?_; rintro e w' ⟨rfl, h1, h2, h3, h4⟩) | (go_at_call 52; refine (KH.out _ (by first | assumption | exact Below.drew (by assumption))).mono ?_; rintro e w' ⟨rfl, h1, h2, h3, h4⟩))
        clear hb1
        go_wp2_with fail
        go_meet
        exact ⟨by rw [HQ.out], by assumption⟩
      · have d1 : decide ((N : Int) > 0) = false := by simp; omega
        have d2 : decide (0 < N) = false := by simp; omega
        go_wp2_with fail
        go_quiet (fail)
        go_wp2_with fail
        go_meet
        exact ⟨by rw [HR.out, d2]; rfl, pw_below_drewN HB1.out _⟩
    case rest =>
      obtain ⟨rfl, HB2⟩ := hcut
      clear HB1 HZ1
      cases r with
      | true =>
        go_wp2_with fail
        go_ret3
        exact ⟨on HB0.out HB2.out, none, none, 0, 0, [], [], 10, rfl, .inl ⟨by decide, rfl, rfl, (if_pos HCK.out.symm).symm, fun _ => none_of HFN.out HR.out.symm⟩, Bnd.nums_none _, Bnd.nums_none _⟩
      | false =>
        have HF := Lib.hid (fun h => full_of HFN.out HOK.out HR.out.symm h)
        clear HR HFN
        obtain ⟨bt, hbt⟩ : ∃ b, b = S.bot := ⟨_, rfl⟩
        obtain ⟨tp, htp⟩ : ∃ b, b = S.top := ⟨_, rfl⟩
        have HBOT := Lib.hid (fun W (h : Below wa.heap.size wa W) => Bnd.rs_bot _ S W (HRS.out.below h))
        have HTOP := Lib.hid (fun W (h : Below wa.heap.size wa W) => Bnd.rs_top _ S W (HRS.out.below h))
        rw [← hbt] at HBOT
        rw [← htp] at HTOP
        have HBT := Lib.hid (And.intro hbt htp)
        clear hbt htp
        go_wp2_with fail
        go_loopw [6, 7, 9] (fun x y i wr => ∃ k : Nat, k ≤ N ∧ i = .int .i64 k ∧ Hid (Two wa.heap.size wr x y k k bt tp) ∧ Hid (Below wa.heap.size wa wr)) (fun _ _ i _ => N - (intOf i).toNat)
        case atStart => exact ⟨0, by omega, rfl, Two.nil _ _ _ _, HB2.out⟩
        case round =>
          clear HB2
          obtain ⟨k, hk, rfl, HT, HB⟩ := hrel
          by_cases hkN : k < N
          · obtain ⟨z0, z1, z2⟩ := z_on HZ.out HB.out
            have i1 : (0 : Int) ≤ (k : Int) := by omega
            have i2 : (k : Int) < (N : Int) := by omega
            go_wp2_with fail
            refine (HBOT.out _ HB.out).mono ?_
            rintro e w3 ⟨rfl, hb3⟩
            have HB3 := Lib.hid (on HB.out hb3)
            have HT3 := Lib.hid (HT.out.below hb3)
            clear hb3 HB HT z0 z1 z2
            go_wp2_with (first
              | (at_builtin; refine print_append_num (w0 := wa) wa.heap.size rfl (.tmp 38) (.tmp 41) 22 66 .u64 8 rfl under22 info66 (by decide) _ (List.replicate k (bt : Int)) (bt : Int) rfl rfl HT3.out.fst HB3.out HB3.out.size (by rw [List.length_replicate]; omega) ?_; intro v7 w7 ho7 hb7 hg7 hat7; have HT7 := Lib.hid (HT3.out.one ho7 hg7 hat7); have HB7 := Lib.hid hb7; obtain ⟨y0, y1, y2⟩ := z_on HZ.out hb7; clear ho7 hb7 hg7 hat7)
              | fail)
            refine (HTOP.out _ HB7.out).mono ?_
            rintro e w8 ⟨rfl, hb8⟩
            have HB8 := Lib.hid (on HB7.out hb8)
            have HT8 := Lib.hid (HT7.out.below hb8)
            clear hb8 HB7 HT7 y0 y1 y2 HT3 HB3
            go_wp2_with (first
              | (at_builtin; refine print_append_num (w0 := wa) wa.heap.size rfl (.tmp 43) (.tmp 46) 22 66 .u64 8 rfl under22 info66 (by decide) _ (List.replicate k (tp : Int)) (tp : Int) rfl rfl HT8.out.snd HB8.out HB8.out.size (by rw [List.length_replicate]; omega) ?_; intro v9 w9 ho9 hb9 hg9 hat9; have HT9 := Lib.hid (HT8.out.other ho9 hg9 hat9); have HB9 := Lib.hid hb9; clear ho9 hb9 hg9 hat9)
              | fail)
            go_roundw
            case rel => exact ⟨k + 1, by omega, by go_num, HT9.out, HB9.out⟩
            case measure => simp [intOf]; omega
          · obtain rfl : N = k := by omega
            obtain ⟨A6, c6, B6, rfl, r6, o6, q6⟩ := rc_of HT.out.fst
            obtain ⟨A7, c7, B7, rfl, r7, o7, q7⟩ := rc_of HT.out.snd
            have HNE := Lib.hid (show 0 < N → B6 ≠ B7 from fun h e => HT.out.ne B6 (o6 h) (by rw [e]; exact o7 h))
            have hsz : B6 < wr.heap.size ∧ B7 < wr.heap.size := by
              have h1 := HTB.out
              have h2 := HB.out.size
              by_cases h0 : N = 0
              · rw [q6 h0, q7 h0]
                omega
              · exact ⟨(r6 (by omega)).2.2.1, (r7 (by omega)).2.2.1⟩
            have HST0 := Lib.hid (show St wa A6 N c6 B6 A7 c7 B7 none [] wr (fun _ => bt) (fun _ => tp) from ⟨r6, r7, fun k hk => by simp at hk, hsz, HB.out⟩)
            clear r6 r7 o6 o7 q6 q7 hsz HT HB HBOT HTOP
            go_wp2_with fail
            refine (consts_any A2 m c2 L HM.out hmax _ (HL.out.below HST0.out.bl)).mono ?_
            rintro e w3 ⟨hb3, aT, capT, T, rfl, hts, hcs, hgT⟩
            have HTG := Lib.hid (show ∀ g o, aT = some ⟨g, o, none⟩ → g ≠ B6 ∧ g ≠ B7 from fun g o e => by
              have h1 := hgT g o e
              have h2 := HST0.out.sz
              omega)
            have hST0 := HST0.out.below hb3
            have HST := Lib.hid (show St wa A6 N c6 B6 A7 c7 B7 aT T w3 (fun _ => bt) (fun _ => tp) from ⟨hST0.r6, hST0.r7, hts, hST0.sz, hST0.bl⟩)
            have hTl : T.length ≤ 2000 := by have h1 := hcs.2; rw [ends_length] at h1; have h2 := HM.out; omega
            have HCS := Lib.hid hcs
            have HLI := Lib.hid (show LI S N L T 0 (fun _ => bt) by rw [HBT.out.1]; exact LI.start (fun h => HF.out (.inr h)))
            clear hb3 hts hcs hgT hST0 HST0
            go_wp2_with fail
            go_loopw [6, 7, 11] (fun x y i wr => ∃ (q : Nat) (f : Nat → Nat), q ≤ T.length ∧ x = .slice A6 N c6 ∧ y = .slice A7 N c7 ∧ i = .int .i64 q ∧ Hid (St wa A6 N c6 B6 A7 c7 B7 aT T wr f (fun _ => tp)) ∧ Hid (LI S N L T q f)) (fun _ _ i _ => T.length - (intOf i).toNat)
            case atStart => exact ⟨0, _, by omega, rfl, rfl, rfl, HST.out, HLI.out⟩
            case round =>
              clear HST HLI
              obtain ⟨q, f, hq, rfl, rfl, rfl, HST, HLI⟩ := hrel
              by_cases hqT : q < T.length
              · obtain ⟨gT, oT, rfl, d0, d1, ltc⟩ := HST.out.ts q hqT
                have HTM := Lib.hid ((HCS.out.1 T[q]).1 (List.getElem_mem hqT))
                have HTQ := Lib.hid (List.getElem?_eq_getElem hqT)
                obtain ⟨⟨cv, cc⟩, hx⟩ : ∃ y, y = T[q] := ⟨_, rfl⟩
                rw [← hx] at d0 d1 ltc HTM HTQ
                clear hx
                dsimp only at d0 d1 ltc
                obtain rfl : cv = false := HTM.out.1
                have HCE := Lib.hid HTM.out.2
                have HCH := Lib.hid (con_has HOK.out HCE.out)
                have HFU := Lib.hid (HF.out (.inl (fun e => by have h := HCE.out; rw [e] at h; simp [ends] at h)))
                have HGT := Lib.hid (HTG.out gT oT rfl)
                have HLC := Lib.hid ltc
                have i1 : (0 : Int) ≤ (q : Int) := by omega
                have i2 : (q : Int) < (T.length : Int) := by omega
                clear HTM ltc
                go_wp2_with fail
                refine (from_any A2 m c2 L HM.out hmax false cc HLC.out _ (HL.out.below HST.out.bl)).mono ?_
                rintro e w4 ⟨hb4, aU, capU, U, rfl, hus, hfu, hgU⟩
                have HUG := Lib.hid (show ∀ g o, aU = some ⟨g, o, none⟩ → g ≠ B6 ∧ g ≠ B7 from fun g o e => by
                  have h1 := hgU g o e
                  have h2 := HST.out.sz
                  omega)
                have HST4 := Lib.hid (HST.out.below hb4)
                have hUl : U.length ≤ 2000 := by have h1 := hfu.2; have h2 := HM.out; omega
                have HFU2 := Lib.hid hfu
                have HUS := Lib.hid hus
                have HLJ := Lib.hid (LJ.start (c := cc) (U := U) HLI.out)
                clear hb4 hus hfu hgU HST HLI d0 d1
                go_wp2_with fail
                go_loopw [6, 7, 13] (fun x y i wr => ∃ (k : Nat) (f : Nat → Nat), k ≤ U.length ∧ x = .slice A6 N c6 ∧ y = .slice A7 N c7 ∧ i = .int .i64 k ∧ Hid (St wa A6 N c6 B6 A7 c7 B7 (some ⟨gT, oT, none⟩) T wr f (fun _ => tp)) ∧ Hid (Tms wr aU U) ∧ Hid (LJ S N L T q cc U k f)) (fun _ _ i _ => U.length - (intOf i).toNat)
                case atStart => exact ⟨0, f, by omega, rfl, rfl, rfl, HST4.out, HUS.out, HLJ.out⟩
                case round =>
                  clear HST4 HUS HLJ
                  obtain ⟨k, f, hk, rfl, rfl, rfl, HST, HUS, HLJ⟩ := hrel
                  by_cases hkU : k < U.length
                  · obtain ⟨gU, oU, rfl, e0, e1, ltu⟩ := HUS.out k hkU
                    have HUR := Lib.hid ((HFU2.out.1 U[k]).1 (List.getElem_mem hkU))
                    have HUQ := Lib.hid (List.getElem?_eq_getElem hkU)
                    obtain ⟨⟨uv, ux⟩, hx⟩ : ∃ y, y = U[k] := ⟨_, rfl⟩
                    rw [← hx] at e0 e1 ltu HUR HUQ
                    clear hx
                    dsimp only at e0 e1 ltu
                    obtain ⟨z0, z1, z2⟩ := z_on HZ.out HST.out.bl
                    obtain ⟨gT', oT', hgT', d0, d1, _⟩ := HST.out.ts q hqT
                    cases hgT'
                    rw [show T[q] = (false, cc) from Option.some.inj ((List.getElem?_eq_getElem hqT).symm.trans HTQ.out)] at d0 d1
                    dsimp only at d0 d1
                    have j1 : (0 : Int) ≤ (k : Int) := by omega
                    have j2 : (k : Int) < (U.length : Int) := by omega
                    have hba := HST.out.bl
                    cases uv with
                    | true =>
                      have hux : ux < N := Bnd.ok_var (ends_ok HOK.out (ends_dst HUR.out (by simp))) rfl
                      obtain ⟨rfl, hB6, cl, fl, hNc⟩ := HST.out.r6.cell hux
                      have n1 : B6 ≠ gU := fun e => (HUG.out gU oU rfl).1 e.symm
                      have n2 : B6 ≠ gT := fun e => HGT.out.1 e.symm
                      have n3 : B6 ≠ TB := by have := HTB.out; omega
                      have hfl : f ux < 18446744073709551616 := HFU.out.lt _ (HLJ.out.1.lst.1 ux hux)
                      have hfh : S.has (f ux) = true := HLJ.out.1.lst.1 ux hux
                      have HJN := Lib.hid (HLJ.out.var HFU.out HUQ.out hux HCH.out HUR.out)
                      obtain ⟨jn, hjn⟩ : ∃ y, y = S.join (f ux) cc := ⟨_, rfl⟩
                      have KC := Lib.hid (fun W (h : Below wa.heap.size wa W) (h2 : Below wr.heap.size wr W) (e1 : W.cell? ⟨gU, oU + k * 2 + 1, none⟩ = some (.int .u64 (ux : Int))) (d1 : W.cell? ⟨gT, oT + q * 2 + 1, none⟩ = some (.int .u64 (cc : Int))) => (show Calls Tryz.prog 57 #[.agg #[.int .i64 so, .slice sA sn sc, .int .i64 sy], .int .u64 ((f ux : Nat) : Int), .int .u64 ((cc : Nat) : Int)] W fun e W' => e = .returned (.int .u64 ((jn : Nat) : Int)) ∧ W'.cell? ⟨gU, oU + k * 2 + 1, none⟩ = some (.int .u64 (ux : Int)) ∧ W'.cell? ⟨gT, oT + q * 2 + 1, none⟩ = some (.int .u64 (cc : Int)) ∧ W'.cell? ⟨TB, 0, none⟩ = some (.int .i64 so) ∧ W'.cell? ⟨TB, 1, none⟩ = some (.slice sA sn sc) ∧ W'.cell? ⟨TB, 2, none⟩ = some (.int .i64 sy) ∧ Below wa.heap.size wa W' ∧ Below wr.heap.size wr W' ∧ W'.frozen? ⟨B6, ux, none⟩ = false ∧ W'.cell? ⟨B6, ux, none⟩ = some (.int .u64 ((f ux : Nat) : Int)) from by
                        rw [hjn]
                        exact (Bnd.rs_join _ S (f ux) cc hfl HLC.out hfh HCH.out W (HRS.out.below h)).mono (by
                          rintro e W' ⟨rfl, hb⟩
                          obtain ⟨y0, y1, y2⟩ := z_on HZ.out (on h hb)
                          exact ⟨rfl, cell_on e1 hb, cell_on d1 hb, y0, y1, y2, on h hb, on h2 hb, ((HST.out.r6.below (on h2 hb)).cell hux).2.2.2.1, ((HST.out.r6.below (on h2 hb)).cell hux).2.2.1⟩)))
                      rw [← hjn] at HJN
                      have hbr := Below.refl wr.heap.size wr
                      have k1 : (0 : Int) ≤ (ux : Int) := by omega
                      have k2 : (ux : Int) < (N : Int) := by omega
                      have HCL := Lib.hid HLJ.out.1.lst.1
                      obtain ⟨fx, hfx⟩ : ∃ y, y = f ux := ⟨_, rfl⟩
                      rw [← hfx] at cl KC
                      clear hfl hfh hjn HLJ hfx fl HUR
                      go_wp2_with fail
                      refine wp_region_held (S := fun W => W.cell? ⟨gU, oU + k * 2 + 1, none⟩ = some (.int .u64 (ux : Int)) ∧ W.cell? ⟨gT, oT + q * 2 + 1, none⟩ = some (.int .u64 (cc : Int)) ∧ W.cell? ⟨TB, 0, none⟩ = some (.int .i64 so) ∧ W.cell? ⟨TB, 1, none⟩ = some (.slice sA sn sc) ∧ W.cell? ⟨TB, 2, none⟩ = some (.int .i64 sy)) (by kernel_rfl) ?_
                      generalize hA0 : Act.mk _ _ = a0
                      have hF := Bnd.Fr.nil (n := 146) (a := a0) (by rw [← hA0]; rfl)
                      replace hF := Bnd.Fr.cons hF 3 (.pointer (some ⟨TB, 0, none⟩)) (by rw [← hA0]; rfl)
                      replace hF := Bnd.Fr.cons hF 6 (.slice (some ⟨B6, 0, none⟩) N c6) (by rw [← hA0]; rfl)
                      replace hF := Bnd.Fr.cons hF 10 (.slice (some ⟨gT, oT, none⟩) T.length capT) (by rw [← hA0]; rfl)
                      replace hF := Bnd.Fr.cons hF 11 (.int .i64 (q : Int)) (by rw [← hA0]; rfl)
                      replace hF := Bnd.Fr.cons hF 12 (.slice (some ⟨gU, oU, none⟩) U.length capU) (by rw [← hA0]; rfl)
                      replace hF := Bnd.Fr.cons hF 13 (.int .i64 (k : Int)) (by rw [← hA0]; rfl)
                      have hS : (World.drew wr).cell? ⟨gU, oU + k * 2 + 1, none⟩ = some (.int .u64 (ux : Int)) ∧ (World.drew wr).cell? ⟨gT, oT + q * 2 + 1, none⟩ = some (.int .u64 (cc : Int)) ∧ (World.drew wr).cell? ⟨TB, 0, none⟩ = some (.int .i64 so) ∧ (World.drew wr).cell? ⟨TB, 1, none⟩ = some (.slice sA sn sc) ∧ (World.drew wr).cell? ⟨TB, 2, none⟩ = some (.int .i64 sy) := ⟨e1, d1, z0, z1, z2⟩
                      change wpAnyH _ _ _ _ _ _ _ _ (World.drew _)
                      refine Bnd.tk (i := 0) (d := 73) (v := .slice (some ⟨B6, 0, none⟩) N c6) hF rfl rfl (by kernel_rfl) (by kernel_rfl) (by kernel_rfl) (fun _ _ _ h => h) (Bnd.yi_go rfl (fun W _ => Bnd.ex_move W rfl (Bnd.fr_at hF 4 rfl))) hS rfl (by decide) (fun a1 hA1 hF' => ?_)
                      replace hF := hF'; clear hF'
                      refine Bnd.tk (i := 1) (d := 74) (v := .slice (some ⟨gU, oU, none⟩) U.length capU) hF rfl rfl (by kernel_rfl) (by kernel_rfl) (by kernel_rfl) (fun _ _ _ h => h) (Bnd.yi_go rfl (fun W _ => Bnd.ex_move W rfl (Bnd.fr_at hF 2 rfl))) hS rfl (by decide) (fun a2 hA2 hF' => ?_)
                      replace hF := hF'; clear hF'
                      refine Bnd.tk (i := 2) (d := 75) (v := .int .i64 (k : Int)) hF rfl rfl (by kernel_rfl) (by kernel_rfl) (by kernel_rfl) (fun _ _ _ h => h) (Bnd.yi_go rfl (fun W _ => Bnd.ex_move W rfl (Bnd.fr_at hF 2 rfl))) hS rfl (by decide) (fun a3 hA3 hF' => ?_)
                      replace hF := hF'; clear hF'
                      refine Bnd.tk (i := 3) (d := 76) (v := .pointer (some ⟨gU, oU + k * 2, none⟩)) hF rfl rfl (by kernel_rfl) (by kernel_rfl) (by kernel_rfl) (fun _ _ _ h => h) (Bnd.yi_go rfl (fun W hW => by have f74 := Bnd.fr_at hF 1 rfl; have f75 := Bnd.fr_at hF 0 rfl; (try dsimp only at hW); go_split_ands; go_simp)) hS rfl (by decide) (fun a4 hA4 hF' => ?_)
                      replace hF := hF'; clear hF'
                      refine Bnd.tk (i := 4) (d := 77) (v := .pointer (some ⟨gU, oU + k * 2 + 1, none⟩)) hF rfl rfl (by kernel_rfl) (by kernel_rfl) (by kernel_rfl) (fun _ _ _ h => h) (Bnd.yi_go rfl (fun W hW => by have f76 := Bnd.fr_at hF 0 rfl; (try dsimp only at hW); go_split_ands; go_simp)) hS rfl (by decide) (fun a5 hA5 hF' => ?_)
                      replace hF := hF'; clear hF'
                      refine Bnd.tk (i := 5) (d := 78) (v := .int .u64 (ux : Int)) hF rfl rfl (by kernel_rfl) (by kernel_rfl) (by kernel_rfl) (fun _ _ _ h => h) (Bnd.yi_go rfl (fun W hW => by have f77 := Bnd.fr_at hF 0 rfl; (try dsimp only at hW); go_split_ands; go_simp)) hS rfl (by decide) (fun a6 hA6 hF' => ?_)
                      replace hF := hF'; clear hF'
                      refine Bnd.tk (i := 6) (d := 79) (v := .agg #[.int .i64 so, .slice sA sn sc, .int .i64 sy]) hF rfl rfl (by kernel_rfl) (by kernel_rfl) (by kernel_rfl) (fun _ _ _ h => h) (Bnd.yi_go rfl (fun W hW => by have f3 := Bnd.fr_at hF 11 rfl; (try dsimp only at hW); go_split_ands; go_simp)) hS rfl (by decide) (fun a7 hA7 hF' => ?_)
                      replace hF := hF'; clear hF'
                      refine Bnd.tk (i := 7) (d := 80) (v := .slice (some ⟨B6, 0, none⟩) N c6) hF rfl rfl (by kernel_rfl) (by kernel_rfl) (by kernel_rfl) (fun _ _ _ h => h) (Bnd.yi_go rfl (fun W _ => Bnd.ex_move W rfl (Bnd.fr_at hF 11 rfl))) hS rfl (by decide) (fun a8 hA8 hF' => ?_)
                      replace hF := hF'; clear hF'
                      refine Bnd.tk (i := 8) (d := 81) (v := .slice (some ⟨gU, oU, none⟩) U.length capU) hF rfl rfl (by kernel_rfl) (by kernel_rfl) (by kernel_rfl) (fun _ _ _ h => h) (Bnd.yi_go rfl (fun W _ => Bnd.ex_move W rfl (Bnd.fr_at hF 9 rfl))) hS rfl (by decide) (fun a9 hA9 hF' => ?_)
                      replace hF := hF'; clear hF'
                      refine Bnd.tk (i := 9) (d := 82) (v := .int .i64 (k : Int)) hF rfl rfl (by kernel_rfl) (by kernel_rfl) (by kernel_rfl) (fun _ _ _ h => h) (Bnd.yi_go rfl (fun W _ => Bnd.ex_move W rfl (Bnd.fr_at hF 9 rfl))) hS rfl (by decide) (fun a10 hA10 hF' => ?_)
                      replace hF := hF'; clear hF'
                      refine Bnd.tk (i := 10) (d := 83) (v := .pointer (some ⟨gU, oU + k * 2, none⟩)) hF rfl rfl (by kernel_rfl) (by kernel_rfl) (by kernel_rfl) (fun _ _ _ h => h) (Bnd.yi_go rfl (fun W hW => by have f81 := Bnd.fr_at hF 1 rfl; have f82 := Bnd.fr_at hF 0 rfl; (try dsimp only at hW); go_split_ands; go_simp)) hS rfl (by decide) (fun a11 hA11 hF' => ?_)
                      replace hF := hF'; clear hF'
                      refine Bnd.tk (i := 11) (d := 84) (v := .pointer (some ⟨gU, oU + k * 2 + 1, none⟩)) hF rfl rfl (by kernel_rfl) (by kernel_rfl) (by kernel_rfl) (fun _ _ _ h => h) (Bnd.yi_go rfl (fun W hW => by have f83 := Bnd.fr_at hF 0 rfl; (try dsimp only at hW); go_split_ands; go_simp)) hS rfl (by decide) (fun a12 hA12 hF' => ?_)
                      replace hF := hF'; clear hF'
                      refine Bnd.tk (i := 12) (d := 85) (v := .int .u64 (ux : Int)) hF rfl rfl (by kernel_rfl) (by kernel_rfl) (by kernel_rfl) (fun _ _ _ h => h) (Bnd.yi_go rfl (fun W hW => by have f84 := Bnd.fr_at hF 0 rfl; (try dsimp only at hW); go_split_ands; go_simp)) hS rfl (by decide) (fun a13 hA13 hF' => ?_)
                      replace hF := hF'; clear hF'
                      refine Bnd.tk (i := 13) (d := 86) (v := .pointer (some ⟨B6, ux, none⟩)) hF rfl rfl (by kernel_rfl) (by kernel_rfl) (by kernel_rfl) (fun _ _ _ h => h) (Bnd.yi_go rfl (fun W hW => by have f80 := Bnd.fr_at hF 5 rfl; have f85 := Bnd.fr_at hF 0 rfl; (try dsimp only at hW); go_split_ands; go_simp)) hS rfl (by decide) (fun a14 hA14 hF' => ?_)
                      replace hF := hF'; clear hF'
                      refine Bnd.tk (i := 15) (d := 88) (v := .slice (some ⟨gT, oT, none⟩) T.length capT) hF rfl rfl (by kernel_rfl) (by kernel_rfl) (by kernel_rfl) (fun _ _ _ h => h) (Bnd.yi_go rfl (fun W _ => Bnd.ex_move W rfl (Bnd.fr_at hF 17 rfl))) hS rfl (by decide) (fun a15 hA15 hF' => ?_)
                      replace hF := hF'; clear hF'
                      refine Bnd.tk (i := 16) (d := 89) (v := .int .i64 (q : Int)) hF rfl rfl (by kernel_rfl) (by kernel_rfl) (by kernel_rfl) (fun _ _ _ h => h) (Bnd.yi_go rfl (fun W _ => Bnd.ex_move W rfl (Bnd.fr_at hF 17 rfl))) hS rfl (by decide) (fun a16 hA16 hF' => ?_)
                      replace hF := hF'; clear hF'
                      refine Bnd.tk (i := 17) (d := 90) (v := .pointer (some ⟨gT, oT + q * 2, none⟩)) hF rfl rfl (by kernel_rfl) (by kernel_rfl) (by kernel_rfl) (fun _ _ _ h => h) (Bnd.yi_go rfl (fun W hW => by have f88 := Bnd.fr_at hF 1 rfl; have f89 := Bnd.fr_at hF 0 rfl; (try dsimp only at hW); go_split_ands; go_simp)) hS rfl (by decide) (fun a17 hA17 hF' => ?_)
                      replace hF := hF'; clear hF'
                      refine Bnd.tk (i := 18) (d := 91) (v := .pointer (some ⟨gT, oT + q * 2 + 1, none⟩)) hF rfl rfl (by kernel_rfl) (by kernel_rfl) (by kernel_rfl) (fun _ _ _ h => h) (Bnd.yi_go rfl (fun W hW => by have f90 := Bnd.fr_at hF 0 rfl; (try dsimp only at hW); go_split_ands; go_simp)) hS rfl (by decide) (fun a18 hA18 hF' => ?_)
                      replace hF := hF'; clear hF'
                      refine Bnd.tk (i := 19) (d := 92) (v := .int .u64 (cc : Int)) hF rfl rfl (by kernel_rfl) (by kernel_rfl) (by kernel_rfl) (fun _ _ _ h => h) (Bnd.yi_go rfl (fun W hW => by have f91 := Bnd.fr_at hF 0 rfl; (try dsimp only at hW); go_split_ands; go_simp)) hS rfl (by decide) (fun a19 hA19 hF' => ?_)
                      replace hF := hF'; clear hF'
                      refine wpAnyH_ready (rs := [14]) (by kernel_rfl) (by simp) ?_
                      refine AllReadyH.cons rfl (fun K hK => ?_) AllReadyH.nil
                      have f86 := Bnd.fr_at hF 5 rfl
                      go_simp
                      clear f86
                      refine hK.out _ _ hS (fun _ => ?_)
                      clear hK K
                      change wpAnyH _ _ _ _ _ _ _ (a19.put (some 87) (.int .u64 ((fx : Nat) : Int))) _
                      have hF' := Bnd.fr_put hF 87 (.int .u64 ((fx : Nat) : Int)) rfl (by decide)
                      generalize hA20 : Act.put a19 (some 87) (.int .u64 ((fx : Nat) : Int)) = a20 at hF' ⊢
                      replace hF := hF'; clear hF'
                      refine wpAnyH_ready (rs := [20]) (by kernel_rfl) (by simp) ?_
                      refine AllReadyH.cons rfl (fun K hK => ?_) AllReadyH.nil
                      have f79 := Bnd.fr_at hF 13 rfl
                      have f87 := Bnd.fr_at hF 0 rfl
                      have f92 := Bnd.fr_at hF 1 rfl
                      go_simp
                      clear f79 f87 f92
                      refine (KC.out _ hba.drew hbr.drew hS.1 hS.2.1).mono ?_
                      rintro e wc ⟨rfl, h1, h2, h3, h4, h5, h6, h7, h8, h9⟩
                      go_wp2_with fail
                      refine hK.out _ _ (⟨h1, h2, h3, h4, h5⟩) (fun _ => ?_)
                      replace hS := And.intro h1 (And.intro h2 (And.intro h3 (And.intro h4 h5)))
                      clear hK K
                      change wpAnyH _ _ _ _ _ _ _ (a20.put (some 93) (.int .u64 ((jn : Nat) : Int))) _
                      have hF' := Bnd.fr_put hF 93 (.int .u64 ((jn : Nat) : Int)) rfl (by decide)
                      generalize hA21 : Act.put a20 (some 93) (.int .u64 ((jn : Nat) : Int)) = a21 at hF' ⊢
                      replace hF := hF'; clear hF'
                      refine Bnd.tk (i := 21) (d := 94) (v := .pointer (some ⟨B6, ux, none⟩)) hF rfl rfl (by kernel_rfl) (by kernel_rfl) (by kernel_rfl) (fun _ _ _ h => h) (Bnd.yi_go rfl (fun W hW => by have f73 := Bnd.fr_at hF 20 rfl; have f78 := Bnd.fr_at hF 15 rfl; (try dsimp only at hW); go_split_ands; go_simp)) hS rfl (by decide) (fun a22 hA22 hF' => ?_)
                      replace hF := hF'; clear hF'
                      refine wpAnyH_ready (rs := [22]) (by kernel_rfl) (by simp) ?_
                      refine AllReadyH.cons rfl (fun K hK => ?_) AllReadyH.nil
                      have f93 := Bnd.fr_at hF 1 rfl
                      have f94 := Bnd.fr_at hF 0 rfl
                      go_simp
                      clear f93 f94
                      refine hK.out _ _ (⟨(World.cell?_setCell_far _ _ _ _ n1).trans h1, (World.cell?_setCell_far _ _ _ _ n2).trans h2, (World.cell?_setCell_far _ _ _ _ n3).trans h3, (World.cell?_setCell_far _ _ _ _ n3).trans h4, (World.cell?_setCell_far _ _ _ _ n3).trans h5⟩) (fun _ => ?_)
                      clear hK K
                      refine wpAnyH_done (by kernel_rfl) ?_ _
                      rw [← hA22, ← hA21, ← hA20, ← hA19, ← hA18, ← hA17, ← hA16, ← hA15, ← hA14, ← hA13, ← hA12, ← hA11, ← hA10, ← hA9, ← hA8, ← hA7, ← hA6, ← hA5, ← hA4, ← hA3, ← hA2, ← hA1, ← hA0]
                      simp only [Act.put, List.setIfInBounds_toArray, List.set_cons_zero, List.set_cons_succ]
                      clear hF hS hA22 hA21 hA20 hA19 hA18 hA17 hA16 hA15 hA14 hA13 hA12 hA11 hA10 hA9 hA8 hA7 hA6 hA5 hA4 hA3 hA2 hA1 hA0
                      clear hbr
                      have HX := Lib.hid (show Below wr.heap.size wr _ from by assumption)
                      have HSN := Lib.hid ((HST.out.below HX.out).put6 hux (fun g o e => by cases e; exact HGT.out.1) HNE.out jn)
                      have HUN := Lib.hid ((HUS.out.below HX.out).far (p := ⟨B6, ux, none⟩) (fun g o e => (HUG.out g o e).1) (.int .u64 ((jn : Nat) : Int)))
                      clear hB6 cl h1 h2 h3 h4 h5 h6 h7 h8 h9 hba
                      go_wp2
                      go_roundw
                      case rel => exact ⟨k + 1, _, by omega, rfl, rfl, by go_num, HSN.out, HUN.out, HJN.out⟩
                      case measure => simp [intOf]; omega
                    | false =>
                      obtain ⟨bl, hbl⟩ : ∃ y, y = S.below cc ux := ⟨_, rfl⟩
                      have KC := Lib.hid (fun W (h : Below wa.heap.size wa W) (h2 : Below wr.heap.size wr W) (e1 : W.cell? ⟨gU, oU + k * 2 + 1, none⟩ = some (.int .u64 (ux : Int))) (d1 : W.cell? ⟨gT, oT + q * 2 + 1, none⟩ = some (.int .u64 (cc : Int))) => (show Calls Tryz.prog 58 #[.agg #[.int .i64 so, .slice sA sn sc, .int .i64 sy], .int .u64 ((cc : Nat) : Int), .int .u64 ((ux : Nat) : Int)] W fun e W' => e = .returned (.bool bl) ∧ W'.cell? ⟨gU, oU + k * 2 + 1, none⟩ = some (.int .u64 (ux : Int)) ∧ W'.cell? ⟨gT, oT + q * 2 + 1, none⟩ = some (.int .u64 (cc : Int)) ∧ W'.cell? ⟨TB, 0, none⟩ = some (.int .i64 so) ∧ W'.cell? ⟨TB, 1, none⟩ = some (.slice sA sn sc) ∧ W'.cell? ⟨TB, 2, none⟩ = some (.int .i64 sy) ∧ Below wa.heap.size wa W' ∧ Below wr.heap.size wr W' from by
                        rw [hbl]
                        exact (Bnd.rs_below _ S cc ux HLC.out ltu W (HRS.out.below h)).mono (by
                          rintro e W' ⟨rfl, hb⟩
                          obtain ⟨y0, y1, y2⟩ := z_on HZ.out (on h hb)
                          exact ⟨rfl, cell_on e1 hb, cell_on d1 hb, y0, y1, y2, on h hb, on h2 hb⟩)))
                      have hbr := Below.refl wr.heap.size wr
                      have HBL := Lib.hid hbl
                      clear hbl ltu
                      go_wp2_with fail
                      go_region_held3 (fun W => W.cell? ⟨gU, oU + k * 2 + 1, none⟩ = some (.int .u64 (ux : Int)) ∧ W.cell? ⟨gT, oT + q * 2 + 1, none⟩ = some (.int .u64 (cc : Int)) ∧ W.cell? ⟨TB, 0, none⟩ = some (.int .i64 so) ∧ W.cell? ⟨TB, 1, none⟩ = some (.slice sA sn sc) ∧ W.cell? ⟨TB, 2, none⟩ = some (.int .i64 sy) ∧ Below wa.heap.size wa W ∧ Below wr.heap.size wr W)
                        (first | exact ⟨by assumption, by assumption, by assumption, by assumption, by assumption, by first | assumption | exact Below.drew (by assumption), by first | assumption | exact Below.drew (by assumption)⟩)
                        (first | (go_at_call 58; refine (KC.out _ (by first | assumption | exact Below.drew (by assumption)) (by first | assumption | exact Below.drew (by assumption)) (by assumption) (by assumption)).mono ?_; rintro e w' ⟨rfl, h1, h2, h3, h4, h5, h6, h7⟩))
                      clear hbr
                      have HX := Lib.hid (show Below wr.heap.size wr _ from by assumption)
                      have HSN := Lib.hid (HST.out.below HX.out)
                      have HUN := Lib.hid (HUS.out.below HX.out)
                      cases bl with
                      | true =>
                        have HJN := Lib.hid (HLJ.out.con HUQ.out HBL.out.symm)
                        go_wp2
                        go_roundw
                        case rel => exact ⟨k + 1, _, by omega, rfl, rfl, by go_num, HSN.out, HUN.out, HJN.out⟩
                        case measure => simp [intOf]; omega
                      | false =>
                        have HNS := Lib.hid (no_sol HFU.out HOK.out HCE.out HUR.out HBL.out.symm)
                        go_wp2
                        go_ret3
                        exact ⟨on HB0.out HSN.out.bl, none, none, 0, 0, [], [], 10, rfl, .inl ⟨by decide, rfl, rfl, (if_pos HCK.out.symm).symm, fun _ => HNS.out⟩, Bnd.nums_none _, Bnd.nums_none _⟩
                  · obtain rfl : U.length = k := by omega
                    have HLN := Lib.hid (HLJ.out.next rfl HTQ.out HFU2.out)
                    clear HLJ
                    go_wp2_with fail
                    go_roundw
                    case rel => exact ⟨q + 1, f, by omega, rfl, rfl, by go_num, HST.out, HLN.out⟩
                    case measure => simp [intOf]; omega
              · obtain rfl : T.length = q := by omega
                have HLW := Lib.hid (show L ≠ [] ∨ 0 < N → Low S N L f from fun h => low_is (HF.out h) HOK.out HLI.out rfl HCS.out)
                have HCC := Lib.hid (show ∀ c d, (false, c) ∈ ends L → Rch L (false, c) (false, d) → S.below c d = true from fun c d hc hr => by
                  have h := HLI.out.all rfl HCS.out hc hr
                  dsimp only at h
                  rwa [Bnd.tv_false] at h)
                have HH0 := Lib.hid (show HI S N L 0 (fun _ => tp) by rw [HBT.out.2]; exact HI.start (fun h => HF.out (.inr h)))
                have HST2 := Lib.hid (show St wa A6 N c6 B6 A7 c7 B7 none [] _ f (fun _ => tp) from ⟨HST.out.r6, HST.out.r7, fun k hk => by simp at hk, HST.out.sz, HST.out.bl⟩)
                clear HST HLI HTG
                go_wp2_with fail
                go_loopw [14] (fun i wr => ∃ (q : Nat) (h : Nat → Nat), q ≤ N ∧ i = .int .i64 q ∧ Hid (St wa A6 N c6 B6 A7 c7 B7 none [] wr f h) ∧ Hid (HI S N L q h)) (fun i _ => N - (intOf i).toNat)
                case atStart => exact ⟨0, _, by omega, rfl, HST2.out, HH0.out⟩
                case round =>
                  clear HST2 HH0
                  obtain ⟨q, h, hq, rfl, HST, HHI⟩ := hrel
                  by_cases hqN : q < N
                  · have HFU := Lib.hid (HF.out (.inr (by omega)))
                    have i1 : (0 : Int) ≤ (q : Int) := by omega
                    have i2 : (q : Int) < (N : Int) := by omega
                    have wq : IntKind.u64.wrap (q : Int) = (q : Int) := by rw [IntKind.wrap_u64]; omega
                    go_wp2_with fail
                    refine (from_any A2 m c2 L HM.out hmax true q (by omega) _ (HL.out.below HST.out.bl)).mono ?_
                    rintro e w4 ⟨hb4, aU, capU, U, rfl, hus, hfu, hgU⟩
                    have HUG := Lib.hid (show ∀ g o, aU = some ⟨g, o, none⟩ → g ≠ B6 ∧ g ≠ B7 from fun g o e => by
                      have h1 := hgU g o e
                      have h2 := HST.out.sz
                      omega)
                    have HST4 := Lib.hid (HST.out.below hb4)
                    have hUl : U.length ≤ 2000 := by have h1 := hfu.2; have h2 := HM.out; omega
                    have HFU2 := Lib.hid hfu
                    have HUS := Lib.hid hus
                    have HHJ := Lib.hid (HJ.start (U := U) HHI.out)
                    clear hb4 hus hfu hgU HST HHI
                    go_wp2_with fail
                    go_loopw [16] (fun i wr => ∃ (k : Nat) (h : Nat → Nat), k ≤ U.length ∧ i = .int .i64 k ∧ Hid (St wa A6 N c6 B6 A7 c7 B7 none [] wr f h) ∧ Hid (Tms wr aU U) ∧ Hid (HJ S N L q U k h)) (fun i _ => U.length - (intOf i).toNat)
                    case atStart => exact ⟨0, h, by omega, rfl, HST4.out, HUS.out, HHJ.out⟩
                    case round =>
                      clear HST4 HUS HHJ
                      obtain ⟨k, h, hk, rfl, HST, HUS, HHJ⟩ := hrel
                      by_cases hkU : k < U.length
                      · obtain ⟨gU, oU, rfl, e0, e1, ltu⟩ := HUS.out k hkU
                        have HUR := Lib.hid ((HFU2.out.1 U[k]).1 (List.getElem_mem hkU))
                        have HUQ := Lib.hid (List.getElem?_eq_getElem hkU)
                        obtain ⟨⟨uv, ux⟩, hx⟩ : ∃ y, y = U[k] := ⟨_, rfl⟩
                        rw [← hx] at e0 e1 ltu HUR HUQ
                        clear hx
                        dsimp only at e0 e1 ltu
                        obtain ⟨z0, z1, z2⟩ := z_on HZ.out HST.out.bl
                        have j1 : (0 : Int) ≤ (k : Int) := by omega
                        have j2 : (k : Int) < (U.length : Int) := by omega
                        have hba := HST.out.bl
                        cases uv with
                        | true =>
                          have HJN := Lib.hid (HHJ.out.var HUQ.out)
                          go_wp2
                          go_roundw
                          case rel => exact ⟨k + 1, h, by omega, by go_num, HST.out, HUS.out, HJN.out⟩
                          case measure => simp [intOf]; omega
                        | false =>
                          have hch : S.has ux = true := con_has HOK.out (ends_dst HUR.out (by simp))
                          obtain ⟨rfl, hB7, cl, fl, hNc⟩ := HST.out.r7.cell hqN
                          have n1 : B7 ≠ gU := fun e => (HUG.out gU oU rfl).2 e.symm
                          have n3 : B7 ≠ TB := by have := HTB.out; omega
                          have hfl : h q < 18446744073709551616 := HFU.out.lt _ (HHJ.out.1.grt.1 q hqN)
                          have hfh : S.has (h q) = true := HHJ.out.1.grt.1 q hqN
                          have HJN := Lib.hid (HHJ.out.con HFU.out hqN HUQ.out hch HUR.out)
                          obtain ⟨jn, hjn⟩ : ∃ y, y = S.meet (h q) ux := ⟨_, rfl⟩
                          have KC := Lib.hid (fun W (hh : Below wa.heap.size wa W) (h2 : Below wr.heap.size wr W) (e1 : W.cell? ⟨gU, oU + k * 2 + 1, none⟩ = some (.int .u64 (ux : Int))) => (show Calls Tryz.prog 59 #[.agg #[.int .i64 so, .slice sA sn sc, .int .i64 sy], .int .u64 ((h q : Nat) : Int), .int .u64 ((ux : Nat) : Int)] W fun e W' => e = .returned (.int .u64 ((jn : Nat) : Int)) ∧ W'.cell? ⟨gU, oU + k * 2 + 1, none⟩ = some (.int .u64 (ux : Int)) ∧ W'.cell? ⟨TB, 0, none⟩ = some (.int .i64 so) ∧ W'.cell? ⟨TB, 1, none⟩ = some (.slice sA sn sc) ∧ W'.cell? ⟨TB, 2, none⟩ = some (.int .i64 sy) ∧ Below wa.heap.size wa W' ∧ Below wr.heap.size wr W' ∧ W'.frozen? ⟨B7, q, none⟩ = false ∧ W'.cell? ⟨B7, q, none⟩ = some (.int .u64 ((h q : Nat) : Int)) from by
                            rw [hjn]
                            exact (Bnd.rs_meet _ S (h q) ux hfl ltu hfh hch W (HRS.out.below hh)).mono (by
                              rintro e W' ⟨rfl, hb⟩
                              obtain ⟨y0, y1, y2⟩ := z_on HZ.out (on hh hb)
                              exact ⟨rfl, cell_on e1 hb, y0, y1, y2, on hh hb, on h2 hb, ((HST.out.r7.below (on h2 hb)).cell hqN).2.2.2.1, ((HST.out.r7.below (on h2 hb)).cell hqN).2.2.1⟩)))
                          rw [← hjn] at HJN
                          have hbr := Below.refl wr.heap.size wr
                          obtain ⟨fx, hfx⟩ : ∃ y, y = h q := ⟨_, rfl⟩
                          rw [← hfx] at cl KC
                          clear hfl hfh hjn HHJ hfx fl HUR hch ltu
                          go_wp2_with fail
                          refine wp_region_held (S := fun W => W.cell? ⟨gU, oU + k * 2 + 1, none⟩ = some (.int .u64 (ux : Int)) ∧ W.cell? ⟨TB, 0, none⟩ = some (.int .i64 so) ∧ W.cell? ⟨TB, 1, none⟩ = some (.slice sA sn sc) ∧ W.cell? ⟨TB, 2, none⟩ = some (.int .i64 sy)) (by kernel_rfl) ?_
                          generalize hA0 : Act.mk _ _ = a0
                          have hF := Bnd.Fr.nil (n := 146) (a := a0) (by rw [← hA0]; rfl)
                          replace hF := Bnd.Fr.cons hF 3 (.pointer (some ⟨TB, 0, none⟩)) (by rw [← hA0]; rfl)
                          replace hF := Bnd.Fr.cons hF 7 (.slice (some ⟨B7, 0, none⟩) N c7) (by rw [← hA0]; rfl)
                          replace hF := Bnd.Fr.cons hF 14 (.int .i64 (q : Int)) (by rw [← hA0]; rfl)
                          replace hF := Bnd.Fr.cons hF 15 (.slice (some ⟨gU, oU, none⟩) U.length capU) (by rw [← hA0]; rfl)
                          replace hF := Bnd.Fr.cons hF 16 (.int .i64 (k : Int)) (by rw [← hA0]; rfl)
                          have hS : (World.drew wr).cell? ⟨gU, oU + k * 2 + 1, none⟩ = some (.int .u64 (ux : Int)) ∧ (World.drew wr).cell? ⟨TB, 0, none⟩ = some (.int .i64 so) ∧ (World.drew wr).cell? ⟨TB, 1, none⟩ = some (.slice sA sn sc) ∧ (World.drew wr).cell? ⟨TB, 2, none⟩ = some (.int .i64 sy) := ⟨e1, z0, z1, z2⟩
                          change wpAnyH _ _ _ _ _ _ _ _ (World.drew _)
                          refine Bnd.tk (i := 0) (d := 130) (v := .slice (some ⟨B7, 0, none⟩) N c7) hF rfl rfl (by kernel_rfl) (by kernel_rfl) (by kernel_rfl) (fun _ _ _ h => h) (Bnd.yi_go rfl (fun W _ => Bnd.ex_move W rfl (Bnd.fr_at hF 3 rfl))) hS rfl (by decide) (fun a1 hA1 hF' => ?_)
                          replace hF := hF'; clear hF'
                          refine Bnd.tk (i := 1) (d := 131) (v := .int .i64 (q : Int)) hF rfl rfl (by kernel_rfl) (by kernel_rfl) (by kernel_rfl) (fun _ _ _ h => h) (Bnd.yi_go rfl (fun W _ => Bnd.ex_move W rfl (Bnd.fr_at hF 3 rfl))) hS rfl (by decide) (fun a2 hA2 hF' => ?_)
                          replace hF := hF'; clear hF'
                          refine Bnd.tk (i := 2) (d := 132) (v := .agg #[.int .i64 so, .slice sA sn sc, .int .i64 sy]) hF rfl rfl (by kernel_rfl) (by kernel_rfl) (by kernel_rfl) (fun _ _ _ h => h) (Bnd.yi_go rfl (fun W hW => by have f3 := Bnd.fr_at hF 6 rfl; (try dsimp only at hW); go_split_ands; go_simp)) hS rfl (by decide) (fun a3 hA3 hF' => ?_)
                          replace hF := hF'; clear hF'
                          refine Bnd.tk (i := 3) (d := 133) (v := .slice (some ⟨B7, 0, none⟩) N c7) hF rfl rfl (by kernel_rfl) (by kernel_rfl) (by kernel_rfl) (fun _ _ _ h => h) (Bnd.yi_go rfl (fun W _ => Bnd.ex_move W rfl (Bnd.fr_at hF 6 rfl))) hS rfl (by decide) (fun a4 hA4 hF' => ?_)
                          replace hF := hF'; clear hF'
                          refine Bnd.tk (i := 4) (d := 134) (v := .int .i64 (q : Int)) hF rfl rfl (by kernel_rfl) (by kernel_rfl) (by kernel_rfl) (fun _ _ _ h => h) (Bnd.yi_go rfl (fun W _ => Bnd.ex_move W rfl (Bnd.fr_at hF 6 rfl))) hS rfl (by decide) (fun a5 hA5 hF' => ?_)
                          replace hF := hF'; clear hF'
                          refine Bnd.tk (i := 5) (d := 135) (v := .pointer (some ⟨B7, q, none⟩)) hF rfl rfl (by kernel_rfl) (by kernel_rfl) (by kernel_rfl) (fun _ _ _ h => h) (Bnd.yi_go rfl (fun W hW => by have f133 := Bnd.fr_at hF 1 rfl; have f134 := Bnd.fr_at hF 0 rfl; (try dsimp only at hW); go_split_ands; go_simp)) hS rfl (by decide) (fun a6 hA6 hF' => ?_)
                          replace hF := hF'; clear hF'
                          refine Bnd.tk (i := 7) (d := 137) (v := .slice (some ⟨gU, oU, none⟩) U.length capU) hF rfl rfl (by kernel_rfl) (by kernel_rfl) (by kernel_rfl) (fun _ _ _ h => h) (Bnd.yi_go rfl (fun W _ => Bnd.ex_move W rfl (Bnd.fr_at hF 7 rfl))) hS rfl (by decide) (fun a7 hA7 hF' => ?_)
                          replace hF := hF'; clear hF'
                          refine Bnd.tk (i := 8) (d := 138) (v := .int .i64 (k : Int)) hF rfl rfl (by kernel_rfl) (by kernel_rfl) (by kernel_rfl) (fun _ _ _ h => h) (Bnd.yi_go rfl (fun W _ => Bnd.ex_move W rfl (Bnd.fr_at hF 7 rfl))) hS rfl (by decide) (fun a8 hA8 hF' => ?_)
                          replace hF := hF'; clear hF'
                          refine Bnd.tk (i := 9) (d := 139) (v := .pointer (some ⟨gU, oU + k * 2, none⟩)) hF rfl rfl (by kernel_rfl) (by kernel_rfl) (by kernel_rfl) (fun _ _ _ h => h) (Bnd.yi_go rfl (fun W hW => by have f137 := Bnd.fr_at hF 1 rfl; have f138 := Bnd.fr_at hF 0 rfl; (try dsimp only at hW); go_split_ands; go_simp)) hS rfl (by decide) (fun a9 hA9 hF' => ?_)
                          replace hF := hF'; clear hF'
                          refine Bnd.tk (i := 10) (d := 140) (v := .pointer (some ⟨gU, oU + k * 2 + 1, none⟩)) hF rfl rfl (by kernel_rfl) (by kernel_rfl) (by kernel_rfl) (fun _ _ _ h => h) (Bnd.yi_go rfl (fun W hW => by have f139 := Bnd.fr_at hF 0 rfl; (try dsimp only at hW); go_split_ands; go_simp)) hS rfl (by decide) (fun a10 hA10 hF' => ?_)
                          replace hF := hF'; clear hF'
                          refine Bnd.tk (i := 11) (d := 141) (v := .int .u64 (ux : Int)) hF rfl rfl (by kernel_rfl) (by kernel_rfl) (by kernel_rfl) (fun _ _ _ h => h) (Bnd.yi_go rfl (fun W hW => by have f140 := Bnd.fr_at hF 0 rfl; (try dsimp only at hW); go_split_ands; go_simp)) hS rfl (by decide) (fun a11 hA11 hF' => ?_)
                          replace hF := hF'; clear hF'
                          refine wpAnyH_ready (rs := [6]) (by kernel_rfl) (by simp) ?_
                          refine AllReadyH.cons rfl (fun K hK => ?_) AllReadyH.nil
                          have f135 := Bnd.fr_at hF 5 rfl
                          go_simp
                          clear f135
                          refine hK.out _ _ hS (fun _ => ?_)
                          clear hK K
                          change wpAnyH _ _ _ _ _ _ _ (a11.put (some 136) (.int .u64 ((fx : Nat) : Int))) _
                          have hF' := Bnd.fr_put hF 136 (.int .u64 ((fx : Nat) : Int)) rfl (by decide)
                          generalize hA12 : Act.put a11 (some 136) (.int .u64 ((fx : Nat) : Int)) = a12 at hF' ⊢
                          replace hF := hF'; clear hF'
                          refine wpAnyH_ready (rs := [12]) (by kernel_rfl) (by simp) ?_
                          refine AllReadyH.cons rfl (fun K hK => ?_) AllReadyH.nil
                          have f132 := Bnd.fr_at hF 9 rfl
                          have f136 := Bnd.fr_at hF 0 rfl
                          have f141 := Bnd.fr_at hF 1 rfl
                          go_simp
                          clear f132 f136 f141
                          refine (KC.out _ hba.drew hbr.drew hS.1).mono ?_
                          rintro e wc ⟨rfl, h1, h2, h3, h4, h5, h6, h7, h8⟩
                          go_wp2_with fail
                          refine hK.out _ _ (⟨h1, h2, h3, h4⟩) (fun _ => ?_)
                          replace hS := And.intro h1 (And.intro h2 (And.intro h3 h4))
                          clear hK K
                          change wpAnyH _ _ _ _ _ _ _ (a12.put (some 142) (.int .u64 ((jn : Nat) : Int))) _
                          have hF' := Bnd.fr_put hF 142 (.int .u64 ((jn : Nat) : Int)) rfl (by decide)
                          generalize hA13 : Act.put a12 (some 142) (.int .u64 ((jn : Nat) : Int)) = a13 at hF' ⊢
                          replace hF := hF'; clear hF'
                          refine Bnd.tk (i := 13) (d := 143) (v := .pointer (some ⟨B7, q, none⟩)) hF rfl rfl (by kernel_rfl) (by kernel_rfl) (by kernel_rfl) (fun _ _ _ h => h) (Bnd.yi_go rfl (fun W hW => by have f130 := Bnd.fr_at hF 12 rfl; have f131 := Bnd.fr_at hF 11 rfl; (try dsimp only at hW); go_split_ands; go_simp)) hS rfl (by decide) (fun a14 hA14 hF' => ?_)
                          replace hF := hF'; clear hF'
                          refine wpAnyH_ready (rs := [14]) (by kernel_rfl) (by simp) ?_
                          refine AllReadyH.cons rfl (fun K hK => ?_) AllReadyH.nil
                          have f142 := Bnd.fr_at hF 1 rfl
                          have f143 := Bnd.fr_at hF 0 rfl
                          go_simp
                          clear f142 f143
                          refine hK.out _ _ (⟨(World.cell?_setCell_far _ _ _ _ n1).trans h1, (World.cell?_setCell_far _ _ _ _ n3).trans h2, (World.cell?_setCell_far _ _ _ _ n3).trans h3, (World.cell?_setCell_far _ _ _ _ n3).trans h4⟩) (fun _ => ?_)
                          clear hK K
                          refine wpAnyH_done (by kernel_rfl) ?_ _
                          rw [← hA14, ← hA13, ← hA12, ← hA11, ← hA10, ← hA9, ← hA8, ← hA7, ← hA6, ← hA5, ← hA4, ← hA3, ← hA2, ← hA1, ← hA0]
                          simp only [Act.put, List.setIfInBounds_toArray, List.set_cons_zero, List.set_cons_succ]
                          clear hF hS hA14 hA13 hA12 hA11 hA10 hA9 hA8 hA7 hA6 hA5 hA4 hA3 hA2 hA1 hA0
                          clear hbr
                          have HX := Lib.hid (show Below wr.heap.size wr _ from by assumption)
                          have HSN := Lib.hid ((HST.out.below HX.out).put7 hqN (fun g o e => by cases e) HNE.out jn)
                          have HUN := Lib.hid ((HUS.out.below HX.out).far (p := ⟨B7, q, none⟩) (fun g o e => (HUG.out g o e).2) (.int .u64 ((jn : Nat) : Int)))
                          clear hB7 cl hba
                          go_wp2
                          go_roundw
                          case rel => exact ⟨k + 1, _, by omega, by go_num, HSN.out, HUN.out, HJN.out⟩
                          case measure => simp [intOf]; omega
                      · obtain rfl : U.length = k := by omega
                        have HLN := Lib.hid (HHJ.out.next rfl HFU2.out)
                        clear HHJ
                        go_wp2_with fail
                        go_roundw
                        case rel => exact ⟨q + 1, h, by omega, by go_num, HST.out, HLN.out⟩
                        case measure => simp [intOf]; omega
                  · obtain rfl : N = q := by omega
                    have HHG := Lib.hid (show L ≠ [] ∨ 0 < N → High S N L h from fun hh => high_is (HF.out hh) HOK.out HHI.out HCC.out)
                    have HAN := Lib.hid (both_vals HF.out HLW.out HHG.out)
                    have HN6 := Lib.hid (HST.out.r6.nums HAN.out.2.2.1)
                    have HN7 := Lib.hid (HST.out.r7.nums HAN.out.2.2.2)
                    have HBW := Lib.hid (on HB0.out HST.out.bl)
                    have HL6 := Lib.hid (show N = (lst N f).length by simp [lst])
                    have HL7 := Lib.hid (show N = (lst N h).length by simp [lst])
                    clear HST HHI HLW HHG
                    go_wp2_with fail
                    go_ret3
                    refine ⟨HBW.out, A6, A7, c6, c7, lst N f, lst N h, 0, ?_, .inr ⟨rfl, HCK.out.symm, f, h, HAN.out.1, HAN.out.2.1, rfl, rfl⟩, HN6.out, HN7.out⟩
                    rw [← HL6.out, ← HL7.out]
                    rfl
  · have dE : (((ck : Nat) : Int) != 0) = true := by simp; omega
    go_wp2_with fail
    go_ret3
    exact ⟨on HB0.out HB1.out, none, none, 0, 0, [], [], ck, rfl, .inl ⟨hc, rfl, rfl, by rw [← HCK.out, if_neg hc], fun h => absurd (HCK.out.trans h) hc⟩, Bnd.nums_none _, Bnd.nums_none _⟩
end Go.Proofs.YtajilghlcfheiaaGreatDoor.Trm
