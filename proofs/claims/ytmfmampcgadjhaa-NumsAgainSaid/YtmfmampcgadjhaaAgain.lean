/- Of bytes of which a number, or a text, is got its own are their beginning: the law's walk. -/
import Derived.Test.YtmfmampcgadjhaaSame
import Derived.Test.YtmfmampcgadjhaaTake
namespace Go.Proofs.Ytmfmampcgadjhaa
open Go.RowKit Go.Proofs.YtmfmampcgadjhaaW.PrintWords
theorem text_cases (bs : List UInt8) : ((text bs).2.2 = 0 ∧ (text bs).2.1 ≤ bs.length ∧ num (text bs).1.length ++ (text bs).1 = bs.take (text bs).2.1 ∧ (text bs).1.length ≤ bs.length) ∨ ((text bs).1 = [] ∧ (text bs).2.1 = 0 ∧ ((text bs).2.2 = 4 ∨ (text bs).2.2 = 5)) := by
  unfold text
  by_cases h : (get bs).2.2 = 0
  · rw [if_pos h]
    have ht := get_took h
    by_cases h2 : bs.length - (get bs).2.1 < (get bs).1
    · rw [if_pos h2]
      exact .inr ⟨rfl, rfl, .inr rfl⟩
    · rw [if_neg h2]
      have hl : ((bs.drop (get bs).2.1).take (get bs).1).length = (get bs).1 := by rw [List.length_take, List.length_drop]; omega
      refine .inl ⟨rfl, by show (get bs).2.1 + (get bs).1 ≤ _; omega, ?_, by rw [hl]; omega⟩
      show num ((bs.drop (get bs).2.1).take (get bs).1).length ++ (bs.drop (get bs).2.1).take (get bs).1 = bs.take ((get bs).2.1 + (get bs).1)
      rw [hl, num_get h, List.take_add]
  · rw [if_neg h]
    rcases get_errno bs with h0 | ⟨_, _, h3⟩
    · exact absurd h0 h
    · exact .inr ⟨rfl, rfl, h3⟩
set_option maxRecDepth 20000 in
set_option maxHeartbeats 16000000 in
theorem again_walk (A : Option Addr) (n c : Nat) (zs : List Int) (w : World) (hr : IsRow .u8 w A n c zs) (_hn : n * 1 ≤ 140737488351232) :
    Calls Try.prog 5 #[.slice A n c] w fun e w' => e = .returned (.bool true) ∧ Below w.heap.size w w' := by
  obtain ⟨bs, hlen, hI, hcap⟩ := hr.bytes
  clear hr
  by_cases hg : n ≤ 20000
  · have d1 : decide (20000 < (n : Int)) = false := by simp; omega
    have HI := Lib.hid hI
    have HN := Lib.hid hlen.symm
    have HCAP := Lib.hid hcap
    have hz := get_errno bs
    have htk := get_took (bs := bs)
    have hlt := get_lt bs
    have hng := num_get (bs := bs)
    have hnl := get_num_len (bs := bs)
    have HG := Lib.hid (fun W (h : Bytes W W.heap.size A bs) => get_any A n c bs hlen.symm W h)
    obtain ⟨r, hrr⟩ : ∃ r, r = get bs := ⟨_, rfl⟩
    rw [← hrr] at hz htk hlt hng hnl HG
    clear hrr hI hlen hcap
    obtain ⟨N, t, e⟩ := r
    simp only at hz htk hlt hng hnl
    go_enter Try.func5, Try.ntmps5
    go_wp2_with fail
    refine (alive_any _).mono ?_
    rintro e1 w1 ⟨rfl, hb1⟩
    have HB1 := Lib.hid hb1
    have HI1 := Lib.hid (HI.out.later hb1)
    clear hb1 HI
    go_wp2_with fail
    refine (HG.out w1 HI1.out).mono ?_
    rintro e1 wx ⟨rfl, rfl⟩
    unfold tup
    clear HG
    rcases hz with hz | ⟨z1, z2, z3⟩
    · subst hz
      obtain ⟨ht, ht0⟩ := htk rfl
      have HNT := Lib.hid (hng rfl)
      have HNL := Lib.hid (hnl rfl)
      have HNB := Lib.hid hlt
      have HTL := Lib.hid (show t = (bs.take t).length by rw [List.length_take]; omega)
      have htn : t ≤ n := by have := HN.out; omega
      have htc : t ≤ c := by have := HCAP.out; omega
      have l1 : decide ((t : Int) < 0) = false := by simp
      have l2 : decide ((n : Int) < (t : Int)) = false := by simp; omega
      have l3 : decide (n < t) = false := by simp; omega
      have l4 : ¬ c < t := by omega
      clear htk hlt hng hnl ht ht0
      go_wp2
      refine wp_region_held (S := fun W => Below w1.heap.size w1 W) (by kernel_rfl) ?_
      generalize hA0 : Act.mk _ _ = a0
      have hF := Fr.nil (n := 108) (a := a0) (by rw [← hA0]; rfl)
      replace hF := Fr.cons hF 5 (.int .i64 0) (by rw [← hA0]; rfl)
      replace hF := Fr.cons hF 4 (.int .i64 t) (by rw [← hA0]; rfl)
      replace hF := Fr.cons hF 3 (.int .u64 N) (by rw [← hA0]; rfl)
      replace hF := Fr.cons hF 0 (.slice A n c) (by rw [← hA0]; rfl)
      have hS : Below w1.heap.size w1 w1.drew := (Below.refl _ w1).drew
      change wpAnyH _ _ _ _ _ _ _ _ (World.drew _)
      refine tk (i := 0) (d := 23) (v := .int .i64 t) hF rfl rfl (by kernel_rfl) (by kernel_rfl) (by kernel_rfl) (fun _ _ _ h => h) (yi_go rfl (fun W hW => ex_move W rfl (fr_at hF 2 rfl))) hS rfl (by decide) (fun a1 hA1 hF' => ?_)
      replace hF := hF'; clear hF'
      refine tk (i := 1) (d := 24) (v := .bool false) hF rfl rfl (by kernel_rfl) (by kernel_rfl) (by kernel_rfl) (fun _ _ _ h => h) (yi_go rfl (fun W hW => by have f23 := fr_at hF 0 rfl; go_simp)) hS rfl (by decide) (fun a2 hA2 hF' => ?_)
      replace hF := hF'; clear hF'
      refine tk (i := 2) (d := 25) (v := .bool false) hF rfl rfl (by kernel_rfl) (by kernel_rfl) (by kernel_rfl) (fun _ _ _ h => h) (yi_go rfl (fun W hW => ex_move W rfl (fr_at hF 0 rfl))) hS rfl (by decide) (fun a3 hA3 hF' => ?_)
      replace hF := hF'; clear hF'
      refine tk (i := 3) (d := 26) (v := .int .i64 t) hF rfl rfl (by kernel_rfl) (by kernel_rfl) (by kernel_rfl) (fun _ _ _ h => h) (yi_want rfl rfl (fr_at hF 0 rfl) (fun W hW => ex_move W rfl (fr_at hF 5 rfl))) hS rfl (by decide) (fun a4 hA4 hF' => ?_)
      replace hF := hF'; clear hF'
      refine tk (i := 4) (d := 27) (v := .slice A n c) hF rfl rfl (by kernel_rfl) (by kernel_rfl) (by kernel_rfl) (fun _ _ _ h => h) (yi_want rfl rfl (fr_at hF 1 rfl) (fun W hW => ex_move W rfl (fr_at hF 4 rfl))) hS rfl (by decide) (fun a5 hA5 hF' => ?_)
      replace hF := hF'; clear hF'
      refine tk (i := 5) (d := 28) (v := .int .i64 n) hF rfl rfl (by kernel_rfl) (by kernel_rfl) (by kernel_rfl) (fun _ _ _ h => h) (yi_want rfl rfl (fr_at hF 2 rfl) (fun W hW => by have f27 := fr_at hF 0 rfl; go_simp)) hS rfl (by decide) (fun a6 hA6 hF' => ?_)
      replace hF := hF'; clear hF'
      refine tk (i := 6) (d := 29) (v := .bool false) hF rfl rfl (by kernel_rfl) (by kernel_rfl) (by kernel_rfl) (fun _ _ _ h => h) (yi_want rfl rfl (fr_at hF 3 rfl) (fun W hW => by have f26 := fr_at hF 2 rfl; have f28 := fr_at hF 0 rfl; go_simp)) hS rfl (by decide) (fun a7 hA7 hF' => ?_)
      replace hF := hF'; clear hF'
      refine tk (i := 7) (d := 30) (v := .bool false) hF rfl rfl (by kernel_rfl) (by kernel_rfl) (by kernel_rfl) (fun _ _ _ h => h) (yi_go rfl (fun W hW => by have f25 := fr_at hF 4 rfl; have f29 := fr_at hF 0 rfl; go_simp)) hS rfl (by decide) (fun a8 hA8 hF' => ?_)
      replace hF := hF'; clear hF'
      refine tk (i := 8) (d := 31) (v := .bool false) hF rfl rfl (by kernel_rfl) (by kernel_rfl) (by kernel_rfl) (fun _ _ _ h => h) (yi_go rfl (fun W hW => ex_move W rfl (fr_at hF 0 rfl))) hS rfl (by decide) (fun a9 hA9 hF' => ?_)
      replace hF := hF'; clear hF'
      refine tk (i := 9) (d := 32) (v := .int .i64 0) hF rfl rfl (by kernel_rfl) (by kernel_rfl) (by kernel_rfl) (fun _ _ _ h => h) (yi_want rfl rfl (fr_at hF 0 rfl) (fun W hW => ex_move W rfl (fr_at hF 12 rfl))) hS rfl (by decide) (fun a10 hA10 hF' => ?_)
      replace hF := hF'; clear hF'
      refine tk (i := 10) (d := 33) (v := .bool true) hF rfl rfl (by kernel_rfl) (by kernel_rfl) (by kernel_rfl) (fun _ _ _ h => h) (yi_want rfl rfl (fr_at hF 1 rfl) (fun W hW => by have f32 := fr_at hF 0 rfl; go_simp)) hS rfl (by decide) (fun a11 hA11 hF' => ?_)
      replace hF := hF'; clear hF'
      refine tk (i := 11) (d := 34) (v := .bool true) hF rfl rfl (by kernel_rfl) (by kernel_rfl) (by kernel_rfl) (fun _ _ _ h => h) (yi_want rfl rfl (fr_at hF 2 rfl) (fun W hW => ex_move W rfl (fr_at hF 0 rfl))) hS rfl (by decide) (fun a12 hA12 hF' => ?_)
      replace hF := hF'; clear hF'
      refine tk (i := 12) (d := 35) (v := .int .u64 N) hF rfl rfl (by kernel_rfl) (by kernel_rfl) (by kernel_rfl) (fun _ _ _ h => h) (yi_want rfl rfl (fr_at hF 0 rfl) (fun W hW => ex_move W rfl (fr_at hF 13 rfl))) hS rfl (by decide) (fun a13 hA13 hF' => ?_)
      replace hF := hF'; clear hF'
      refine tk (i := 14) (d := 37) (v := .slice A n c) hF rfl rfl (by kernel_rfl) (by kernel_rfl) (by kernel_rfl) (fun _ _ _ h => h) (yi_want rfl rfl (fr_at hF 1 rfl) (fun W hW => ex_move W rfl (fr_at hF 13 rfl))) hS rfl (by decide) (fun a14 hA14 hF' => ?_)
      replace hF := hF'; clear hF'
      refine tk (i := 15) (d := 38) (v := .int .i64 t) hF rfl rfl (by kernel_rfl) (by kernel_rfl) (by kernel_rfl) (fun _ _ _ h => h) (yi_want rfl rfl (fr_at hF 2 rfl) (fun W hW => ex_move W rfl (fr_at hF 16 rfl))) hS rfl (by decide) (fun a15 hA15 hF' => ?_)
      replace hF := hF'; clear hF'
      refine tk (i := 16) (d := 39) (v := .slice A t c) hF rfl rfl (by kernel_rfl) (by kernel_rfl) (by kernel_rfl) (fun _ _ _ h => h) (yi_want rfl rfl (fr_at hF 3 rfl) (fun W hW => by have f37 := fr_at hF 1 rfl; have f38 := fr_at hF 0 rfl; go_simp)) hS rfl (by decide) (fun a16 hA16 hF' => ?_)
      replace hF := hF'; clear hF'
      refine wpAnyH_ready (rs := [13]) (by kernel_rfl) (by simp) ?_
      refine AllReadyH.cons rfl (fun K hK => ?_) AllReadyH.nil
      rw [if_pos (by rw [guard_at rfl rfl (fr_at hF 4 rfl)]; rfl)]
      have f35 := fr_at hF 3 rfl
      go_simp
      clear f35
      go_at_call 17
      refine (num_any none 0 0 [] rfl (by omega) N HNB.out _ (bytes_none _ _)).mono ?_
      rintro e wa ⟨⟨v, rfl, hr⟩, hb⟩
      obtain ⟨A3, c3, rfl, _, hJ⟩ := hr.bytes
      rw [List.nil_append, HNL.out] at *
      have HJ := Lib.hid hJ
      clear hr hJ
      go_wp2_with fail
      refine hK.out _ _ (on hS hb) (fun _ => ?_)
      replace hS := on hS hb
      clear hK K
      change wpAnyH _ _ _ _ _ _ _ (a16.put (some 36) (.slice A3 t c3)) _
      have hF' := fr_put hF 36 (.slice A3 t c3) rfl (by decide)
      generalize hA17 : Act.put a16 (some 36) (.slice A3 t c3) = a17 at hF' ⊢
      replace hF := hF'; clear hF'
      refine wpAnyH_ready (rs := [17]) (by kernel_rfl) (by simp) ?_
      refine AllReadyH.cons rfl (fun K hK => ?_) AllReadyH.nil
      rw [if_pos (by rw [guard_at rfl rfl (fr_at hF 5 rfl)]; rfl)]
      have f36 := fr_at hF 0 rfl
      have f39 := fr_at hF 1 rfl
      go_simp
      clear f36 f39
      go_at_call 20
      refine (same_any A3 t c3 A c (bs.take t) HTL.out _ (by rw [← HNT.out]; exact HJ.out) ((HI1.out.later hS).take t)).mono ?_
      rintro e wb ⟨rfl, hb⟩
      go_wp2_with fail
      refine hK.out _ _ (on hS hb) (fun _ => ?_)
      replace hS := on hS hb
      clear hK K
      change wpAnyH _ _ _ _ _ _ _ (a17.put (some 40) (.bool true)) _
      have hF' := fr_put hF 40 (.bool true) rfl (by decide)
      generalize hA18 : Act.put a17 (some 40) (.bool true) = a18 at hF' ⊢
      replace hF := hF'; clear hF'
      refine tk (i := 18) (d := 41) (v := .bool false) hF rfl rfl (by kernel_rfl) (by kernel_rfl) (by kernel_rfl) (fun _ _ _ h => h) (yi_want rfl rfl (fr_at hF 6 rfl) (fun W hW => by have f40 := fr_at hF 0 rfl; go_simp)) hS rfl (by decide) (fun a19 hA19 hF' => ?_)
      replace hF := hF'; clear hF'
      refine tk (i := 19) (d := 42) (v := .bool false) hF rfl rfl (by kernel_rfl) (by kernel_rfl) (by kernel_rfl) (fun _ _ _ h => h) (yi_want rfl rfl (fr_at hF 10 rfl) (fun W hW => by have f34 := fr_at hF 7 rfl; have f41 := fr_at hF 0 rfl; go_simp)) hS rfl (by decide) (fun a20 hA20 hF' => ?_)
      replace hF := hF'; clear hF'
      refine tk (i := 20) (d := 43) (v := .bool false) hF rfl rfl (by kernel_rfl) (by kernel_rfl) (by kernel_rfl) (fun _ _ _ h => h) (yi_go rfl (fun W hW => by have f31 := fr_at hF 11 rfl; have f42 := fr_at hF 0 rfl; go_simp)) hS rfl (by decide) (fun a21 hA21 hF' => ?_)
      replace hF := hF'; clear hF'
      refine tk (i := 21) (d := 44) (v := .bool false) hF rfl rfl (by kernel_rfl) (by kernel_rfl) (by kernel_rfl) (fun _ _ _ h => h) (yi_go rfl (fun W hW => ex_move W rfl (fr_at hF 0 rfl))) hS rfl (by decide) (fun a22 hA22 hF' => ?_)
      replace hF := hF'; clear hF'
      refine tk (i := 22) (d := 45) (v := .int .i64 0) hF rfl rfl (by kernel_rfl) (by kernel_rfl) (by kernel_rfl) (fun _ _ _ h => h) (yi_want rfl rfl (fr_at hF 0 rfl) (fun W hW => ex_move W rfl (fr_at hF 25 rfl))) hS rfl (by decide) (fun a23 hA23 hF' => ?_)
      replace hF := hF'; clear hF'
      refine tk (i := 23) (d := 46) (v := .bool false) hF rfl rfl (by kernel_rfl) (by kernel_rfl) (by kernel_rfl) (fun _ _ _ h => h) (yi_want rfl rfl (fr_at hF 1 rfl) (fun W hW => by have f45 := fr_at hF 0 rfl; go_simp)) hS rfl (by decide) (fun a24 hA24 hF' => ?_)
      replace hF := hF'; clear hF'
      refine tk (i := 24) (d := 47) (v := .bool false) hF rfl rfl (by kernel_rfl) (by kernel_rfl) (by kernel_rfl) (fun _ _ _ h => h) (yi_want rfl rfl (fr_at hF 2 rfl) (fun W hW => ex_move W rfl (fr_at hF 0 rfl))) hS rfl (by decide) (fun a25 hA25 hF' => ?_)
      replace hF := hF'; clear hF'
      refine tk (i := 25) (d := 48) (v := undef) hF rfl rfl (by kernel_rfl) (by kernel_rfl) (by kernel_rfl) (fun _ _ _ h => h) (yi_skip rfl rfl (fr_at hF 0 rfl)) hS rfl (by decide) (fun a26 hA26 hF' => ?_)
      replace hF := hF'; clear hF'
      refine tk (i := 26) (d := 49) (v := undef) hF rfl rfl (by kernel_rfl) (by kernel_rfl) (by kernel_rfl) (fun _ _ _ h => h) (yi_skip rfl rfl (fr_at hF 1 rfl)) hS rfl (by decide) (fun a27 hA27 hF' => ?_)
      replace hF := hF'; clear hF'
      refine tk (i := 27) (d := 50) (v := undef) hF rfl rfl (by kernel_rfl) (by kernel_rfl) (by kernel_rfl) (fun _ _ _ h => h) (yi_skip rfl rfl (fr_at hF 2 rfl)) hS rfl (by decide) (fun a28 hA28 hF' => ?_)
      replace hF := hF'; clear hF'
      refine tk (i := 28) (d := 51) (v := undef) hF rfl rfl (by kernel_rfl) (by kernel_rfl) (by kernel_rfl) (fun _ _ _ h => h) (yi_skipu rfl rfl (fr_at hF 0 rfl)) hS rfl (by decide) (fun a29 hA29 hF' => ?_)
      replace hF := hF'; clear hF'
      refine tk (i := 29) (d := 52) (v := undef) hF rfl rfl (by kernel_rfl) (by kernel_rfl) (by kernel_rfl) (fun _ _ _ h => h) (yi_skipu rfl rfl (fr_at hF 1 rfl)) hS rfl (by decide) (fun a30 hA30 hF' => ?_)
      replace hF := hF'; clear hF'
      refine tk (i := 30) (d := 53) (v := undef) hF rfl rfl (by kernel_rfl) (by kernel_rfl) (by kernel_rfl) (fun _ _ _ h => h) (yi_skip rfl rfl (fr_at hF 5 rfl)) hS rfl (by decide) (fun a31 hA31 hF' => ?_)
      replace hF := hF'; clear hF'
      refine tk (i := 31) (d := 54) (v := undef) hF rfl rfl (by kernel_rfl) (by kernel_rfl) (by kernel_rfl) (fun _ _ _ h => h) (yi_skip rfl rfl (fr_at hF 6 rfl)) hS rfl (by decide) (fun a32 hA32 hF' => ?_)
      replace hF := hF'; clear hF'
      refine tk (i := 32) (d := 55) (v := undef) hF rfl rfl (by kernel_rfl) (by kernel_rfl) (by kernel_rfl) (fun _ _ _ h => h) (yi_skipu rfl rfl (fr_at hF 0 rfl)) hS rfl (by decide) (fun a33 hA33 hF' => ?_)
      replace hF := hF'; clear hF'
      refine tk (i := 33) (d := 56) (v := undef) hF rfl rfl (by kernel_rfl) (by kernel_rfl) (by kernel_rfl) (fun _ _ _ h => h) (yi_skipu rfl rfl (fr_at hF 1 rfl)) hS rfl (by decide) (fun a34 hA34 hF' => ?_)
      replace hF := hF'; clear hF'
      refine tk (i := 34) (d := 57) (v := undef) hF rfl rfl (by kernel_rfl) (by kernel_rfl) (by kernel_rfl) (fun _ _ _ h => h) (yi_skipu rfl rfl (fr_at hF 2 rfl)) hS rfl (by decide) (fun a35 hA35 hF' => ?_)
      replace hF := hF'; clear hF'
      refine tk (i := 35) (d := 58) (v := undef) hF rfl rfl (by kernel_rfl) (by kernel_rfl) (by kernel_rfl) (fun _ _ _ h => h) (yi_skipu rfl rfl (fr_at hF 0 rfl)) hS rfl (by decide) (fun a36 hA36 hF' => ?_)
      replace hF := hF'; clear hF'
      refine tk (i := 36) (d := 59) (v := undef) hF rfl rfl (by kernel_rfl) (by kernel_rfl) (by kernel_rfl) (fun _ _ _ h => h) (yi_skipu rfl rfl (fr_at hF 1 rfl)) hS rfl (by decide) (fun a37 hA37 hF' => ?_)
      replace hF := hF'; clear hF'
      refine tk (i := 37) (d := 60) (v := undef) hF rfl rfl (by kernel_rfl) (by kernel_rfl) (by kernel_rfl) (fun _ _ _ h => h) (yi_skipu rfl rfl (fr_at hF 5 rfl)) hS rfl (by decide) (fun a38 hA38 hF' => ?_)
      replace hF := hF'; clear hF'
      refine tk (i := 38) (d := 61) (v := undef) hF rfl rfl (by kernel_rfl) (by kernel_rfl) (by kernel_rfl) (fun _ _ _ h => h) (yi_skip rfl rfl (fr_at hF 13 rfl)) hS rfl (by decide) (fun a39 hA39 hF' => ?_)
      replace hF := hF'; clear hF'
      refine tk (i := 39) (d := 62) (v := .bool false) hF rfl rfl (by kernel_rfl) (by kernel_rfl) (by kernel_rfl) (fun _ _ _ h => h) (yi_want rfl rfl (fr_at hF 17 rfl) (fun W hW => by have f47 := fr_at hF 14 rfl; have f61 := fr_at hF 0 rfl; go_simp)) hS rfl (by decide) (fun a40 hA40 hF' => ?_)
      replace hF := hF'; clear hF'
      refine tk (i := 40) (d := 63) (v := .bool false) hF rfl rfl (by kernel_rfl) (by kernel_rfl) (by kernel_rfl) (fun _ _ _ h => h) (yi_go rfl (fun W hW => by have f44 := fr_at hF 18 rfl; have f62 := fr_at hF 0 rfl; go_simp)) hS rfl (by decide) (fun a41 hA41 hF' => ?_)
      replace hF := hF'; clear hF'
      refine wpAnyH_done (by kernel_rfl) ?_ _
      rw [← hA41, ← hA40, ← hA39, ← hA38, ← hA37, ← hA36, ← hA35, ← hA34, ← hA33, ← hA32, ← hA31, ← hA30, ← hA29, ← hA28, ← hA27, ← hA26, ← hA25, ← hA24, ← hA23, ← hA22, ← hA21, ← hA20, ← hA19, ← hA18, ← hA17, ← hA16, ← hA15, ← hA14, ← hA13, ← hA12, ← hA11, ← hA10, ← hA9, ← hA8, ← hA7, ← hA6, ← hA5, ← hA4, ← hA3, ← hA2, ← hA1, ← hA0]
      simp only [Act.put, List.setIfInBounds_toArray, List.set_cons_zero, List.set_cons_succ]
      clear hF
      have HB2 := Lib.hid (on HB1.out hS)
      have HI2 := Lib.hid (HI1.out.later hS)
      clear hS
      clear l1 l2 l3 l4 htn htc HNT HNL HNB HTL HJ
      generalize wb = w2 at *
      go_wp2_with fail
      refine (text_any A n c bs HN.out HCAP.out w2 HI2.out).mono ?_
      rintro e wx ⟨rfl, rfl⟩
      unfold tupT
      rcases text_cases bs with ⟨t1, t2, t3, t4⟩ | ⟨t1, t2, t3⟩
      · obtain ⟨r, hr⟩ : ∃ r, r = text bs := ⟨_, rfl⟩
        rw [← hr] at t1 t2 t3 t4 ⊢
        clear hr
        obtain ⟨txt, p, f⟩ := r
        simp only at t1 t2 t3 t4 ⊢
        subst t1
        have hpn : p ≤ n := by have := HN.out; omega
        have hpc : p ≤ c := by have := HCAP.out; omega
        have HTP := Lib.hid (show [] ++ num txt.length ++ txt = bs.take p from t3)
        have HTX := Lib.hid (show txt.length ≤ 400000 by have := HN.out; omega)
        have HTL2 := Lib.hid (show p = (bs.take p).length by rw [List.length_take]; omega)
        have k1 : decide ((p : Int) < 0) = false := by simp
        have k2 : decide ((n : Int) < (p : Int)) = false := by simp; omega
        have k3 : decide (n < p) = false := by simp; omega
        have k4 : ¬ c < p := by omega
        clear t2 t3 t4
        go_wp2
        refine wp_region_held (S := fun W => Below w2.heap.size w2 W) (by kernel_rfl) ?_
        generalize hA0 : Act.mk _ _ = a0
        have hF := Fr.nil (n := 108) (a := a0) (by rw [← hA0]; rfl)
        replace hF := Fr.cons hF 8 (.int .i64 0) (by rw [← hA0]; rfl)
        replace hF := Fr.cons hF 7 (.int .i64 p) (by rw [← hA0]; rfl)
        replace hF := Fr.cons hF 6 (.string ⟨txt.toArray⟩) (by rw [← hA0]; rfl)
        replace hF := Fr.cons hF 0 (.slice A n c) (by rw [← hA0]; rfl)
        have hS : Below w2.heap.size w2 w2.drew := (Below.refl _ w2).drew
        change wpAnyH _ _ _ _ _ _ _ _ (World.drew _)
        refine tk (i := 0) (d := 98) (v := .int .i64 0) hF rfl rfl (by kernel_rfl) (by kernel_rfl) (by kernel_rfl) (fun _ _ _ h => h) (yi_go rfl (fun W hW => ex_move W rfl (fr_at hF 3 rfl))) hS rfl (by decide) (fun a1 hA1 hF' => ?_)
        replace hF := hF'; clear hF'
        refine tk (i := 1) (d := 99) (v := .bool false) hF rfl rfl (by kernel_rfl) (by kernel_rfl) (by kernel_rfl) (fun _ _ _ h => h) (yi_go rfl (fun W hW => by have f98 := fr_at hF 0 rfl; go_simp)) hS rfl (by decide) (fun a2 hA2 hF' => ?_)
        replace hF := hF'; clear hF'
        refine tk (i := 2) (d := 100) (v := .bool false) hF rfl rfl (by kernel_rfl) (by kernel_rfl) (by kernel_rfl) (fun _ _ _ h => h) (yi_go rfl (fun W hW => ex_move W rfl (fr_at hF 0 rfl))) hS rfl (by decide) (fun a3 hA3 hF' => ?_)
        replace hF := hF'; clear hF'
        refine tk (i := 3) (d := 101) (v := .string ⟨txt.toArray⟩) hF rfl rfl (by kernel_rfl) (by kernel_rfl) (by kernel_rfl) (fun _ _ _ h => h) (yi_want rfl rfl (fr_at hF 0 rfl) (fun W hW => ex_move W rfl (fr_at hF 4 rfl))) hS rfl (by decide) (fun a4 hA4 hF' => ?_)
        replace hF := hF'; clear hF'
        refine tk (i := 5) (d := 103) (v := .slice A n c) hF rfl rfl (by kernel_rfl) (by kernel_rfl) (by kernel_rfl) (fun _ _ _ h => h) (yi_want rfl rfl (fr_at hF 1 rfl) (fun W hW => ex_move W rfl (fr_at hF 4 rfl))) hS rfl (by decide) (fun a5 hA5 hF' => ?_)
        replace hF := hF'; clear hF'
        refine tk (i := 6) (d := 104) (v := .int .i64 p) hF rfl rfl (by kernel_rfl) (by kernel_rfl) (by kernel_rfl) (fun _ _ _ h => h) (yi_want rfl rfl (fr_at hF 2 rfl) (fun W hW => ex_move W rfl (fr_at hF 7 rfl))) hS rfl (by decide) (fun a6 hA6 hF' => ?_)
        replace hF := hF'; clear hF'
        refine tk (i := 7) (d := 105) (v := .slice A p c) hF rfl rfl (by kernel_rfl) (by kernel_rfl) (by kernel_rfl) (fun _ _ _ h => h) (yi_want rfl rfl (fr_at hF 3 rfl) (fun W hW => by have f103 := fr_at hF 1 rfl; have f104 := fr_at hF 0 rfl; go_simp)) hS rfl (by decide) (fun a7 hA7 hF' => ?_)
        replace hF := hF'; clear hF'
        refine wpAnyH_ready (rs := [4]) (by kernel_rfl) (by simp) ?_
        refine AllReadyH.cons rfl (fun K hK => ?_) AllReadyH.nil
        rw [if_pos (by rw [guard_at rfl rfl (fr_at hF 4 rfl)]; rfl)]
        have f101 := fr_at hF 3 rfl
        go_simp
        clear f101
        go_at_call 19
        refine (ptext_any none 0 0 [] rfl (by omega) txt HTX.out _ (bytes_none _ _)).mono ?_
        rintro e wa ⟨⟨v, rfl, hr⟩, hb⟩
        rw [HTP.out] at hr
        obtain ⟨A4, c4, rfl, _, hJ⟩ := hr.bytes
        rw [← HTL2.out]
        have HJ2 := Lib.hid hJ
        clear hr hJ
        go_wp2_with fail
        refine hK.out _ _ (on hS hb) (fun _ => ?_)
        replace hS := on hS hb
        clear hK K
        change wpAnyH _ _ _ _ _ _ _ (a7.put (some 102) (.slice A4 p c4)) _
        have hF' := fr_put hF 102 (.slice A4 p c4) rfl (by decide)
        generalize hA8 : Act.put a7 (some 102) (.slice A4 p c4) = a8 at hF' ⊢
        replace hF := hF'; clear hF'
        refine wpAnyH_ready (rs := [8]) (by kernel_rfl) (by simp) ?_
        refine AllReadyH.cons rfl (fun K hK => ?_) AllReadyH.nil
        rw [if_pos (by rw [guard_at rfl rfl (fr_at hF 5 rfl)]; rfl)]
        have f102 := fr_at hF 0 rfl
        have f105 := fr_at hF 1 rfl
        go_simp
        clear f102 f105
        go_at_call 20
        refine (same_any A4 p c4 A c (bs.take p) HTL2.out _ HJ2.out ((HI2.out.later hS).take p)).mono ?_
        rintro e wb ⟨rfl, hb⟩
        go_wp2_with fail
        refine hK.out _ _ (on hS hb) (fun _ => ?_)
        replace hS := on hS hb
        clear hK K
        change wpAnyH _ _ _ _ _ _ _ (a8.put (some 106) (.bool true)) _
        have hF' := fr_put hF 106 (.bool true) rfl (by decide)
        generalize hA9 : Act.put a8 (some 106) (.bool true) = a9 at hF' ⊢
        replace hF := hF'; clear hF'
        refine tk (i := 9) (d := 107) (v := .bool true) hF rfl rfl (by kernel_rfl) (by kernel_rfl) (by kernel_rfl) (fun _ _ _ h => h) (yi_go rfl (fun W hW => by have f100 := fr_at hF 6 rfl; have f106 := fr_at hF 0 rfl; go_simp)) hS rfl (by decide) (fun a10 hA10 hF' => ?_)
        replace hF := hF'; clear hF'
        refine tk (i := 10) (d := 2) (v := .bool true) hF rfl rfl (by kernel_rfl) (by kernel_rfl) (by kernel_rfl) (fun _ _ _ h => h) (yi_go rfl (fun W hW => ex_assign W rfl (fr_at hF 0 rfl))) hS rfl (by decide) (fun a11 hA11 hF' => ?_)
        replace hF := hF'; clear hF'
        refine wpAnyH_done (by kernel_rfl) ?_ _
        rw [← hA11, ← hA10, ← hA9, ← hA8, ← hA7, ← hA6, ← hA5, ← hA4, ← hA3, ← hA2, ← hA1, ← hA0]
        simp only [Act.put, List.setIfInBounds_toArray, List.set_cons_zero, List.set_cons_succ]
        clear hF
        have HB3 := Lib.hid (on HB2.out hS)
        clear hS
        go_wp2
        go_ret
        exact ⟨rfl, HB3.out⟩
      · obtain ⟨r, hr⟩ : ∃ r, r = text bs := ⟨_, rfl⟩
        rw [← hr] at t1 t2 t3 ⊢
        clear hr
        obtain ⟨txt, p, f⟩ := r
        simp only at t1 t2 t3 ⊢
        subst t1
        subst t2
        rcases t3 with t3 | t3
        · subst t3
          go_wp2
          refine wp_region_held (S := fun W => Below w2.heap.size w2 W) (by kernel_rfl) ?_
          generalize hA0 : Act.mk _ _ = a0
          have hF := Fr.nil (n := 108) (a := a0) (by rw [← hA0]; rfl)
          replace hF := Fr.cons hF 8 (.int .i64 4) (by rw [← hA0]; rfl)
          replace hF := Fr.cons hF 7 (.int .i64 0) (by rw [← hA0]; rfl)
          replace hF := Fr.cons hF 6 (.string ⟨#[]⟩) (by rw [← hA0]; rfl)
          replace hF := Fr.cons hF 0 (.slice A n c) (by rw [← hA0]; rfl)
          have hS : Below w2.heap.size w2 w2.drew := (Below.refl _ w2).drew
          change wpAnyH _ _ _ _ _ _ _ _ (World.drew _)
          refine tk (i := 0) (d := 98) (v := .int .i64 4) hF rfl rfl (by kernel_rfl) (by kernel_rfl) (by kernel_rfl) (fun _ _ _ h => h) (yi_go rfl (fun W hW => ex_move W rfl (fr_at hF 3 rfl))) hS rfl (by decide) (fun a1 hA1 hF' => ?_)
          replace hF := hF'; clear hF'
          refine tk (i := 1) (d := 99) (v := .bool true) hF rfl rfl (by kernel_rfl) (by kernel_rfl) (by kernel_rfl) (fun _ _ _ h => h) (yi_go rfl (fun W hW => by have f98 := fr_at hF 0 rfl; go_simp)) hS rfl (by decide) (fun a2 hA2 hF' => ?_)
          replace hF := hF'; clear hF'
          refine tk (i := 2) (d := 100) (v := .bool true) hF rfl rfl (by kernel_rfl) (by kernel_rfl) (by kernel_rfl) (fun _ _ _ h => h) (yi_go rfl (fun W hW => ex_move W rfl (fr_at hF 0 rfl))) hS rfl (by decide) (fun a3 hA3 hF' => ?_)
          replace hF := hF'; clear hF'
          refine tk (i := 3) (d := 101) (v := undef) hF rfl rfl (by kernel_rfl) (by kernel_rfl) (by kernel_rfl) (fun _ _ _ h => h) (yi_skip rfl rfl (fr_at hF 0 rfl)) hS rfl (by decide) (fun a4 hA4 hF' => ?_)
          replace hF := hF'; clear hF'
          refine tk (i := 5) (d := 103) (v := undef) hF rfl rfl (by kernel_rfl) (by kernel_rfl) (by kernel_rfl) (fun _ _ _ h => h) (yi_skip rfl rfl (fr_at hF 1 rfl)) hS rfl (by decide) (fun a5 hA5 hF' => ?_)
          replace hF := hF'; clear hF'
          refine tk (i := 6) (d := 104) (v := undef) hF rfl rfl (by kernel_rfl) (by kernel_rfl) (by kernel_rfl) (fun _ _ _ h => h) (yi_skip rfl rfl (fr_at hF 2 rfl)) hS rfl (by decide) (fun a6 hA6 hF' => ?_)
          replace hF := hF'; clear hF'
          refine tk (i := 7) (d := 105) (v := undef) hF rfl rfl (by kernel_rfl) (by kernel_rfl) (by kernel_rfl) (fun _ _ _ h => h) (yi_skip rfl rfl (fr_at hF 3 rfl)) hS rfl (by decide) (fun a7 hA7 hF' => ?_)
          replace hF := hF'; clear hF'
          refine tk (i := 4) (d := 102) (v := undef) hF rfl rfl (by kernel_rfl) (by kernel_rfl) (by kernel_rfl) (fun _ _ _ h => h) (yi_skip rfl rfl (fr_at hF 4 rfl)) hS rfl (by decide) (fun a8 hA8 hF' => ?_)
          replace hF := hF'; clear hF'
          refine tk (i := 8) (d := 106) (v := undef) hF rfl rfl (by kernel_rfl) (by kernel_rfl) (by kernel_rfl) (fun _ _ _ h => h) (yi_skip rfl rfl (fr_at hF 5 rfl)) hS rfl (by decide) (fun a9 hA9 hF' => ?_)
          replace hF := hF'; clear hF'
          refine tk (i := 9) (d := 107) (v := .bool true) hF rfl rfl (by kernel_rfl) (by kernel_rfl) (by kernel_rfl) (fun _ _ _ h => h) (yi_go rfl (fun W hW => by have f100 := fr_at hF 6 rfl; have f106 := fr_at hF 0 rfl; go_simp)) hS rfl (by decide) (fun a10 hA10 hF' => ?_)
          replace hF := hF'; clear hF'
          refine tk (i := 10) (d := 2) (v := .bool true) hF rfl rfl (by kernel_rfl) (by kernel_rfl) (by kernel_rfl) (fun _ _ _ h => h) (yi_go rfl (fun W hW => ex_assign W rfl (fr_at hF 0 rfl))) hS rfl (by decide) (fun a11 hA11 hF' => ?_)
          replace hF := hF'; clear hF'
          refine wpAnyH_done (by kernel_rfl) ?_ _
          rw [← hA11, ← hA10, ← hA9, ← hA8, ← hA7, ← hA6, ← hA5, ← hA4, ← hA3, ← hA2, ← hA1, ← hA0]
          simp only [Act.put, List.setIfInBounds_toArray, List.set_cons_zero, List.set_cons_succ]
          clear hF
          have HB3 := Lib.hid (on HB2.out hS)
          clear hS
          go_wp2
          go_ret
          exact ⟨rfl, HB3.out⟩
        · subst t3
          go_wp2
          refine wp_region_held (S := fun W => Below w2.heap.size w2 W) (by kernel_rfl) ?_
          generalize hA0 : Act.mk _ _ = a0
          have hF := Fr.nil (n := 108) (a := a0) (by rw [← hA0]; rfl)
          replace hF := Fr.cons hF 8 (.int .i64 5) (by rw [← hA0]; rfl)
          replace hF := Fr.cons hF 7 (.int .i64 0) (by rw [← hA0]; rfl)
          replace hF := Fr.cons hF 6 (.string ⟨#[]⟩) (by rw [← hA0]; rfl)
          replace hF := Fr.cons hF 0 (.slice A n c) (by rw [← hA0]; rfl)
          have hS : Below w2.heap.size w2 w2.drew := (Below.refl _ w2).drew
          change wpAnyH _ _ _ _ _ _ _ _ (World.drew _)
          refine tk (i := 0) (d := 98) (v := .int .i64 5) hF rfl rfl (by kernel_rfl) (by kernel_rfl) (by kernel_rfl) (fun _ _ _ h => h) (yi_go rfl (fun W hW => ex_move W rfl (fr_at hF 3 rfl))) hS rfl (by decide) (fun a1 hA1 hF' => ?_)
          replace hF := hF'; clear hF'
          refine tk (i := 1) (d := 99) (v := .bool true) hF rfl rfl (by kernel_rfl) (by kernel_rfl) (by kernel_rfl) (fun _ _ _ h => h) (yi_go rfl (fun W hW => by have f98 := fr_at hF 0 rfl; go_simp)) hS rfl (by decide) (fun a2 hA2 hF' => ?_)
          replace hF := hF'; clear hF'
          refine tk (i := 2) (d := 100) (v := .bool true) hF rfl rfl (by kernel_rfl) (by kernel_rfl) (by kernel_rfl) (fun _ _ _ h => h) (yi_go rfl (fun W hW => ex_move W rfl (fr_at hF 0 rfl))) hS rfl (by decide) (fun a3 hA3 hF' => ?_)
          replace hF := hF'; clear hF'
          refine tk (i := 3) (d := 101) (v := undef) hF rfl rfl (by kernel_rfl) (by kernel_rfl) (by kernel_rfl) (fun _ _ _ h => h) (yi_skip rfl rfl (fr_at hF 0 rfl)) hS rfl (by decide) (fun a4 hA4 hF' => ?_)
          replace hF := hF'; clear hF'
          refine tk (i := 5) (d := 103) (v := undef) hF rfl rfl (by kernel_rfl) (by kernel_rfl) (by kernel_rfl) (fun _ _ _ h => h) (yi_skip rfl rfl (fr_at hF 1 rfl)) hS rfl (by decide) (fun a5 hA5 hF' => ?_)
          replace hF := hF'; clear hF'
          refine tk (i := 6) (d := 104) (v := undef) hF rfl rfl (by kernel_rfl) (by kernel_rfl) (by kernel_rfl) (fun _ _ _ h => h) (yi_skip rfl rfl (fr_at hF 2 rfl)) hS rfl (by decide) (fun a6 hA6 hF' => ?_)
          replace hF := hF'; clear hF'
          refine tk (i := 7) (d := 105) (v := undef) hF rfl rfl (by kernel_rfl) (by kernel_rfl) (by kernel_rfl) (fun _ _ _ h => h) (yi_skip rfl rfl (fr_at hF 3 rfl)) hS rfl (by decide) (fun a7 hA7 hF' => ?_)
          replace hF := hF'; clear hF'
          refine tk (i := 4) (d := 102) (v := undef) hF rfl rfl (by kernel_rfl) (by kernel_rfl) (by kernel_rfl) (fun _ _ _ h => h) (yi_skip rfl rfl (fr_at hF 4 rfl)) hS rfl (by decide) (fun a8 hA8 hF' => ?_)
          replace hF := hF'; clear hF'
          refine tk (i := 8) (d := 106) (v := undef) hF rfl rfl (by kernel_rfl) (by kernel_rfl) (by kernel_rfl) (fun _ _ _ h => h) (yi_skip rfl rfl (fr_at hF 5 rfl)) hS rfl (by decide) (fun a9 hA9 hF' => ?_)
          replace hF := hF'; clear hF'
          refine tk (i := 9) (d := 107) (v := .bool true) hF rfl rfl (by kernel_rfl) (by kernel_rfl) (by kernel_rfl) (fun _ _ _ h => h) (yi_go rfl (fun W hW => by have f100 := fr_at hF 6 rfl; have f106 := fr_at hF 0 rfl; go_simp)) hS rfl (by decide) (fun a10 hA10 hF' => ?_)
          replace hF := hF'; clear hF'
          refine tk (i := 10) (d := 2) (v := .bool true) hF rfl rfl (by kernel_rfl) (by kernel_rfl) (by kernel_rfl) (fun _ _ _ h => h) (yi_go rfl (fun W hW => ex_assign W rfl (fr_at hF 0 rfl))) hS rfl (by decide) (fun a11 hA11 hF' => ?_)
          replace hF := hF'; clear hF'
          refine wpAnyH_done (by kernel_rfl) ?_ _
          rw [← hA11, ← hA10, ← hA9, ← hA8, ← hA7, ← hA6, ← hA5, ← hA4, ← hA3, ← hA2, ← hA1, ← hA0]
          simp only [Act.put, List.setIfInBounds_toArray, List.set_cons_zero, List.set_cons_succ]
          clear hF
          have HB3 := Lib.hid (on HB2.out hS)
          clear hS
          go_wp2
          go_ret
          exact ⟨rfl, HB3.out⟩
    · subst z1
      subst z2
      clear htk hlt hng hnl
      rcases z3 with z3 | z3
      · subst z3
        go_wp2
        refine wp_region_held (S := fun W => Below w1.heap.size w1 W) (by kernel_rfl) ?_
        generalize hA0 : Act.mk _ _ = a0
        have hF := Fr.nil (n := 108) (a := a0) (by rw [← hA0]; rfl)
        replace hF := Fr.cons hF 5 (.int .i64 4) (by rw [← hA0]; rfl)
        replace hF := Fr.cons hF 4 (.int .i64 0) (by rw [← hA0]; rfl)
        replace hF := Fr.cons hF 3 (.int .u64 0) (by rw [← hA0]; rfl)
        replace hF := Fr.cons hF 0 (.slice A n c) (by rw [← hA0]; rfl)
        have hS : Below w1.heap.size w1 w1.drew := (Below.refl _ w1).drew
        change wpAnyH _ _ _ _ _ _ _ _ (World.drew _)
        refine tk (i := 0) (d := 23) (v := .int .i64 0) hF rfl rfl (by kernel_rfl) (by kernel_rfl) (by kernel_rfl) (fun _ _ _ h => h) (yi_go rfl (fun W hW => ex_move W rfl (fr_at hF 2 rfl))) hS rfl (by decide) (fun a1 hA1 hF' => ?_)
        replace hF := hF'; clear hF'
        refine tk (i := 1) (d := 24) (v := .bool false) hF rfl rfl (by kernel_rfl) (by kernel_rfl) (by kernel_rfl) (fun _ _ _ h => h) (yi_go rfl (fun W hW => by have f23 := fr_at hF 0 rfl; go_simp)) hS rfl (by decide) (fun a2 hA2 hF' => ?_)
        replace hF := hF'; clear hF'
        refine tk (i := 2) (d := 25) (v := .bool false) hF rfl rfl (by kernel_rfl) (by kernel_rfl) (by kernel_rfl) (fun _ _ _ h => h) (yi_go rfl (fun W hW => ex_move W rfl (fr_at hF 0 rfl))) hS rfl (by decide) (fun a3 hA3 hF' => ?_)
        replace hF := hF'; clear hF'
        refine tk (i := 3) (d := 26) (v := .int .i64 0) hF rfl rfl (by kernel_rfl) (by kernel_rfl) (by kernel_rfl) (fun _ _ _ h => h) (yi_want rfl rfl (fr_at hF 0 rfl) (fun W hW => ex_move W rfl (fr_at hF 5 rfl))) hS rfl (by decide) (fun a4 hA4 hF' => ?_)
        replace hF := hF'; clear hF'
        refine tk (i := 4) (d := 27) (v := .slice A n c) hF rfl rfl (by kernel_rfl) (by kernel_rfl) (by kernel_rfl) (fun _ _ _ h => h) (yi_want rfl rfl (fr_at hF 1 rfl) (fun W hW => ex_move W rfl (fr_at hF 4 rfl))) hS rfl (by decide) (fun a5 hA5 hF' => ?_)
        replace hF := hF'; clear hF'
        refine tk (i := 5) (d := 28) (v := .int .i64 n) hF rfl rfl (by kernel_rfl) (by kernel_rfl) (by kernel_rfl) (fun _ _ _ h => h) (yi_want rfl rfl (fr_at hF 2 rfl) (fun W hW => by have f27 := fr_at hF 0 rfl; go_simp)) hS rfl (by decide) (fun a6 hA6 hF' => ?_)
        replace hF := hF'; clear hF'
        refine tk (i := 6) (d := 29) (v := .bool false) hF rfl rfl (by kernel_rfl) (by kernel_rfl) (by kernel_rfl) (fun _ _ _ h => h) (yi_want rfl rfl (fr_at hF 3 rfl) (fun W hW => by have f26 := fr_at hF 2 rfl; have f28 := fr_at hF 0 rfl; go_simp)) hS rfl (by decide) (fun a7 hA7 hF' => ?_)
        replace hF := hF'; clear hF'
        refine tk (i := 7) (d := 30) (v := .bool false) hF rfl rfl (by kernel_rfl) (by kernel_rfl) (by kernel_rfl) (fun _ _ _ h => h) (yi_go rfl (fun W hW => by have f25 := fr_at hF 4 rfl; have f29 := fr_at hF 0 rfl; go_simp)) hS rfl (by decide) (fun a8 hA8 hF' => ?_)
        replace hF := hF'; clear hF'
        refine tk (i := 8) (d := 31) (v := .bool false) hF rfl rfl (by kernel_rfl) (by kernel_rfl) (by kernel_rfl) (fun _ _ _ h => h) (yi_go rfl (fun W hW => ex_move W rfl (fr_at hF 0 rfl))) hS rfl (by decide) (fun a9 hA9 hF' => ?_)
        replace hF := hF'; clear hF'
        refine tk (i := 9) (d := 32) (v := .int .i64 4) hF rfl rfl (by kernel_rfl) (by kernel_rfl) (by kernel_rfl) (fun _ _ _ h => h) (yi_want rfl rfl (fr_at hF 0 rfl) (fun W hW => ex_move W rfl (fr_at hF 12 rfl))) hS rfl (by decide) (fun a10 hA10 hF' => ?_)
        replace hF := hF'; clear hF'
        refine tk (i := 10) (d := 33) (v := .bool false) hF rfl rfl (by kernel_rfl) (by kernel_rfl) (by kernel_rfl) (fun _ _ _ h => h) (yi_want rfl rfl (fr_at hF 1 rfl) (fun W hW => by have f32 := fr_at hF 0 rfl; go_simp)) hS rfl (by decide) (fun a11 hA11 hF' => ?_)
        replace hF := hF'; clear hF'
        refine tk (i := 11) (d := 34) (v := .bool false) hF rfl rfl (by kernel_rfl) (by kernel_rfl) (by kernel_rfl) (fun _ _ _ h => h) (yi_want rfl rfl (fr_at hF 2 rfl) (fun W hW => ex_move W rfl (fr_at hF 0 rfl))) hS rfl (by decide) (fun a12 hA12 hF' => ?_)
        replace hF := hF'; clear hF'
        refine tk (i := 12) (d := 35) (v := undef) hF rfl rfl (by kernel_rfl) (by kernel_rfl) (by kernel_rfl) (fun _ _ _ h => h) (yi_skip rfl rfl (fr_at hF 0 rfl)) hS rfl (by decide) (fun a13 hA13 hF' => ?_)
        replace hF := hF'; clear hF'
        refine tk (i := 14) (d := 37) (v := undef) hF rfl rfl (by kernel_rfl) (by kernel_rfl) (by kernel_rfl) (fun _ _ _ h => h) (yi_skip rfl rfl (fr_at hF 1 rfl)) hS rfl (by decide) (fun a14 hA14 hF' => ?_)
        replace hF := hF'; clear hF'
        refine tk (i := 15) (d := 38) (v := undef) hF rfl rfl (by kernel_rfl) (by kernel_rfl) (by kernel_rfl) (fun _ _ _ h => h) (yi_skip rfl rfl (fr_at hF 2 rfl)) hS rfl (by decide) (fun a15 hA15 hF' => ?_)
        replace hF := hF'; clear hF'
        refine tk (i := 16) (d := 39) (v := undef) hF rfl rfl (by kernel_rfl) (by kernel_rfl) (by kernel_rfl) (fun _ _ _ h => h) (yi_skip rfl rfl (fr_at hF 3 rfl)) hS rfl (by decide) (fun a16 hA16 hF' => ?_)
        replace hF := hF'; clear hF'
        refine tk (i := 13) (d := 36) (v := undef) hF rfl rfl (by kernel_rfl) (by kernel_rfl) (by kernel_rfl) (fun _ _ _ h => h) (yi_skip rfl rfl (fr_at hF 4 rfl)) hS rfl (by decide) (fun a17 hA17 hF' => ?_)
        replace hF := hF'; clear hF'
        refine tk (i := 17) (d := 40) (v := undef) hF rfl rfl (by kernel_rfl) (by kernel_rfl) (by kernel_rfl) (fun _ _ _ h => h) (yi_skip rfl rfl (fr_at hF 5 rfl)) hS rfl (by decide) (fun a18 hA18 hF' => ?_)
        replace hF := hF'; clear hF'
        refine tk (i := 18) (d := 41) (v := undef) hF rfl rfl (by kernel_rfl) (by kernel_rfl) (by kernel_rfl) (fun _ _ _ h => h) (yi_skip rfl rfl (fr_at hF 6 rfl)) hS rfl (by decide) (fun a19 hA19 hF' => ?_)
        replace hF := hF'; clear hF'
        refine tk (i := 19) (d := 42) (v := .bool false) hF rfl rfl (by kernel_rfl) (by kernel_rfl) (by kernel_rfl) (fun _ _ _ h => h) (yi_want rfl rfl (fr_at hF 10 rfl) (fun W hW => by have f34 := fr_at hF 7 rfl; have f41 := fr_at hF 0 rfl; go_simp)) hS rfl (by decide) (fun a20 hA20 hF' => ?_)
        replace hF := hF'; clear hF'
        refine tk (i := 20) (d := 43) (v := .bool false) hF rfl rfl (by kernel_rfl) (by kernel_rfl) (by kernel_rfl) (fun _ _ _ h => h) (yi_go rfl (fun W hW => by have f31 := fr_at hF 11 rfl; have f42 := fr_at hF 0 rfl; go_simp)) hS rfl (by decide) (fun a21 hA21 hF' => ?_)
        replace hF := hF'; clear hF'
        refine tk (i := 21) (d := 44) (v := .bool false) hF rfl rfl (by kernel_rfl) (by kernel_rfl) (by kernel_rfl) (fun _ _ _ h => h) (yi_go rfl (fun W hW => ex_move W rfl (fr_at hF 0 rfl))) hS rfl (by decide) (fun a22 hA22 hF' => ?_)
        replace hF := hF'; clear hF'
        refine tk (i := 22) (d := 45) (v := .int .i64 4) hF rfl rfl (by kernel_rfl) (by kernel_rfl) (by kernel_rfl) (fun _ _ _ h => h) (yi_want rfl rfl (fr_at hF 0 rfl) (fun W hW => ex_move W rfl (fr_at hF 25 rfl))) hS rfl (by decide) (fun a23 hA23 hF' => ?_)
        replace hF := hF'; clear hF'
        refine tk (i := 23) (d := 46) (v := .bool true) hF rfl rfl (by kernel_rfl) (by kernel_rfl) (by kernel_rfl) (fun _ _ _ h => h) (yi_want rfl rfl (fr_at hF 1 rfl) (fun W hW => by have f45 := fr_at hF 0 rfl; go_simp)) hS rfl (by decide) (fun a24 hA24 hF' => ?_)
        replace hF := hF'; clear hF'
        refine tk (i := 24) (d := 47) (v := .bool true) hF rfl rfl (by kernel_rfl) (by kernel_rfl) (by kernel_rfl) (fun _ _ _ h => h) (yi_want rfl rfl (fr_at hF 2 rfl) (fun W hW => ex_move W rfl (fr_at hF 0 rfl))) hS rfl (by decide) (fun a25 hA25 hF' => ?_)
        replace hF := hF'; clear hF'
        refine tk (i := 25) (d := 48) (v := .int .u64 0) hF rfl rfl (by kernel_rfl) (by kernel_rfl) (by kernel_rfl) (fun _ _ _ h => h) (yi_want rfl rfl (fr_at hF 0 rfl) (fun W hW => ex_move W rfl (fr_at hF 26 rfl))) hS rfl (by decide) (fun a26 hA26 hF' => ?_)
        replace hF := hF'; clear hF'
        refine tk (i := 26) (d := 49) (v := .bool false) hF rfl rfl (by kernel_rfl) (by kernel_rfl) (by kernel_rfl) (fun _ _ _ h => h) (yi_want rfl rfl (fr_at hF 1 rfl) (fun W hW => by have f48 := fr_at hF 0 rfl; go_simp)) hS rfl (by decide) (fun a27 hA27 hF' => ?_)
        replace hF := hF'; clear hF'
        refine tk (i := 27) (d := 50) (v := .bool false) hF rfl rfl (by kernel_rfl) (by kernel_rfl) (by kernel_rfl) (fun _ _ _ h => h) (yi_want rfl rfl (fr_at hF 2 rfl) (fun W hW => ex_move W rfl (fr_at hF 0 rfl))) hS rfl (by decide) (fun a28 hA28 hF' => ?_)
        replace hF := hF'; clear hF'
        refine tk (i := 28) (d := 51) (v := .int .i64 0) hF rfl rfl (by kernel_rfl) (by kernel_rfl) (by kernel_rfl) (fun _ _ _ h => h) (yi_want rfl rfl (fr_at hF 0 rfl) (fun W hW => ex_move W rfl (fr_at hF 30 rfl))) hS rfl (by decide) (fun a29 hA29 hF' => ?_)
        replace hF := hF'; clear hF'
        refine tk (i := 29) (d := 52) (v := .bool false) hF rfl rfl (by kernel_rfl) (by kernel_rfl) (by kernel_rfl) (fun _ _ _ h => h) (yi_want rfl rfl (fr_at hF 1 rfl) (fun W hW => by have f51 := fr_at hF 0 rfl; go_simp)) hS rfl (by decide) (fun a30 hA30 hF' => ?_)
        replace hF := hF'; clear hF'
        refine tk (i := 30) (d := 53) (v := .bool false) hF rfl rfl (by kernel_rfl) (by kernel_rfl) (by kernel_rfl) (fun _ _ _ h => h) (yi_want rfl rfl (fr_at hF 5 rfl) (fun W hW => by have f50 := fr_at hF 2 rfl; have f52 := fr_at hF 0 rfl; go_simp)) hS rfl (by decide) (fun a31 hA31 hF' => ?_)
        replace hF := hF'; clear hF'
        refine tk (i := 31) (d := 54) (v := .bool false) hF rfl rfl (by kernel_rfl) (by kernel_rfl) (by kernel_rfl) (fun _ _ _ h => h) (yi_want rfl rfl (fr_at hF 6 rfl) (fun W hW => ex_move W rfl (fr_at hF 0 rfl))) hS rfl (by decide) (fun a32 hA32 hF' => ?_)
        replace hF := hF'; clear hF'
        refine tk (i := 32) (d := 55) (v := .int .i64 4) hF rfl rfl (by kernel_rfl) (by kernel_rfl) (by kernel_rfl) (fun _ _ _ h => h) (yi_want rfl rfl (fr_at hF 0 rfl) (fun W hW => ex_move W rfl (fr_at hF 35 rfl))) hS rfl (by decide) (fun a33 hA33 hF' => ?_)
        replace hF := hF'; clear hF'
        refine tk (i := 33) (d := 56) (v := .bool true) hF rfl rfl (by kernel_rfl) (by kernel_rfl) (by kernel_rfl) (fun _ _ _ h => h) (yi_want rfl rfl (fr_at hF 1 rfl) (fun W hW => by have f55 := fr_at hF 0 rfl; go_simp)) hS rfl (by decide) (fun a34 hA34 hF' => ?_)
        replace hF := hF'; clear hF'
        refine tk (i := 34) (d := 57) (v := .bool true) hF rfl rfl (by kernel_rfl) (by kernel_rfl) (by kernel_rfl) (fun _ _ _ h => h) (yi_want rfl rfl (fr_at hF 2 rfl) (fun W hW => ex_move W rfl (fr_at hF 0 rfl))) hS rfl (by decide) (fun a35 hA35 hF' => ?_)
        replace hF := hF'; clear hF'
        refine tk (i := 35) (d := 58) (v := .int .i64 4) hF rfl rfl (by kernel_rfl) (by kernel_rfl) (by kernel_rfl) (fun _ _ _ h => h) (yi_want rfl rfl (fr_at hF 0 rfl) (fun W hW => ex_move W rfl (fr_at hF 38 rfl))) hS rfl (by decide) (fun a36 hA36 hF' => ?_)
        replace hF := hF'; clear hF'
        refine tk (i := 36) (d := 59) (v := .bool false) hF rfl rfl (by kernel_rfl) (by kernel_rfl) (by kernel_rfl) (fun _ _ _ h => h) (yi_want rfl rfl (fr_at hF 1 rfl) (fun W hW => by have f58 := fr_at hF 0 rfl; go_simp)) hS rfl (by decide) (fun a37 hA37 hF' => ?_)
        replace hF := hF'; clear hF'
        refine tk (i := 37) (d := 60) (v := .bool false) hF rfl rfl (by kernel_rfl) (by kernel_rfl) (by kernel_rfl) (fun _ _ _ h => h) (yi_want rfl rfl (fr_at hF 5 rfl) (fun W hW => by have f57 := fr_at hF 2 rfl; have f59 := fr_at hF 0 rfl; go_simp)) hS rfl (by decide) (fun a38 hA38 hF' => ?_)
        replace hF := hF'; clear hF'
        refine tk (i := 38) (d := 61) (v := .bool false) hF rfl rfl (by kernel_rfl) (by kernel_rfl) (by kernel_rfl) (fun _ _ _ h => h) (yi_want rfl rfl (fr_at hF 13 rfl) (fun W hW => by have f54 := fr_at hF 6 rfl; have f60 := fr_at hF 0 rfl; go_simp)) hS rfl (by decide) (fun a39 hA39 hF' => ?_)
        replace hF := hF'; clear hF'
        refine tk (i := 39) (d := 62) (v := .bool false) hF rfl rfl (by kernel_rfl) (by kernel_rfl) (by kernel_rfl) (fun _ _ _ h => h) (yi_want rfl rfl (fr_at hF 17 rfl) (fun W hW => by have f47 := fr_at hF 14 rfl; have f61 := fr_at hF 0 rfl; go_simp)) hS rfl (by decide) (fun a40 hA40 hF' => ?_)
        replace hF := hF'; clear hF'
        refine tk (i := 40) (d := 63) (v := .bool false) hF rfl rfl (by kernel_rfl) (by kernel_rfl) (by kernel_rfl) (fun _ _ _ h => h) (yi_go rfl (fun W hW => by have f44 := fr_at hF 18 rfl; have f62 := fr_at hF 0 rfl; go_simp)) hS rfl (by decide) (fun a41 hA41 hF' => ?_)
        replace hF := hF'; clear hF'
        refine wpAnyH_done (by kernel_rfl) ?_ _
        rw [← hA41, ← hA40, ← hA39, ← hA38, ← hA37, ← hA36, ← hA35, ← hA34, ← hA33, ← hA32, ← hA31, ← hA30, ← hA29, ← hA28, ← hA27, ← hA26, ← hA25, ← hA24, ← hA23, ← hA22, ← hA21, ← hA20, ← hA19, ← hA18, ← hA17, ← hA16, ← hA15, ← hA14, ← hA13, ← hA12, ← hA11, ← hA10, ← hA9, ← hA8, ← hA7, ← hA6, ← hA5, ← hA4, ← hA3, ← hA2, ← hA1, ← hA0]
        simp only [Act.put, List.setIfInBounds_toArray, List.set_cons_zero, List.set_cons_succ]
        clear hF
        have HB2 := Lib.hid (on HB1.out hS)
        have HI2 := Lib.hid (HI1.out.later hS)
        clear hS
        generalize w1.drew = w2 at *
        go_wp2_with fail
        refine (text_any A n c bs HN.out HCAP.out w2 HI2.out).mono ?_
        rintro e wx ⟨rfl, rfl⟩
        unfold tupT
        rcases text_cases bs with ⟨t1, t2, t3, t4⟩ | ⟨t1, t2, t3⟩
        · obtain ⟨r, hr⟩ : ∃ r, r = text bs := ⟨_, rfl⟩
          rw [← hr] at t1 t2 t3 t4 ⊢
          clear hr
          obtain ⟨txt, p, f⟩ := r
          simp only at t1 t2 t3 t4 ⊢
          subst t1
          have hpn : p ≤ n := by have := HN.out; omega
          have hpc : p ≤ c := by have := HCAP.out; omega
          have HTP := Lib.hid (show [] ++ num txt.length ++ txt = bs.take p from t3)
          have HTX := Lib.hid (show txt.length ≤ 400000 by have := HN.out; omega)
          have HTL2 := Lib.hid (show p = (bs.take p).length by rw [List.length_take]; omega)
          have k1 : decide ((p : Int) < 0) = false := by simp
          have k2 : decide ((n : Int) < (p : Int)) = false := by simp; omega
          have k3 : decide (n < p) = false := by simp; omega
          have k4 : ¬ c < p := by omega
          clear t2 t3 t4
          go_wp2
          refine wp_region_held (S := fun W => Below w2.heap.size w2 W) (by kernel_rfl) ?_
          generalize hA0 : Act.mk _ _ = a0
          have hF := Fr.nil (n := 108) (a := a0) (by rw [← hA0]; rfl)
          replace hF := Fr.cons hF 8 (.int .i64 0) (by rw [← hA0]; rfl)
          replace hF := Fr.cons hF 7 (.int .i64 p) (by rw [← hA0]; rfl)
          replace hF := Fr.cons hF 6 (.string ⟨txt.toArray⟩) (by rw [← hA0]; rfl)
          replace hF := Fr.cons hF 0 (.slice A n c) (by rw [← hA0]; rfl)
          have hS : Below w2.heap.size w2 w2.drew := (Below.refl _ w2).drew
          change wpAnyH _ _ _ _ _ _ _ _ (World.drew _)
          refine tk (i := 0) (d := 98) (v := .int .i64 0) hF rfl rfl (by kernel_rfl) (by kernel_rfl) (by kernel_rfl) (fun _ _ _ h => h) (yi_go rfl (fun W hW => ex_move W rfl (fr_at hF 3 rfl))) hS rfl (by decide) (fun a1 hA1 hF' => ?_)
          replace hF := hF'; clear hF'
          refine tk (i := 1) (d := 99) (v := .bool false) hF rfl rfl (by kernel_rfl) (by kernel_rfl) (by kernel_rfl) (fun _ _ _ h => h) (yi_go rfl (fun W hW => by have f98 := fr_at hF 0 rfl; go_simp)) hS rfl (by decide) (fun a2 hA2 hF' => ?_)
          replace hF := hF'; clear hF'
          refine tk (i := 2) (d := 100) (v := .bool false) hF rfl rfl (by kernel_rfl) (by kernel_rfl) (by kernel_rfl) (fun _ _ _ h => h) (yi_go rfl (fun W hW => ex_move W rfl (fr_at hF 0 rfl))) hS rfl (by decide) (fun a3 hA3 hF' => ?_)
          replace hF := hF'; clear hF'
          refine tk (i := 3) (d := 101) (v := .string ⟨txt.toArray⟩) hF rfl rfl (by kernel_rfl) (by kernel_rfl) (by kernel_rfl) (fun _ _ _ h => h) (yi_want rfl rfl (fr_at hF 0 rfl) (fun W hW => ex_move W rfl (fr_at hF 4 rfl))) hS rfl (by decide) (fun a4 hA4 hF' => ?_)
          replace hF := hF'; clear hF'
          refine tk (i := 5) (d := 103) (v := .slice A n c) hF rfl rfl (by kernel_rfl) (by kernel_rfl) (by kernel_rfl) (fun _ _ _ h => h) (yi_want rfl rfl (fr_at hF 1 rfl) (fun W hW => ex_move W rfl (fr_at hF 4 rfl))) hS rfl (by decide) (fun a5 hA5 hF' => ?_)
          replace hF := hF'; clear hF'
          refine tk (i := 6) (d := 104) (v := .int .i64 p) hF rfl rfl (by kernel_rfl) (by kernel_rfl) (by kernel_rfl) (fun _ _ _ h => h) (yi_want rfl rfl (fr_at hF 2 rfl) (fun W hW => ex_move W rfl (fr_at hF 7 rfl))) hS rfl (by decide) (fun a6 hA6 hF' => ?_)
          replace hF := hF'; clear hF'
          refine tk (i := 7) (d := 105) (v := .slice A p c) hF rfl rfl (by kernel_rfl) (by kernel_rfl) (by kernel_rfl) (fun _ _ _ h => h) (yi_want rfl rfl (fr_at hF 3 rfl) (fun W hW => by have f103 := fr_at hF 1 rfl; have f104 := fr_at hF 0 rfl; go_simp)) hS rfl (by decide) (fun a7 hA7 hF' => ?_)
          replace hF := hF'; clear hF'
          refine wpAnyH_ready (rs := [4]) (by kernel_rfl) (by simp) ?_
          refine AllReadyH.cons rfl (fun K hK => ?_) AllReadyH.nil
          rw [if_pos (by rw [guard_at rfl rfl (fr_at hF 4 rfl)]; rfl)]
          have f101 := fr_at hF 3 rfl
          go_simp
          clear f101
          go_at_call 19
          refine (ptext_any none 0 0 [] rfl (by omega) txt HTX.out _ (bytes_none _ _)).mono ?_
          rintro e wa ⟨⟨v, rfl, hr⟩, hb⟩
          rw [HTP.out] at hr
          obtain ⟨A4, c4, rfl, _, hJ⟩ := hr.bytes
          rw [← HTL2.out]
          have HJ2 := Lib.hid hJ
          clear hr hJ
          go_wp2_with fail
          refine hK.out _ _ (on hS hb) (fun _ => ?_)
          replace hS := on hS hb
          clear hK K
          change wpAnyH _ _ _ _ _ _ _ (a7.put (some 102) (.slice A4 p c4)) _
          have hF' := fr_put hF 102 (.slice A4 p c4) rfl (by decide)
          generalize hA8 : Act.put a7 (some 102) (.slice A4 p c4) = a8 at hF' ⊢
          replace hF := hF'; clear hF'
          refine wpAnyH_ready (rs := [8]) (by kernel_rfl) (by simp) ?_
          refine AllReadyH.cons rfl (fun K hK => ?_) AllReadyH.nil
          rw [if_pos (by rw [guard_at rfl rfl (fr_at hF 5 rfl)]; rfl)]
          have f102 := fr_at hF 0 rfl
          have f105 := fr_at hF 1 rfl
          go_simp
          clear f102 f105
          go_at_call 20
          refine (same_any A4 p c4 A c (bs.take p) HTL2.out _ HJ2.out ((HI2.out.later hS).take p)).mono ?_
          rintro e wb ⟨rfl, hb⟩
          go_wp2_with fail
          refine hK.out _ _ (on hS hb) (fun _ => ?_)
          replace hS := on hS hb
          clear hK K
          change wpAnyH _ _ _ _ _ _ _ (a8.put (some 106) (.bool true)) _
          have hF' := fr_put hF 106 (.bool true) rfl (by decide)
          generalize hA9 : Act.put a8 (some 106) (.bool true) = a9 at hF' ⊢
          replace hF := hF'; clear hF'
          refine tk (i := 9) (d := 107) (v := .bool true) hF rfl rfl (by kernel_rfl) (by kernel_rfl) (by kernel_rfl) (fun _ _ _ h => h) (yi_go rfl (fun W hW => by have f100 := fr_at hF 6 rfl; have f106 := fr_at hF 0 rfl; go_simp)) hS rfl (by decide) (fun a10 hA10 hF' => ?_)
          replace hF := hF'; clear hF'
          refine tk (i := 10) (d := 2) (v := .bool true) hF rfl rfl (by kernel_rfl) (by kernel_rfl) (by kernel_rfl) (fun _ _ _ h => h) (yi_go rfl (fun W hW => ex_assign W rfl (fr_at hF 0 rfl))) hS rfl (by decide) (fun a11 hA11 hF' => ?_)
          replace hF := hF'; clear hF'
          refine wpAnyH_done (by kernel_rfl) ?_ _
          rw [← hA11, ← hA10, ← hA9, ← hA8, ← hA7, ← hA6, ← hA5, ← hA4, ← hA3, ← hA2, ← hA1, ← hA0]
          simp only [Act.put, List.setIfInBounds_toArray, List.set_cons_zero, List.set_cons_succ]
          clear hF
          have HB3 := Lib.hid (on HB2.out hS)
          clear hS
          go_wp2
          go_ret
          exact ⟨rfl, HB3.out⟩
        · obtain ⟨r, hr⟩ : ∃ r, r = text bs := ⟨_, rfl⟩
          rw [← hr] at t1 t2 t3 ⊢
          clear hr
          obtain ⟨txt, p, f⟩ := r
          simp only at t1 t2 t3 ⊢
          subst t1
          subst t2
          rcases t3 with t3 | t3
          · subst t3
            go_wp2
            refine wp_region_held (S := fun W => Below w2.heap.size w2 W) (by kernel_rfl) ?_
            generalize hA0 : Act.mk _ _ = a0
            have hF := Fr.nil (n := 108) (a := a0) (by rw [← hA0]; rfl)
            replace hF := Fr.cons hF 8 (.int .i64 4) (by rw [← hA0]; rfl)
            replace hF := Fr.cons hF 7 (.int .i64 0) (by rw [← hA0]; rfl)
            replace hF := Fr.cons hF 6 (.string ⟨#[]⟩) (by rw [← hA0]; rfl)
            replace hF := Fr.cons hF 0 (.slice A n c) (by rw [← hA0]; rfl)
            have hS : Below w2.heap.size w2 w2.drew := (Below.refl _ w2).drew
            change wpAnyH _ _ _ _ _ _ _ _ (World.drew _)
            refine tk (i := 0) (d := 98) (v := .int .i64 4) hF rfl rfl (by kernel_rfl) (by kernel_rfl) (by kernel_rfl) (fun _ _ _ h => h) (yi_go rfl (fun W hW => ex_move W rfl (fr_at hF 3 rfl))) hS rfl (by decide) (fun a1 hA1 hF' => ?_)
            replace hF := hF'; clear hF'
            refine tk (i := 1) (d := 99) (v := .bool true) hF rfl rfl (by kernel_rfl) (by kernel_rfl) (by kernel_rfl) (fun _ _ _ h => h) (yi_go rfl (fun W hW => by have f98 := fr_at hF 0 rfl; go_simp)) hS rfl (by decide) (fun a2 hA2 hF' => ?_)
            replace hF := hF'; clear hF'
            refine tk (i := 2) (d := 100) (v := .bool true) hF rfl rfl (by kernel_rfl) (by kernel_rfl) (by kernel_rfl) (fun _ _ _ h => h) (yi_go rfl (fun W hW => ex_move W rfl (fr_at hF 0 rfl))) hS rfl (by decide) (fun a3 hA3 hF' => ?_)
            replace hF := hF'; clear hF'
            refine tk (i := 3) (d := 101) (v := undef) hF rfl rfl (by kernel_rfl) (by kernel_rfl) (by kernel_rfl) (fun _ _ _ h => h) (yi_skip rfl rfl (fr_at hF 0 rfl)) hS rfl (by decide) (fun a4 hA4 hF' => ?_)
            replace hF := hF'; clear hF'
            refine tk (i := 5) (d := 103) (v := undef) hF rfl rfl (by kernel_rfl) (by kernel_rfl) (by kernel_rfl) (fun _ _ _ h => h) (yi_skip rfl rfl (fr_at hF 1 rfl)) hS rfl (by decide) (fun a5 hA5 hF' => ?_)
            replace hF := hF'; clear hF'
            refine tk (i := 6) (d := 104) (v := undef) hF rfl rfl (by kernel_rfl) (by kernel_rfl) (by kernel_rfl) (fun _ _ _ h => h) (yi_skip rfl rfl (fr_at hF 2 rfl)) hS rfl (by decide) (fun a6 hA6 hF' => ?_)
            replace hF := hF'; clear hF'
            refine tk (i := 7) (d := 105) (v := undef) hF rfl rfl (by kernel_rfl) (by kernel_rfl) (by kernel_rfl) (fun _ _ _ h => h) (yi_skip rfl rfl (fr_at hF 3 rfl)) hS rfl (by decide) (fun a7 hA7 hF' => ?_)
            replace hF := hF'; clear hF'
            refine tk (i := 4) (d := 102) (v := undef) hF rfl rfl (by kernel_rfl) (by kernel_rfl) (by kernel_rfl) (fun _ _ _ h => h) (yi_skip rfl rfl (fr_at hF 4 rfl)) hS rfl (by decide) (fun a8 hA8 hF' => ?_)
            replace hF := hF'; clear hF'
            refine tk (i := 8) (d := 106) (v := undef) hF rfl rfl (by kernel_rfl) (by kernel_rfl) (by kernel_rfl) (fun _ _ _ h => h) (yi_skip rfl rfl (fr_at hF 5 rfl)) hS rfl (by decide) (fun a9 hA9 hF' => ?_)
            replace hF := hF'; clear hF'
            refine tk (i := 9) (d := 107) (v := .bool true) hF rfl rfl (by kernel_rfl) (by kernel_rfl) (by kernel_rfl) (fun _ _ _ h => h) (yi_go rfl (fun W hW => by have f100 := fr_at hF 6 rfl; have f106 := fr_at hF 0 rfl; go_simp)) hS rfl (by decide) (fun a10 hA10 hF' => ?_)
            replace hF := hF'; clear hF'
            refine tk (i := 10) (d := 2) (v := .bool true) hF rfl rfl (by kernel_rfl) (by kernel_rfl) (by kernel_rfl) (fun _ _ _ h => h) (yi_go rfl (fun W hW => ex_assign W rfl (fr_at hF 0 rfl))) hS rfl (by decide) (fun a11 hA11 hF' => ?_)
            replace hF := hF'; clear hF'
            refine wpAnyH_done (by kernel_rfl) ?_ _
            rw [← hA11, ← hA10, ← hA9, ← hA8, ← hA7, ← hA6, ← hA5, ← hA4, ← hA3, ← hA2, ← hA1, ← hA0]
            simp only [Act.put, List.setIfInBounds_toArray, List.set_cons_zero, List.set_cons_succ]
            clear hF
            have HB3 := Lib.hid (on HB2.out hS)
            clear hS
            go_wp2
            go_ret
            exact ⟨rfl, HB3.out⟩
          · subst t3
            go_wp2
            refine wp_region_held (S := fun W => Below w2.heap.size w2 W) (by kernel_rfl) ?_
            generalize hA0 : Act.mk _ _ = a0
            have hF := Fr.nil (n := 108) (a := a0) (by rw [← hA0]; rfl)
            replace hF := Fr.cons hF 8 (.int .i64 5) (by rw [← hA0]; rfl)
            replace hF := Fr.cons hF 7 (.int .i64 0) (by rw [← hA0]; rfl)
            replace hF := Fr.cons hF 6 (.string ⟨#[]⟩) (by rw [← hA0]; rfl)
            replace hF := Fr.cons hF 0 (.slice A n c) (by rw [← hA0]; rfl)
            have hS : Below w2.heap.size w2 w2.drew := (Below.refl _ w2).drew
            change wpAnyH _ _ _ _ _ _ _ _ (World.drew _)
            refine tk (i := 0) (d := 98) (v := .int .i64 5) hF rfl rfl (by kernel_rfl) (by kernel_rfl) (by kernel_rfl) (fun _ _ _ h => h) (yi_go rfl (fun W hW => ex_move W rfl (fr_at hF 3 rfl))) hS rfl (by decide) (fun a1 hA1 hF' => ?_)
            replace hF := hF'; clear hF'
            refine tk (i := 1) (d := 99) (v := .bool true) hF rfl rfl (by kernel_rfl) (by kernel_rfl) (by kernel_rfl) (fun _ _ _ h => h) (yi_go rfl (fun W hW => by have f98 := fr_at hF 0 rfl; go_simp)) hS rfl (by decide) (fun a2 hA2 hF' => ?_)
            replace hF := hF'; clear hF'
            refine tk (i := 2) (d := 100) (v := .bool true) hF rfl rfl (by kernel_rfl) (by kernel_rfl) (by kernel_rfl) (fun _ _ _ h => h) (yi_go rfl (fun W hW => ex_move W rfl (fr_at hF 0 rfl))) hS rfl (by decide) (fun a3 hA3 hF' => ?_)
            replace hF := hF'; clear hF'
            refine tk (i := 3) (d := 101) (v := undef) hF rfl rfl (by kernel_rfl) (by kernel_rfl) (by kernel_rfl) (fun _ _ _ h => h) (yi_skip rfl rfl (fr_at hF 0 rfl)) hS rfl (by decide) (fun a4 hA4 hF' => ?_)
            replace hF := hF'; clear hF'
            refine tk (i := 5) (d := 103) (v := undef) hF rfl rfl (by kernel_rfl) (by kernel_rfl) (by kernel_rfl) (fun _ _ _ h => h) (yi_skip rfl rfl (fr_at hF 1 rfl)) hS rfl (by decide) (fun a5 hA5 hF' => ?_)
            replace hF := hF'; clear hF'
            refine tk (i := 6) (d := 104) (v := undef) hF rfl rfl (by kernel_rfl) (by kernel_rfl) (by kernel_rfl) (fun _ _ _ h => h) (yi_skip rfl rfl (fr_at hF 2 rfl)) hS rfl (by decide) (fun a6 hA6 hF' => ?_)
            replace hF := hF'; clear hF'
            refine tk (i := 7) (d := 105) (v := undef) hF rfl rfl (by kernel_rfl) (by kernel_rfl) (by kernel_rfl) (fun _ _ _ h => h) (yi_skip rfl rfl (fr_at hF 3 rfl)) hS rfl (by decide) (fun a7 hA7 hF' => ?_)
            replace hF := hF'; clear hF'
            refine tk (i := 4) (d := 102) (v := undef) hF rfl rfl (by kernel_rfl) (by kernel_rfl) (by kernel_rfl) (fun _ _ _ h => h) (yi_skip rfl rfl (fr_at hF 4 rfl)) hS rfl (by decide) (fun a8 hA8 hF' => ?_)
            replace hF := hF'; clear hF'
            refine tk (i := 8) (d := 106) (v := undef) hF rfl rfl (by kernel_rfl) (by kernel_rfl) (by kernel_rfl) (fun _ _ _ h => h) (yi_skip rfl rfl (fr_at hF 5 rfl)) hS rfl (by decide) (fun a9 hA9 hF' => ?_)
            replace hF := hF'; clear hF'
            refine tk (i := 9) (d := 107) (v := .bool true) hF rfl rfl (by kernel_rfl) (by kernel_rfl) (by kernel_rfl) (fun _ _ _ h => h) (yi_go rfl (fun W hW => by have f100 := fr_at hF 6 rfl; have f106 := fr_at hF 0 rfl; go_simp)) hS rfl (by decide) (fun a10 hA10 hF' => ?_)
            replace hF := hF'; clear hF'
            refine tk (i := 10) (d := 2) (v := .bool true) hF rfl rfl (by kernel_rfl) (by kernel_rfl) (by kernel_rfl) (fun _ _ _ h => h) (yi_go rfl (fun W hW => ex_assign W rfl (fr_at hF 0 rfl))) hS rfl (by decide) (fun a11 hA11 hF' => ?_)
            replace hF := hF'; clear hF'
            refine wpAnyH_done (by kernel_rfl) ?_ _
            rw [← hA11, ← hA10, ← hA9, ← hA8, ← hA7, ← hA6, ← hA5, ← hA4, ← hA3, ← hA2, ← hA1, ← hA0]
            simp only [Act.put, List.setIfInBounds_toArray, List.set_cons_zero, List.set_cons_succ]
            clear hF
            have HB3 := Lib.hid (on HB2.out hS)
            clear hS
            go_wp2
            go_ret
            exact ⟨rfl, HB3.out⟩
      · subst z3
        go_wp2
        refine wp_region_held (S := fun W => Below w1.heap.size w1 W) (by kernel_rfl) ?_
        generalize hA0 : Act.mk _ _ = a0
        have hF := Fr.nil (n := 108) (a := a0) (by rw [← hA0]; rfl)
        replace hF := Fr.cons hF 5 (.int .i64 5) (by rw [← hA0]; rfl)
        replace hF := Fr.cons hF 4 (.int .i64 0) (by rw [← hA0]; rfl)
        replace hF := Fr.cons hF 3 (.int .u64 0) (by rw [← hA0]; rfl)
        replace hF := Fr.cons hF 0 (.slice A n c) (by rw [← hA0]; rfl)
        have hS : Below w1.heap.size w1 w1.drew := (Below.refl _ w1).drew
        change wpAnyH _ _ _ _ _ _ _ _ (World.drew _)
        refine tk (i := 0) (d := 23) (v := .int .i64 0) hF rfl rfl (by kernel_rfl) (by kernel_rfl) (by kernel_rfl) (fun _ _ _ h => h) (yi_go rfl (fun W hW => ex_move W rfl (fr_at hF 2 rfl))) hS rfl (by decide) (fun a1 hA1 hF' => ?_)
        replace hF := hF'; clear hF'
        refine tk (i := 1) (d := 24) (v := .bool false) hF rfl rfl (by kernel_rfl) (by kernel_rfl) (by kernel_rfl) (fun _ _ _ h => h) (yi_go rfl (fun W hW => by have f23 := fr_at hF 0 rfl; go_simp)) hS rfl (by decide) (fun a2 hA2 hF' => ?_)
        replace hF := hF'; clear hF'
        refine tk (i := 2) (d := 25) (v := .bool false) hF rfl rfl (by kernel_rfl) (by kernel_rfl) (by kernel_rfl) (fun _ _ _ h => h) (yi_go rfl (fun W hW => ex_move W rfl (fr_at hF 0 rfl))) hS rfl (by decide) (fun a3 hA3 hF' => ?_)
        replace hF := hF'; clear hF'
        refine tk (i := 3) (d := 26) (v := .int .i64 0) hF rfl rfl (by kernel_rfl) (by kernel_rfl) (by kernel_rfl) (fun _ _ _ h => h) (yi_want rfl rfl (fr_at hF 0 rfl) (fun W hW => ex_move W rfl (fr_at hF 5 rfl))) hS rfl (by decide) (fun a4 hA4 hF' => ?_)
        replace hF := hF'; clear hF'
        refine tk (i := 4) (d := 27) (v := .slice A n c) hF rfl rfl (by kernel_rfl) (by kernel_rfl) (by kernel_rfl) (fun _ _ _ h => h) (yi_want rfl rfl (fr_at hF 1 rfl) (fun W hW => ex_move W rfl (fr_at hF 4 rfl))) hS rfl (by decide) (fun a5 hA5 hF' => ?_)
        replace hF := hF'; clear hF'
        refine tk (i := 5) (d := 28) (v := .int .i64 n) hF rfl rfl (by kernel_rfl) (by kernel_rfl) (by kernel_rfl) (fun _ _ _ h => h) (yi_want rfl rfl (fr_at hF 2 rfl) (fun W hW => by have f27 := fr_at hF 0 rfl; go_simp)) hS rfl (by decide) (fun a6 hA6 hF' => ?_)
        replace hF := hF'; clear hF'
        refine tk (i := 6) (d := 29) (v := .bool false) hF rfl rfl (by kernel_rfl) (by kernel_rfl) (by kernel_rfl) (fun _ _ _ h => h) (yi_want rfl rfl (fr_at hF 3 rfl) (fun W hW => by have f26 := fr_at hF 2 rfl; have f28 := fr_at hF 0 rfl; go_simp)) hS rfl (by decide) (fun a7 hA7 hF' => ?_)
        replace hF := hF'; clear hF'
        refine tk (i := 7) (d := 30) (v := .bool false) hF rfl rfl (by kernel_rfl) (by kernel_rfl) (by kernel_rfl) (fun _ _ _ h => h) (yi_go rfl (fun W hW => by have f25 := fr_at hF 4 rfl; have f29 := fr_at hF 0 rfl; go_simp)) hS rfl (by decide) (fun a8 hA8 hF' => ?_)
        replace hF := hF'; clear hF'
        refine tk (i := 8) (d := 31) (v := .bool false) hF rfl rfl (by kernel_rfl) (by kernel_rfl) (by kernel_rfl) (fun _ _ _ h => h) (yi_go rfl (fun W hW => ex_move W rfl (fr_at hF 0 rfl))) hS rfl (by decide) (fun a9 hA9 hF' => ?_)
        replace hF := hF'; clear hF'
        refine tk (i := 9) (d := 32) (v := .int .i64 5) hF rfl rfl (by kernel_rfl) (by kernel_rfl) (by kernel_rfl) (fun _ _ _ h => h) (yi_want rfl rfl (fr_at hF 0 rfl) (fun W hW => ex_move W rfl (fr_at hF 12 rfl))) hS rfl (by decide) (fun a10 hA10 hF' => ?_)
        replace hF := hF'; clear hF'
        refine tk (i := 10) (d := 33) (v := .bool false) hF rfl rfl (by kernel_rfl) (by kernel_rfl) (by kernel_rfl) (fun _ _ _ h => h) (yi_want rfl rfl (fr_at hF 1 rfl) (fun W hW => by have f32 := fr_at hF 0 rfl; go_simp)) hS rfl (by decide) (fun a11 hA11 hF' => ?_)
        replace hF := hF'; clear hF'
        refine tk (i := 11) (d := 34) (v := .bool false) hF rfl rfl (by kernel_rfl) (by kernel_rfl) (by kernel_rfl) (fun _ _ _ h => h) (yi_want rfl rfl (fr_at hF 2 rfl) (fun W hW => ex_move W rfl (fr_at hF 0 rfl))) hS rfl (by decide) (fun a12 hA12 hF' => ?_)
        replace hF := hF'; clear hF'
        refine tk (i := 12) (d := 35) (v := undef) hF rfl rfl (by kernel_rfl) (by kernel_rfl) (by kernel_rfl) (fun _ _ _ h => h) (yi_skip rfl rfl (fr_at hF 0 rfl)) hS rfl (by decide) (fun a13 hA13 hF' => ?_)
        replace hF := hF'; clear hF'
        refine tk (i := 14) (d := 37) (v := undef) hF rfl rfl (by kernel_rfl) (by kernel_rfl) (by kernel_rfl) (fun _ _ _ h => h) (yi_skip rfl rfl (fr_at hF 1 rfl)) hS rfl (by decide) (fun a14 hA14 hF' => ?_)
        replace hF := hF'; clear hF'
        refine tk (i := 15) (d := 38) (v := undef) hF rfl rfl (by kernel_rfl) (by kernel_rfl) (by kernel_rfl) (fun _ _ _ h => h) (yi_skip rfl rfl (fr_at hF 2 rfl)) hS rfl (by decide) (fun a15 hA15 hF' => ?_)
        replace hF := hF'; clear hF'
        refine tk (i := 16) (d := 39) (v := undef) hF rfl rfl (by kernel_rfl) (by kernel_rfl) (by kernel_rfl) (fun _ _ _ h => h) (yi_skip rfl rfl (fr_at hF 3 rfl)) hS rfl (by decide) (fun a16 hA16 hF' => ?_)
        replace hF := hF'; clear hF'
        refine tk (i := 13) (d := 36) (v := undef) hF rfl rfl (by kernel_rfl) (by kernel_rfl) (by kernel_rfl) (fun _ _ _ h => h) (yi_skip rfl rfl (fr_at hF 4 rfl)) hS rfl (by decide) (fun a17 hA17 hF' => ?_)
        replace hF := hF'; clear hF'
        refine tk (i := 17) (d := 40) (v := undef) hF rfl rfl (by kernel_rfl) (by kernel_rfl) (by kernel_rfl) (fun _ _ _ h => h) (yi_skip rfl rfl (fr_at hF 5 rfl)) hS rfl (by decide) (fun a18 hA18 hF' => ?_)
        replace hF := hF'; clear hF'
        refine tk (i := 18) (d := 41) (v := undef) hF rfl rfl (by kernel_rfl) (by kernel_rfl) (by kernel_rfl) (fun _ _ _ h => h) (yi_skip rfl rfl (fr_at hF 6 rfl)) hS rfl (by decide) (fun a19 hA19 hF' => ?_)
        replace hF := hF'; clear hF'
        refine tk (i := 19) (d := 42) (v := .bool false) hF rfl rfl (by kernel_rfl) (by kernel_rfl) (by kernel_rfl) (fun _ _ _ h => h) (yi_want rfl rfl (fr_at hF 10 rfl) (fun W hW => by have f34 := fr_at hF 7 rfl; have f41 := fr_at hF 0 rfl; go_simp)) hS rfl (by decide) (fun a20 hA20 hF' => ?_)
        replace hF := hF'; clear hF'
        refine tk (i := 20) (d := 43) (v := .bool false) hF rfl rfl (by kernel_rfl) (by kernel_rfl) (by kernel_rfl) (fun _ _ _ h => h) (yi_go rfl (fun W hW => by have f31 := fr_at hF 11 rfl; have f42 := fr_at hF 0 rfl; go_simp)) hS rfl (by decide) (fun a21 hA21 hF' => ?_)
        replace hF := hF'; clear hF'
        refine tk (i := 21) (d := 44) (v := .bool false) hF rfl rfl (by kernel_rfl) (by kernel_rfl) (by kernel_rfl) (fun _ _ _ h => h) (yi_go rfl (fun W hW => ex_move W rfl (fr_at hF 0 rfl))) hS rfl (by decide) (fun a22 hA22 hF' => ?_)
        replace hF := hF'; clear hF'
        refine tk (i := 22) (d := 45) (v := .int .i64 5) hF rfl rfl (by kernel_rfl) (by kernel_rfl) (by kernel_rfl) (fun _ _ _ h => h) (yi_want rfl rfl (fr_at hF 0 rfl) (fun W hW => ex_move W rfl (fr_at hF 25 rfl))) hS rfl (by decide) (fun a23 hA23 hF' => ?_)
        replace hF := hF'; clear hF'
        refine tk (i := 23) (d := 46) (v := .bool true) hF rfl rfl (by kernel_rfl) (by kernel_rfl) (by kernel_rfl) (fun _ _ _ h => h) (yi_want rfl rfl (fr_at hF 1 rfl) (fun W hW => by have f45 := fr_at hF 0 rfl; go_simp)) hS rfl (by decide) (fun a24 hA24 hF' => ?_)
        replace hF := hF'; clear hF'
        refine tk (i := 24) (d := 47) (v := .bool true) hF rfl rfl (by kernel_rfl) (by kernel_rfl) (by kernel_rfl) (fun _ _ _ h => h) (yi_want rfl rfl (fr_at hF 2 rfl) (fun W hW => ex_move W rfl (fr_at hF 0 rfl))) hS rfl (by decide) (fun a25 hA25 hF' => ?_)
        replace hF := hF'; clear hF'
        refine tk (i := 25) (d := 48) (v := .int .u64 0) hF rfl rfl (by kernel_rfl) (by kernel_rfl) (by kernel_rfl) (fun _ _ _ h => h) (yi_want rfl rfl (fr_at hF 0 rfl) (fun W hW => ex_move W rfl (fr_at hF 26 rfl))) hS rfl (by decide) (fun a26 hA26 hF' => ?_)
        replace hF := hF'; clear hF'
        refine tk (i := 26) (d := 49) (v := .bool false) hF rfl rfl (by kernel_rfl) (by kernel_rfl) (by kernel_rfl) (fun _ _ _ h => h) (yi_want rfl rfl (fr_at hF 1 rfl) (fun W hW => by have f48 := fr_at hF 0 rfl; go_simp)) hS rfl (by decide) (fun a27 hA27 hF' => ?_)
        replace hF := hF'; clear hF'
        refine tk (i := 27) (d := 50) (v := .bool false) hF rfl rfl (by kernel_rfl) (by kernel_rfl) (by kernel_rfl) (fun _ _ _ h => h) (yi_want rfl rfl (fr_at hF 2 rfl) (fun W hW => ex_move W rfl (fr_at hF 0 rfl))) hS rfl (by decide) (fun a28 hA28 hF' => ?_)
        replace hF := hF'; clear hF'
        refine tk (i := 28) (d := 51) (v := .int .i64 0) hF rfl rfl (by kernel_rfl) (by kernel_rfl) (by kernel_rfl) (fun _ _ _ h => h) (yi_want rfl rfl (fr_at hF 0 rfl) (fun W hW => ex_move W rfl (fr_at hF 30 rfl))) hS rfl (by decide) (fun a29 hA29 hF' => ?_)
        replace hF := hF'; clear hF'
        refine tk (i := 29) (d := 52) (v := .bool false) hF rfl rfl (by kernel_rfl) (by kernel_rfl) (by kernel_rfl) (fun _ _ _ h => h) (yi_want rfl rfl (fr_at hF 1 rfl) (fun W hW => by have f51 := fr_at hF 0 rfl; go_simp)) hS rfl (by decide) (fun a30 hA30 hF' => ?_)
        replace hF := hF'; clear hF'
        refine tk (i := 30) (d := 53) (v := .bool false) hF rfl rfl (by kernel_rfl) (by kernel_rfl) (by kernel_rfl) (fun _ _ _ h => h) (yi_want rfl rfl (fr_at hF 5 rfl) (fun W hW => by have f50 := fr_at hF 2 rfl; have f52 := fr_at hF 0 rfl; go_simp)) hS rfl (by decide) (fun a31 hA31 hF' => ?_)
        replace hF := hF'; clear hF'
        refine tk (i := 31) (d := 54) (v := .bool false) hF rfl rfl (by kernel_rfl) (by kernel_rfl) (by kernel_rfl) (fun _ _ _ h => h) (yi_want rfl rfl (fr_at hF 6 rfl) (fun W hW => ex_move W rfl (fr_at hF 0 rfl))) hS rfl (by decide) (fun a32 hA32 hF' => ?_)
        replace hF := hF'; clear hF'
        refine tk (i := 32) (d := 55) (v := .int .i64 5) hF rfl rfl (by kernel_rfl) (by kernel_rfl) (by kernel_rfl) (fun _ _ _ h => h) (yi_want rfl rfl (fr_at hF 0 rfl) (fun W hW => ex_move W rfl (fr_at hF 35 rfl))) hS rfl (by decide) (fun a33 hA33 hF' => ?_)
        replace hF := hF'; clear hF'
        refine tk (i := 33) (d := 56) (v := .bool false) hF rfl rfl (by kernel_rfl) (by kernel_rfl) (by kernel_rfl) (fun _ _ _ h => h) (yi_want rfl rfl (fr_at hF 1 rfl) (fun W hW => by have f55 := fr_at hF 0 rfl; go_simp)) hS rfl (by decide) (fun a34 hA34 hF' => ?_)
        replace hF := hF'; clear hF'
        refine tk (i := 34) (d := 57) (v := .bool false) hF rfl rfl (by kernel_rfl) (by kernel_rfl) (by kernel_rfl) (fun _ _ _ h => h) (yi_want rfl rfl (fr_at hF 2 rfl) (fun W hW => ex_move W rfl (fr_at hF 0 rfl))) hS rfl (by decide) (fun a35 hA35 hF' => ?_)
        replace hF := hF'; clear hF'
        refine tk (i := 35) (d := 58) (v := undef) hF rfl rfl (by kernel_rfl) (by kernel_rfl) (by kernel_rfl) (fun _ _ _ h => h) (yi_skip rfl rfl (fr_at hF 0 rfl)) hS rfl (by decide) (fun a36 hA36 hF' => ?_)
        replace hF := hF'; clear hF'
        refine tk (i := 36) (d := 59) (v := undef) hF rfl rfl (by kernel_rfl) (by kernel_rfl) (by kernel_rfl) (fun _ _ _ h => h) (yi_skip rfl rfl (fr_at hF 1 rfl)) hS rfl (by decide) (fun a37 hA37 hF' => ?_)
        replace hF := hF'; clear hF'
        refine tk (i := 37) (d := 60) (v := .bool false) hF rfl rfl (by kernel_rfl) (by kernel_rfl) (by kernel_rfl) (fun _ _ _ h => h) (yi_want rfl rfl (fr_at hF 5 rfl) (fun W hW => by have f57 := fr_at hF 2 rfl; have f59 := fr_at hF 0 rfl; go_simp)) hS rfl (by decide) (fun a38 hA38 hF' => ?_)
        replace hF := hF'; clear hF'
        refine tk (i := 38) (d := 61) (v := .bool false) hF rfl rfl (by kernel_rfl) (by kernel_rfl) (by kernel_rfl) (fun _ _ _ h => h) (yi_want rfl rfl (fr_at hF 13 rfl) (fun W hW => by have f54 := fr_at hF 6 rfl; have f60 := fr_at hF 0 rfl; go_simp)) hS rfl (by decide) (fun a39 hA39 hF' => ?_)
        replace hF := hF'; clear hF'
        refine tk (i := 39) (d := 62) (v := .bool false) hF rfl rfl (by kernel_rfl) (by kernel_rfl) (by kernel_rfl) (fun _ _ _ h => h) (yi_want rfl rfl (fr_at hF 17 rfl) (fun W hW => by have f47 := fr_at hF 14 rfl; have f61 := fr_at hF 0 rfl; go_simp)) hS rfl (by decide) (fun a40 hA40 hF' => ?_)
        replace hF := hF'; clear hF'
        refine tk (i := 40) (d := 63) (v := .bool false) hF rfl rfl (by kernel_rfl) (by kernel_rfl) (by kernel_rfl) (fun _ _ _ h => h) (yi_go rfl (fun W hW => by have f44 := fr_at hF 18 rfl; have f62 := fr_at hF 0 rfl; go_simp)) hS rfl (by decide) (fun a41 hA41 hF' => ?_)
        replace hF := hF'; clear hF'
        refine wpAnyH_done (by kernel_rfl) ?_ _
        rw [← hA41, ← hA40, ← hA39, ← hA38, ← hA37, ← hA36, ← hA35, ← hA34, ← hA33, ← hA32, ← hA31, ← hA30, ← hA29, ← hA28, ← hA27, ← hA26, ← hA25, ← hA24, ← hA23, ← hA22, ← hA21, ← hA20, ← hA19, ← hA18, ← hA17, ← hA16, ← hA15, ← hA14, ← hA13, ← hA12, ← hA11, ← hA10, ← hA9, ← hA8, ← hA7, ← hA6, ← hA5, ← hA4, ← hA3, ← hA2, ← hA1, ← hA0]
        simp only [Act.put, List.setIfInBounds_toArray, List.set_cons_zero, List.set_cons_succ]
        clear hF
        have HB2 := Lib.hid (on HB1.out hS)
        have HI2 := Lib.hid (HI1.out.later hS)
        clear hS
        generalize w1.drew = w2 at *
        go_wp2_with fail
        refine (text_any A n c bs HN.out HCAP.out w2 HI2.out).mono ?_
        rintro e wx ⟨rfl, rfl⟩
        unfold tupT
        rcases text_cases bs with ⟨t1, t2, t3, t4⟩ | ⟨t1, t2, t3⟩
        · obtain ⟨r, hr⟩ : ∃ r, r = text bs := ⟨_, rfl⟩
          rw [← hr] at t1 t2 t3 t4 ⊢
          clear hr
          obtain ⟨txt, p, f⟩ := r
          simp only at t1 t2 t3 t4 ⊢
          subst t1
          have hpn : p ≤ n := by have := HN.out; omega
          have hpc : p ≤ c := by have := HCAP.out; omega
          have HTP := Lib.hid (show [] ++ num txt.length ++ txt = bs.take p from t3)
          have HTX := Lib.hid (show txt.length ≤ 400000 by have := HN.out; omega)
          have HTL2 := Lib.hid (show p = (bs.take p).length by rw [List.length_take]; omega)
          have k1 : decide ((p : Int) < 0) = false := by simp
          have k2 : decide ((n : Int) < (p : Int)) = false := by simp; omega
          have k3 : decide (n < p) = false := by simp; omega
          have k4 : ¬ c < p := by omega
          clear t2 t3 t4
          go_wp2
          refine wp_region_held (S := fun W => Below w2.heap.size w2 W) (by kernel_rfl) ?_
          generalize hA0 : Act.mk _ _ = a0
          have hF := Fr.nil (n := 108) (a := a0) (by rw [← hA0]; rfl)
          replace hF := Fr.cons hF 8 (.int .i64 0) (by rw [← hA0]; rfl)
          replace hF := Fr.cons hF 7 (.int .i64 p) (by rw [← hA0]; rfl)
          replace hF := Fr.cons hF 6 (.string ⟨txt.toArray⟩) (by rw [← hA0]; rfl)
          replace hF := Fr.cons hF 0 (.slice A n c) (by rw [← hA0]; rfl)
          have hS : Below w2.heap.size w2 w2.drew := (Below.refl _ w2).drew
          change wpAnyH _ _ _ _ _ _ _ _ (World.drew _)
          refine tk (i := 0) (d := 98) (v := .int .i64 0) hF rfl rfl (by kernel_rfl) (by kernel_rfl) (by kernel_rfl) (fun _ _ _ h => h) (yi_go rfl (fun W hW => ex_move W rfl (fr_at hF 3 rfl))) hS rfl (by decide) (fun a1 hA1 hF' => ?_)
          replace hF := hF'; clear hF'
          refine tk (i := 1) (d := 99) (v := .bool false) hF rfl rfl (by kernel_rfl) (by kernel_rfl) (by kernel_rfl) (fun _ _ _ h => h) (yi_go rfl (fun W hW => by have f98 := fr_at hF 0 rfl; go_simp)) hS rfl (by decide) (fun a2 hA2 hF' => ?_)
          replace hF := hF'; clear hF'
          refine tk (i := 2) (d := 100) (v := .bool false) hF rfl rfl (by kernel_rfl) (by kernel_rfl) (by kernel_rfl) (fun _ _ _ h => h) (yi_go rfl (fun W hW => ex_move W rfl (fr_at hF 0 rfl))) hS rfl (by decide) (fun a3 hA3 hF' => ?_)
          replace hF := hF'; clear hF'
          refine tk (i := 3) (d := 101) (v := .string ⟨txt.toArray⟩) hF rfl rfl (by kernel_rfl) (by kernel_rfl) (by kernel_rfl) (fun _ _ _ h => h) (yi_want rfl rfl (fr_at hF 0 rfl) (fun W hW => ex_move W rfl (fr_at hF 4 rfl))) hS rfl (by decide) (fun a4 hA4 hF' => ?_)
          replace hF := hF'; clear hF'
          refine tk (i := 5) (d := 103) (v := .slice A n c) hF rfl rfl (by kernel_rfl) (by kernel_rfl) (by kernel_rfl) (fun _ _ _ h => h) (yi_want rfl rfl (fr_at hF 1 rfl) (fun W hW => ex_move W rfl (fr_at hF 4 rfl))) hS rfl (by decide) (fun a5 hA5 hF' => ?_)
          replace hF := hF'; clear hF'
          refine tk (i := 6) (d := 104) (v := .int .i64 p) hF rfl rfl (by kernel_rfl) (by kernel_rfl) (by kernel_rfl) (fun _ _ _ h => h) (yi_want rfl rfl (fr_at hF 2 rfl) (fun W hW => ex_move W rfl (fr_at hF 7 rfl))) hS rfl (by decide) (fun a6 hA6 hF' => ?_)
          replace hF := hF'; clear hF'
          refine tk (i := 7) (d := 105) (v := .slice A p c) hF rfl rfl (by kernel_rfl) (by kernel_rfl) (by kernel_rfl) (fun _ _ _ h => h) (yi_want rfl rfl (fr_at hF 3 rfl) (fun W hW => by have f103 := fr_at hF 1 rfl; have f104 := fr_at hF 0 rfl; go_simp)) hS rfl (by decide) (fun a7 hA7 hF' => ?_)
          replace hF := hF'; clear hF'
          refine wpAnyH_ready (rs := [4]) (by kernel_rfl) (by simp) ?_
          refine AllReadyH.cons rfl (fun K hK => ?_) AllReadyH.nil
          rw [if_pos (by rw [guard_at rfl rfl (fr_at hF 4 rfl)]; rfl)]
          have f101 := fr_at hF 3 rfl
          go_simp
          clear f101
          go_at_call 19
          refine (ptext_any none 0 0 [] rfl (by omega) txt HTX.out _ (bytes_none _ _)).mono ?_
          rintro e wa ⟨⟨v, rfl, hr⟩, hb⟩
          rw [HTP.out] at hr
          obtain ⟨A4, c4, rfl, _, hJ⟩ := hr.bytes
          rw [← HTL2.out]
          have HJ2 := Lib.hid hJ
          clear hr hJ
          go_wp2_with fail
          refine hK.out _ _ (on hS hb) (fun _ => ?_)
          replace hS := on hS hb
          clear hK K
          change wpAnyH _ _ _ _ _ _ _ (a7.put (some 102) (.slice A4 p c4)) _
          have hF' := fr_put hF 102 (.slice A4 p c4) rfl (by decide)
          generalize hA8 : Act.put a7 (some 102) (.slice A4 p c4) = a8 at hF' ⊢
          replace hF := hF'; clear hF'
          refine wpAnyH_ready (rs := [8]) (by kernel_rfl) (by simp) ?_
          refine AllReadyH.cons rfl (fun K hK => ?_) AllReadyH.nil
          rw [if_pos (by rw [guard_at rfl rfl (fr_at hF 5 rfl)]; rfl)]
          have f102 := fr_at hF 0 rfl
          have f105 := fr_at hF 1 rfl
          go_simp
          clear f102 f105
          go_at_call 20
          refine (same_any A4 p c4 A c (bs.take p) HTL2.out _ HJ2.out ((HI2.out.later hS).take p)).mono ?_
          rintro e wb ⟨rfl, hb⟩
          go_wp2_with fail
          refine hK.out _ _ (on hS hb) (fun _ => ?_)
          replace hS := on hS hb
          clear hK K
          change wpAnyH _ _ _ _ _ _ _ (a8.put (some 106) (.bool true)) _
          have hF' := fr_put hF 106 (.bool true) rfl (by decide)
          generalize hA9 : Act.put a8 (some 106) (.bool true) = a9 at hF' ⊢
          replace hF := hF'; clear hF'
          refine tk (i := 9) (d := 107) (v := .bool true) hF rfl rfl (by kernel_rfl) (by kernel_rfl) (by kernel_rfl) (fun _ _ _ h => h) (yi_go rfl (fun W hW => by have f100 := fr_at hF 6 rfl; have f106 := fr_at hF 0 rfl; go_simp)) hS rfl (by decide) (fun a10 hA10 hF' => ?_)
          replace hF := hF'; clear hF'
          refine tk (i := 10) (d := 2) (v := .bool true) hF rfl rfl (by kernel_rfl) (by kernel_rfl) (by kernel_rfl) (fun _ _ _ h => h) (yi_go rfl (fun W hW => ex_assign W rfl (fr_at hF 0 rfl))) hS rfl (by decide) (fun a11 hA11 hF' => ?_)
          replace hF := hF'; clear hF'
          refine wpAnyH_done (by kernel_rfl) ?_ _
          rw [← hA11, ← hA10, ← hA9, ← hA8, ← hA7, ← hA6, ← hA5, ← hA4, ← hA3, ← hA2, ← hA1, ← hA0]
          simp only [Act.put, List.setIfInBounds_toArray, List.set_cons_zero, List.set_cons_succ]
          clear hF
          have HB3 := Lib.hid (on HB2.out hS)
          clear hS
          go_wp2
          go_ret
          exact ⟨rfl, HB3.out⟩
        · obtain ⟨r, hr⟩ : ∃ r, r = text bs := ⟨_, rfl⟩
          rw [← hr] at t1 t2 t3 ⊢
          clear hr
          obtain ⟨txt, p, f⟩ := r
          simp only at t1 t2 t3 ⊢
          subst t1
          subst t2
          rcases t3 with t3 | t3
          · subst t3
            go_wp2
            refine wp_region_held (S := fun W => Below w2.heap.size w2 W) (by kernel_rfl) ?_
            generalize hA0 : Act.mk _ _ = a0
            have hF := Fr.nil (n := 108) (a := a0) (by rw [← hA0]; rfl)
            replace hF := Fr.cons hF 8 (.int .i64 4) (by rw [← hA0]; rfl)
            replace hF := Fr.cons hF 7 (.int .i64 0) (by rw [← hA0]; rfl)
            replace hF := Fr.cons hF 6 (.string ⟨#[]⟩) (by rw [← hA0]; rfl)
            replace hF := Fr.cons hF 0 (.slice A n c) (by rw [← hA0]; rfl)
            have hS : Below w2.heap.size w2 w2.drew := (Below.refl _ w2).drew
            change wpAnyH _ _ _ _ _ _ _ _ (World.drew _)
            refine tk (i := 0) (d := 98) (v := .int .i64 4) hF rfl rfl (by kernel_rfl) (by kernel_rfl) (by kernel_rfl) (fun _ _ _ h => h) (yi_go rfl (fun W hW => ex_move W rfl (fr_at hF 3 rfl))) hS rfl (by decide) (fun a1 hA1 hF' => ?_)
            replace hF := hF'; clear hF'
            refine tk (i := 1) (d := 99) (v := .bool true) hF rfl rfl (by kernel_rfl) (by kernel_rfl) (by kernel_rfl) (fun _ _ _ h => h) (yi_go rfl (fun W hW => by have f98 := fr_at hF 0 rfl; go_simp)) hS rfl (by decide) (fun a2 hA2 hF' => ?_)
            replace hF := hF'; clear hF'
            refine tk (i := 2) (d := 100) (v := .bool true) hF rfl rfl (by kernel_rfl) (by kernel_rfl) (by kernel_rfl) (fun _ _ _ h => h) (yi_go rfl (fun W hW => ex_move W rfl (fr_at hF 0 rfl))) hS rfl (by decide) (fun a3 hA3 hF' => ?_)
            replace hF := hF'; clear hF'
            refine tk (i := 3) (d := 101) (v := undef) hF rfl rfl (by kernel_rfl) (by kernel_rfl) (by kernel_rfl) (fun _ _ _ h => h) (yi_skip rfl rfl (fr_at hF 0 rfl)) hS rfl (by decide) (fun a4 hA4 hF' => ?_)
            replace hF := hF'; clear hF'
            refine tk (i := 5) (d := 103) (v := undef) hF rfl rfl (by kernel_rfl) (by kernel_rfl) (by kernel_rfl) (fun _ _ _ h => h) (yi_skip rfl rfl (fr_at hF 1 rfl)) hS rfl (by decide) (fun a5 hA5 hF' => ?_)
            replace hF := hF'; clear hF'
            refine tk (i := 6) (d := 104) (v := undef) hF rfl rfl (by kernel_rfl) (by kernel_rfl) (by kernel_rfl) (fun _ _ _ h => h) (yi_skip rfl rfl (fr_at hF 2 rfl)) hS rfl (by decide) (fun a6 hA6 hF' => ?_)
            replace hF := hF'; clear hF'
            refine tk (i := 7) (d := 105) (v := undef) hF rfl rfl (by kernel_rfl) (by kernel_rfl) (by kernel_rfl) (fun _ _ _ h => h) (yi_skip rfl rfl (fr_at hF 3 rfl)) hS rfl (by decide) (fun a7 hA7 hF' => ?_)
            replace hF := hF'; clear hF'
            refine tk (i := 4) (d := 102) (v := undef) hF rfl rfl (by kernel_rfl) (by kernel_rfl) (by kernel_rfl) (fun _ _ _ h => h) (yi_skip rfl rfl (fr_at hF 4 rfl)) hS rfl (by decide) (fun a8 hA8 hF' => ?_)
            replace hF := hF'; clear hF'
            refine tk (i := 8) (d := 106) (v := undef) hF rfl rfl (by kernel_rfl) (by kernel_rfl) (by kernel_rfl) (fun _ _ _ h => h) (yi_skip rfl rfl (fr_at hF 5 rfl)) hS rfl (by decide) (fun a9 hA9 hF' => ?_)
            replace hF := hF'; clear hF'
            refine tk (i := 9) (d := 107) (v := .bool true) hF rfl rfl (by kernel_rfl) (by kernel_rfl) (by kernel_rfl) (fun _ _ _ h => h) (yi_go rfl (fun W hW => by have f100 := fr_at hF 6 rfl; have f106 := fr_at hF 0 rfl; go_simp)) hS rfl (by decide) (fun a10 hA10 hF' => ?_)
            replace hF := hF'; clear hF'
            refine tk (i := 10) (d := 2) (v := .bool true) hF rfl rfl (by kernel_rfl) (by kernel_rfl) (by kernel_rfl) (fun _ _ _ h => h) (yi_go rfl (fun W hW => ex_assign W rfl (fr_at hF 0 rfl))) hS rfl (by decide) (fun a11 hA11 hF' => ?_)
            replace hF := hF'; clear hF'
            refine wpAnyH_done (by kernel_rfl) ?_ _
            rw [← hA11, ← hA10, ← hA9, ← hA8, ← hA7, ← hA6, ← hA5, ← hA4, ← hA3, ← hA2, ← hA1, ← hA0]
            simp only [Act.put, List.setIfInBounds_toArray, List.set_cons_zero, List.set_cons_succ]
            clear hF
            have HB3 := Lib.hid (on HB2.out hS)
            clear hS
            go_wp2
            go_ret
            exact ⟨rfl, HB3.out⟩
          · subst t3
            go_wp2
            refine wp_region_held (S := fun W => Below w2.heap.size w2 W) (by kernel_rfl) ?_
            generalize hA0 : Act.mk _ _ = a0
            have hF := Fr.nil (n := 108) (a := a0) (by rw [← hA0]; rfl)
            replace hF := Fr.cons hF 8 (.int .i64 5) (by rw [← hA0]; rfl)
            replace hF := Fr.cons hF 7 (.int .i64 0) (by rw [← hA0]; rfl)
            replace hF := Fr.cons hF 6 (.string ⟨#[]⟩) (by rw [← hA0]; rfl)
            replace hF := Fr.cons hF 0 (.slice A n c) (by rw [← hA0]; rfl)
            have hS : Below w2.heap.size w2 w2.drew := (Below.refl _ w2).drew
            change wpAnyH _ _ _ _ _ _ _ _ (World.drew _)
            refine tk (i := 0) (d := 98) (v := .int .i64 5) hF rfl rfl (by kernel_rfl) (by kernel_rfl) (by kernel_rfl) (fun _ _ _ h => h) (yi_go rfl (fun W hW => ex_move W rfl (fr_at hF 3 rfl))) hS rfl (by decide) (fun a1 hA1 hF' => ?_)
            replace hF := hF'; clear hF'
            refine tk (i := 1) (d := 99) (v := .bool true) hF rfl rfl (by kernel_rfl) (by kernel_rfl) (by kernel_rfl) (fun _ _ _ h => h) (yi_go rfl (fun W hW => by have f98 := fr_at hF 0 rfl; go_simp)) hS rfl (by decide) (fun a2 hA2 hF' => ?_)
            replace hF := hF'; clear hF'
            refine tk (i := 2) (d := 100) (v := .bool true) hF rfl rfl (by kernel_rfl) (by kernel_rfl) (by kernel_rfl) (fun _ _ _ h => h) (yi_go rfl (fun W hW => ex_move W rfl (fr_at hF 0 rfl))) hS rfl (by decide) (fun a3 hA3 hF' => ?_)
            replace hF := hF'; clear hF'
            refine tk (i := 3) (d := 101) (v := undef) hF rfl rfl (by kernel_rfl) (by kernel_rfl) (by kernel_rfl) (fun _ _ _ h => h) (yi_skip rfl rfl (fr_at hF 0 rfl)) hS rfl (by decide) (fun a4 hA4 hF' => ?_)
            replace hF := hF'; clear hF'
            refine tk (i := 5) (d := 103) (v := undef) hF rfl rfl (by kernel_rfl) (by kernel_rfl) (by kernel_rfl) (fun _ _ _ h => h) (yi_skip rfl rfl (fr_at hF 1 rfl)) hS rfl (by decide) (fun a5 hA5 hF' => ?_)
            replace hF := hF'; clear hF'
            refine tk (i := 6) (d := 104) (v := undef) hF rfl rfl (by kernel_rfl) (by kernel_rfl) (by kernel_rfl) (fun _ _ _ h => h) (yi_skip rfl rfl (fr_at hF 2 rfl)) hS rfl (by decide) (fun a6 hA6 hF' => ?_)
            replace hF := hF'; clear hF'
            refine tk (i := 7) (d := 105) (v := undef) hF rfl rfl (by kernel_rfl) (by kernel_rfl) (by kernel_rfl) (fun _ _ _ h => h) (yi_skip rfl rfl (fr_at hF 3 rfl)) hS rfl (by decide) (fun a7 hA7 hF' => ?_)
            replace hF := hF'; clear hF'
            refine tk (i := 4) (d := 102) (v := undef) hF rfl rfl (by kernel_rfl) (by kernel_rfl) (by kernel_rfl) (fun _ _ _ h => h) (yi_skip rfl rfl (fr_at hF 4 rfl)) hS rfl (by decide) (fun a8 hA8 hF' => ?_)
            replace hF := hF'; clear hF'
            refine tk (i := 8) (d := 106) (v := undef) hF rfl rfl (by kernel_rfl) (by kernel_rfl) (by kernel_rfl) (fun _ _ _ h => h) (yi_skip rfl rfl (fr_at hF 5 rfl)) hS rfl (by decide) (fun a9 hA9 hF' => ?_)
            replace hF := hF'; clear hF'
            refine tk (i := 9) (d := 107) (v := .bool true) hF rfl rfl (by kernel_rfl) (by kernel_rfl) (by kernel_rfl) (fun _ _ _ h => h) (yi_go rfl (fun W hW => by have f100 := fr_at hF 6 rfl; have f106 := fr_at hF 0 rfl; go_simp)) hS rfl (by decide) (fun a10 hA10 hF' => ?_)
            replace hF := hF'; clear hF'
            refine tk (i := 10) (d := 2) (v := .bool true) hF rfl rfl (by kernel_rfl) (by kernel_rfl) (by kernel_rfl) (fun _ _ _ h => h) (yi_go rfl (fun W hW => ex_assign W rfl (fr_at hF 0 rfl))) hS rfl (by decide) (fun a11 hA11 hF' => ?_)
            replace hF := hF'; clear hF'
            refine wpAnyH_done (by kernel_rfl) ?_ _
            rw [← hA11, ← hA10, ← hA9, ← hA8, ← hA7, ← hA6, ← hA5, ← hA4, ← hA3, ← hA2, ← hA1, ← hA0]
            simp only [Act.put, List.setIfInBounds_toArray, List.set_cons_zero, List.set_cons_succ]
            clear hF
            have HB3 := Lib.hid (on HB2.out hS)
            clear hS
            go_wp2
            go_ret
            exact ⟨rfl, HB3.out⟩
  · have d1 : decide (20000 < (n : Int)) = true := by simp; omega
    clear hI hlen hcap
    go_enter Try.func5, Try.ntmps5
    go_wp2_with fail
    refine (alive_any _).mono ?_
    rintro e w1 ⟨rfl, hb1⟩
    have HB1 := Lib.hid hb1
    clear hb1
    go_wp2_with fail
    refine (alive_any _).mono ?_
    rintro e w2 ⟨rfl, hb2⟩
    have HB2 := Lib.hid (on HB1.out hb2)
    clear hb2
    go_wp2
    go_ret
    exact ⟨rfl, HB2.out⟩
end Go.Proofs.Ytmfmampcgadjhaa
