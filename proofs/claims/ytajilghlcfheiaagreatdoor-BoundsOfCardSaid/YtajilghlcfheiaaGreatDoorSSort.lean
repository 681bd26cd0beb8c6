/- The document's sort: bottom, top, join, meet, below. -/
import Derived.Test.YtajilghlcfheiaaGreatDoorBndRefK
namespace Go.Proofs.YtajilghlcfheiaaGreatDoor.Bnd
open Go.RowKit Go.Proofs.YtajilghlcfheiaaGreatDoorW.PrintWords
set_option linter.unusedVariables false
set_option maxRecDepth 20000
theorem rs_bot (v : Value) (S : SI) (w : World) (h : RS w v S) : Calls Tryz.prog 53 #[v] w fun e w' => e = .returned (.int .u64 ((S.bot : Nat) : Int)) ∧ Below w.heap.size w w' := by
  rcases h with ⟨rfl, rfl⟩ | ⟨A, n, c, rows, rfl, h2, h3, h4, h5, rfl⟩ | ⟨x, hx, rfl, rfl⟩
  · obtain ⟨z0, z1, z2⟩ := three_cells w (.int .i64 0) (.slice none 0 0) (.int .i64 0) 31
    have HB0 := Lib.hid (lit_below w (.cells #[.int .i64 0, .slice none 0 0, .int .i64 0] 31))
    go_enter Tryz.func53, Tryz.ntmps53
    go_wp2_with fail
    go_ret
    exact ⟨rfl, HB0.out⟩
  · obtain ⟨z0, z1, z2⟩ := three_cells w (.int .i64 1) (.slice A n c) (.int .i64 0) 31
    have HB0 := Lib.hid (lit_below w (.cells #[.int .i64 1, .slice A n c, .int .i64 0] 31))
    have HH := Lib.hid (refbot_any A n c rows h2 h5 _ (h4.below HB0.out))
    have HR := Lib.hid (show (latS rows).bot = botF rows from rfl)
    clear h2 h4 h5
    go_enter Tryz.func53, Tryz.ntmps53
    go_wp2_with fail
    refine HH.out.mono ?_
    rintro e w1 ⟨rfl, hb⟩
    have HB1 := Lib.hid (on HB0.out hb)
    clear hb
    go_wp2_with fail
    go_ret
    exact ⟨by rw [HR.out]; rfl, HB1.out⟩
  · obtain ⟨z0, z1, z2⟩ := three_cells w (.int .i64 2) (.slice none 0 0) (.int .i64 (x : Int)) 31
    have HB0 := Lib.hid (lit_below w (.cells #[.int .i64 2, .slice none 0 0, .int .i64 (x : Int)] 31))
    go_enter Tryz.func53, Tryz.ntmps53
    go_wp2_with fail
    go_ret
    exact ⟨rfl, HB0.out⟩
theorem rs_top (v : Value) (S : SI) (w : World) (h : RS w v S) : Calls Tryz.prog 54 #[v] w fun e w' => e = .returned (.int .u64 ((S.top : Nat) : Int)) ∧ Below w.heap.size w w' := by
  rcases h with ⟨rfl, rfl⟩ | ⟨A, n, c, rows, rfl, h2, h3, h4, h5, rfl⟩ | ⟨x, hx, rfl, rfl⟩
  · obtain ⟨z0, z1, z2⟩ := three_cells w (.int .i64 0) (.slice none 0 0) (.int .i64 0) 31
    have HB0 := Lib.hid (lit_below w (.cells #[.int .i64 0, .slice none 0 0, .int .i64 0] 31))
    go_enter Tryz.func54, Tryz.ntmps54
    go_wp2_with fail
    go_ret
    exact ⟨rfl, HB0.out⟩
  · obtain ⟨z0, z1, z2⟩ := three_cells w (.int .i64 1) (.slice A n c) (.int .i64 0) 31
    have HB0 := Lib.hid (lit_below w (.cells #[.int .i64 1, .slice A n c, .int .i64 0] 31))
    have HH := Lib.hid (reftop_any A n c rows h2 h5 _ (h4.below HB0.out))
    have HR := Lib.hid (show (latS rows).top = topF rows from rfl)
    clear h2 h4 h5
    go_enter Tryz.func54, Tryz.ntmps54
    go_wp2_with fail
    refine HH.out.mono ?_
    rintro e w1 ⟨rfl, hb⟩
    have HB1 := Lib.hid (on HB0.out hb)
    clear hb
    go_wp2_with fail
    go_ret
    exact ⟨by rw [HR.out]; rfl, HB1.out⟩
  · obtain ⟨z0, z1, z2⟩ := three_cells w (.int .i64 2) (.slice none 0 0) (.int .i64 (x : Int)) 31
    have HB0 := Lib.hid (lit_below w (.cells #[.int .i64 2, .slice none 0 0, .int .i64 (x : Int)] 31))
    have HH := Lib.hid (fun W => Eff.rtop_any x hx W)
    have HR := Lib.hid (show (effB (Eff.full x)).top = Eff.full x from rfl)
    go_enter Tryz.func54, Tryz.ntmps54
    go_wp2_with fail
    refine (HH.out _).mono ?_
    rintro e w1 ⟨rfl, rfl⟩
    go_wp2_with fail
    go_ret
    exact ⟨by rw [HR.out]; rfl, HB0.out⟩
theorem eff_belowM {t a b : Nat} (ht : t < 18446744073709551616) (ha : a < 18446744073709551616) (hb : b < 18446744073709551616) : (effB t).below a b = Eff.belowM (some t) a b := by
  show _ = (Eff.hasM (some t) a && Eff.hasM (some t) b && (Eff.anot a b == 0))
  rw [show Eff.hasM (some t) a = (a ||| t == t) from Eff.anot_zero a t ha ht, show Eff.hasM (some t) b = (b ||| t == t) from Eff.anot_zero b t hb ht, Eff.anot_zero a b ha hb]
  rfl
theorem eff_joinM {t a b : Nat} (ht : t < 18446744073709551616) (ha : a < 18446744073709551616) (hb : b < 18446744073709551616) : (effB t).join a b = Eff.joinM (some t) a b := by
  show _ = (if Eff.hasM (some t) a && Eff.hasM (some t) b then a ||| b else 0)
  rw [show Eff.hasM (some t) a = (a ||| t == t) from Eff.anot_zero a t ha ht, show Eff.hasM (some t) b = (b ||| t == t) from Eff.anot_zero b t hb ht]
  rfl
theorem eff_meetM {t a b : Nat} (ht : t < 18446744073709551616) (ha : a < 18446744073709551616) (hb : b < 18446744073709551616) : (effB t).meet a b = Eff.meetM (some t) a b := by
  show _ = (if Eff.hasM (some t) a && Eff.hasM (some t) b then a &&& b else 0)
  rw [show Eff.hasM (some t) a = (a ||| t == t) from Eff.anot_zero a t ha ht, show Eff.hasM (some t) b = (b ||| t == t) from Eff.anot_zero b t hb ht]
  rfl
theorem rs_below (v : Value) (S : SI) (a b : Nat) (ha : a < 18446744073709551616) (hb : b < 18446744073709551616) (w : World) (h : RS w v S) : Calls Tryz.prog 58 #[v, .int .u64 (a : Int), .int .u64 (b : Int)] w fun e w' => e = .returned (.bool (S.below a b)) ∧ Below w.heap.size w w' := by
  rcases h with ⟨rfl, rfl⟩ | ⟨A, n, c, rows, rfl, h2, h3, h4, h5, rfl⟩ | ⟨x, hx, rfl, rfl⟩
  · obtain ⟨z0, z1, z2⟩ := three_cells w (.int .i64 0) (.slice none 0 0) (.int .i64 0) 31
    have HB0 := Lib.hid (lit_below w (.cells #[.int .i64 0, .slice none 0 0, .int .i64 0] 31))
    go_enter Tryz.func58, Tryz.ntmps58
    go_wp2_with fail
    go_ret
    exact ⟨rfl, HB0.out⟩
  · obtain ⟨z0, z1, z2⟩ := three_cells w (.int .i64 1) (.slice A n c) (.int .i64 0) 31
    have HB0 := Lib.hid (lit_below w (.cells #[.int .i64 1, .slice A n c, .int .i64 0] 31))
    have HH := Lib.hid (refbelow_any A n c rows h2 (by omega) a b ha hb _ (h4.below HB0.out))
    have HR := Lib.hid (show (latS rows).below a b = rowB rows a b from rfl)
    generalize rowB rows a b = q at HH HR
    clear h2 h4 h5
    go_enter Tryz.func58, Tryz.ntmps58
    go_wp2_with fail
    refine HH.out.mono ?_
    rintro e w1 ⟨rfl, rfl⟩
    cases q with
    | true =>
      go_wp2_with fail
      go_ret
      exact ⟨by rw [HR.out]; rfl, HB0.out⟩
    | false =>
      go_wp2_with fail
      go_ret
      exact ⟨by rw [HR.out]; rfl, HB0.out⟩
  · obtain ⟨z0, z1, z2⟩ := three_cells w (.int .i64 2) (.slice none 0 0) (.int .i64 (x : Int)) 31
    have HB0 := Lib.hid (lit_below w (.cells #[.int .i64 2, .slice none 0 0, .int .i64 (x : Int)] 31))
    have HH := Lib.hid (fun W => Eff.rbelow_any x a b hx ha hb W)
    have HR := Lib.hid (eff_belowM (Eff.full_lt x hx) ha hb)
    generalize Eff.belowM (some (Eff.full x)) a b = q at HH HR
    go_enter Tryz.func58, Tryz.ntmps58
    go_wp2_with fail
    refine (HH.out _).mono ?_
    rintro e w1 ⟨rfl, rfl⟩
    go_wp2_with fail
    go_ret
    exact ⟨by rw [HR.out]; rfl, HB0.out⟩
theorem rs_join (v : Value) (S : SI) (a b : Nat) (ha : a < 18446744073709551616) (hb : b < 18446744073709551616) (hha : S.has a = true) (hhb : S.has b = true) (w : World) (h : RS w v S) : Calls Tryz.prog 57 #[v, .int .u64 (a : Int), .int .u64 (b : Int)] w fun e w' => e = .returned (.int .u64 ((S.join a b : Nat) : Int)) ∧ Below w.heap.size w w' := by
  have HRS := Lib.hid h
  have HA := Lib.hid hha
  have HBB := Lib.hid hhb
  have HLA := Lib.hid ha
  have HLB := Lib.hid hb
  clear hha hhb
  rcases h with ⟨rfl, rfl⟩ | ⟨A, n, c, rows, rfl, h2, h3, h4, h5, rfl⟩ | ⟨x, hx, rfl, rfl⟩
  · cases HA.out
  · obtain ⟨z0, z1, z2⟩ := three_cells w (.int .i64 1) (.slice A n c) (.int .i64 0) 31
    have HB0 := Lib.hid (lit_below w (.cells #[.int .i64 1, .slice A n c, .int .i64 0] 31))
    have HH := Lib.hid (fun W (hW : Below w.heap.size w W) => refjoin_any A n c rows h2 h5 a b ha hb W (h4.below hW))
    have HR := Lib.hid (show (latS rows).join a b = joinF rows a b from rfl)
    have HS1 := Lib.hid (fun W (hW : Below w.heap.size w W) => rs_has _ _ a ha W (HRS.out.below hW))
    have HS2 := Lib.hid (fun W (hW : Below w.heap.size w W) => rs_has _ _ b hb W (HRS.out.below hW))
    rw [HA.out] at HS1
    rw [HBB.out] at HS2
    generalize joinF rows a b = y at HH HR
    clear h2 h4 h5 HRS ha hb
    go_enter Tryz.func57, Tryz.ntmps57
    go_wp2_with fail
    refine (HS1.out _ HB0.out).mono ?_
    rintro e w1 ⟨rfl, hb1⟩
    have HB1 := Lib.hid (on HB0.out hb1)
    replace z0 := cell_below z0 hb1
    replace z1 := cell_below z1 hb1
    replace z2 := cell_below z2 hb1
    clear hb1 HS1 HB0
    go_wp2_with fail
    refine (HS2.out _ HB1.out).mono ?_
    rintro e w2 ⟨rfl, hb2⟩
    have HB2 := Lib.hid (on HB1.out hb2)
    replace z0 := cell_below z0 hb2
    replace z1 := cell_below z1 hb2
    replace z2 := cell_below z2 hb2
    clear hb2 HS2 HB1
    go_wp2_with fail
    refine (HH.out _ HB2.out).mono ?_
    rintro e w3 ⟨rfl, hb3⟩
    have HB3 := Lib.hid (on HB2.out hb3)
    clear hb3 HB2
    go_wp2_with fail
    go_ret
    exact ⟨by rw [HR.out]; rfl, HB3.out⟩
  · obtain ⟨z0, z1, z2⟩ := three_cells w (.int .i64 2) (.slice none 0 0) (.int .i64 (x : Int)) 31
    have HB0 := Lib.hid (lit_below w (.cells #[.int .i64 2, .slice none 0 0, .int .i64 (x : Int)] 31))
    have HH := Lib.hid (fun W => Eff.rjoin_any x a b hx ha hb W)
    have HR := Lib.hid (eff_joinM (Eff.full_lt x hx) ha hb)
    have HS1 := Lib.hid (fun W (hW : Below w.heap.size w W) => rs_has _ _ a ha W (HRS.out.below hW))
    have HS2 := Lib.hid (fun W (hW : Below w.heap.size w W) => rs_has _ _ b hb W (HRS.out.below hW))
    rw [HA.out] at HS1
    rw [HBB.out] at HS2
    generalize Eff.joinM (some (Eff.full x)) a b = y at HH HR
    clear HRS ha hb
    go_enter Tryz.func57, Tryz.ntmps57
    go_wp2_with fail
    refine (HS1.out _ HB0.out).mono ?_
    rintro e w1 ⟨rfl, hb1⟩
    have HB1 := Lib.hid (on HB0.out hb1)
    replace z0 := cell_below z0 hb1
    replace z1 := cell_below z1 hb1
    replace z2 := cell_below z2 hb1
    clear hb1 HS1 HB0
    go_wp2_with fail
    refine (HS2.out _ HB1.out).mono ?_
    rintro e w2 ⟨rfl, hb2⟩
    have HB2 := Lib.hid (on HB1.out hb2)
    replace z0 := cell_below z0 hb2
    replace z1 := cell_below z1 hb2
    replace z2 := cell_below z2 hb2
    clear hb2 HS2 HB1
    go_wp2_with fail
    refine (HH.out _).mono ?_
    rintro e w3 ⟨rfl, rfl⟩
    go_wp2_with fail
    go_ret
    exact ⟨by rw [HR.out]; rfl, HB2.out⟩
theorem rs_meet (v : Value) (S : SI) (a b : Nat) (ha : a < 18446744073709551616) (hb : b < 18446744073709551616) (hha : S.has a = true) (hhb : S.has b = true) (w : World) (h : RS w v S) : Calls Tryz.prog 59 #[v, .int .u64 (a : Int), .int .u64 (b : Int)] w fun e w' => e = .returned (.int .u64 ((S.meet a b : Nat) : Int)) ∧ Below w.heap.size w w' := by
  have HRS := Lib.hid h
  have HA := Lib.hid hha
  have HBB := Lib.hid hhb
  have HLA := Lib.hid ha
  have HLB := Lib.hid hb
  clear hha hhb
  rcases h with ⟨rfl, rfl⟩ | ⟨A, n, c, rows, rfl, h2, h3, h4, h5, rfl⟩ | ⟨x, hx, rfl, rfl⟩
  · cases HA.out
  · obtain ⟨z0, z1, z2⟩ := three_cells w (.int .i64 1) (.slice A n c) (.int .i64 0) 31
    have HB0 := Lib.hid (lit_below w (.cells #[.int .i64 1, .slice A n c, .int .i64 0] 31))
    have HH := Lib.hid (fun W (hW : Below w.heap.size w W) => refmeet_any A n c rows h2 h5 a b ha hb W (h4.below hW))
    have HR := Lib.hid (show (latS rows).meet a b = meetF rows a b from rfl)
    have HS1 := Lib.hid (fun W (hW : Below w.heap.size w W) => rs_has _ _ a ha W (HRS.out.below hW))
    have HS2 := Lib.hid (fun W (hW : Below w.heap.size w W) => rs_has _ _ b hb W (HRS.out.below hW))
    rw [HA.out] at HS1
    rw [HBB.out] at HS2
    generalize meetF rows a b = y at HH HR
    clear h2 h4 h5 HRS ha hb
    go_enter Tryz.func59, Tryz.ntmps59
    go_wp2_with fail
    refine (HS1.out _ HB0.out).mono ?_
    rintro e w1 ⟨rfl, hb1⟩
    have HB1 := Lib.hid (on HB0.out hb1)
    replace z0 := cell_below z0 hb1
    replace z1 := cell_below z1 hb1
    replace z2 := cell_below z2 hb1
    clear hb1 HS1 HB0
    go_wp2_with fail
    refine (HS2.out _ HB1.out).mono ?_
    rintro e w2 ⟨rfl, hb2⟩
    have HB2 := Lib.hid (on HB1.out hb2)
    replace z0 := cell_below z0 hb2
    replace z1 := cell_below z1 hb2
    replace z2 := cell_below z2 hb2
    clear hb2 HS2 HB1
    go_wp2_with fail
    refine (HH.out _ HB2.out).mono ?_
    rintro e w3 ⟨rfl, hb3⟩
    have HB3 := Lib.hid (on HB2.out hb3)
    clear hb3 HB2
    go_wp2_with fail
    go_ret
    exact ⟨by rw [HR.out]; rfl, HB3.out⟩
  · obtain ⟨z0, z1, z2⟩ := three_cells w (.int .i64 2) (.slice none 0 0) (.int .i64 (x : Int)) 31
    have HB0 := Lib.hid (lit_below w (.cells #[.int .i64 2, .slice none 0 0, .int .i64 (x : Int)] 31))
    have HH := Lib.hid (fun W => Eff.rmeet_any x a b hx ha hb W)
    have HR := Lib.hid (eff_meetM (Eff.full_lt x hx) ha hb)
    have HS1 := Lib.hid (fun W (hW : Below w.heap.size w W) => rs_has _ _ a ha W (HRS.out.below hW))
    have HS2 := Lib.hid (fun W (hW : Below w.heap.size w W) => rs_has _ _ b hb W (HRS.out.below hW))
    rw [HA.out] at HS1
    rw [HBB.out] at HS2
    generalize Eff.meetM (some (Eff.full x)) a b = y at HH HR
    clear HRS ha hb
    go_enter Tryz.func59, Tryz.ntmps59
    go_wp2_with fail
    refine (HS1.out _ HB0.out).mono ?_
    rintro e w1 ⟨rfl, hb1⟩
    have HB1 := Lib.hid (on HB0.out hb1)
    replace z0 := cell_below z0 hb1
    replace z1 := cell_below z1 hb1
    replace z2 := cell_below z2 hb1
    clear hb1 HS1 HB0
    go_wp2_with fail
    refine (HS2.out _ HB1.out).mono ?_
    rintro e w2 ⟨rfl, hb2⟩
    have HB2 := Lib.hid (on HB1.out hb2)
    replace z0 := cell_below z0 hb2
    replace z1 := cell_below z1 hb2
    replace z2 := cell_below z2 hb2
    clear hb2 HS2 HB1
    go_wp2_with fail
    refine (HH.out _).mono ?_
    rintro e w3 ⟨rfl, rfl⟩
    go_wp2_with fail
    go_ret
    exact ⟨by rw [HR.out]; rfl, HB2.out⟩
end Go.Proofs.YtajilghlcfheiaaGreatDoor.Bnd
