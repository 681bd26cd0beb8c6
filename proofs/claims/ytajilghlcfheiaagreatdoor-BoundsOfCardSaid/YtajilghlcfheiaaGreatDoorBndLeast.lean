/- The document's Least and Greatest. -/
import Derived.Test.YtajilghlcfheiaaGreatDoorBndBase
namespace Go.Proofs.YtajilghlcfheiaaGreatDoor.Bnd
set_option maxRecDepth 20000
open Go.RowKit Go.Proofs.YtajilghlcfheiaaGreatDoorW.PrintWords
theorem fr_only {n : Nat} {a : Act} {l : List (Nat × Value)} (h : Hid (Fr n a l)) (k : Nat) {p : Nat × Value} (hk : l[k]? = some p) : Hid (Fr n a [p]) :=
  Lib.hid ⟨h.out.size, by
    intro p' hp
    obtain rfl := List.mem_singleton.1 hp
    exact h.out.held _ (List.mem_of_getElem? hk)⟩
theorem all_succ (f : Nat → Bool) (j : Nat) : (List.range (j + 1)).all f = ((List.range j).all f && f j) := by simp [List.range_succ]
/-- is one of some such that P holds of it and of all of them? -/
def someAll (P : Nat → Nat → Bool) (S : List Nat) : Bool := (List.range S.length).any fun i => (List.range S.length).all fun j => P (S.getD i 0) (S.getD j 0)
set_option maxRecDepth 20000 in
set_option maxHeartbeats 2000000 in
theorem least_any (A : Option Addr) (n c : Nat) (rows : List Nat) (hn : n = rows.length) (hmax : n ≤ 64) (A2 : Option Addr) (m c2 : Nat) (S : List Nat) (hm : m = S.length) (hmm : m ≤ 64) (w : World) (hI : Nums w A rows) (hJ : Nums w A2 S) : Calls Tryz.prog 168 #[.slice A n c, .slice A2 m c2] w fun e w' => (∃ x, e = .returned (.tuple #[.int .u64 x, .bool (someAll (fun x y => rowB rows x y) S)])) ∧ Below w.heap.size w w' := by
  have HI := Lib.hid hI
  have HJ := Lib.hid hJ
  have HN := Lib.hid hn
  have HM := Lib.hid hm
  clear hI hJ hn hm
  go_enter Tryz.func168, Tryz.ntmps168
  go_wp2
  go_loopw [6] (fun v W => ∃ i : Nat, i ≤ m ∧ v = .int .i64 i ∧ Hid (∀ i', i' < i → ((List.range m).all fun j => (fun x y => rowB rows x y) (S.getD i' 0) (S.getD j 0)) = false) ∧ Hid (Below w.heap.size w W)) (fun v _ => m - (intOf v).toNat)
  case atStart => exact ⟨0, by omega, rfl, fun i' h => by omega, Below.refl _ w⟩
  case round =>
    obtain ⟨i, hi, rfl, H1, HB⟩ := hrel
    by_cases hin : i < m
    · have hil : i < S.length := by have := HM.out; omega
      obtain ⟨sb, so, rfl, _, hc0⟩ := HJ.out.2 (by omega)
      clear hc0
      have i1 : (0 : Int) ≤ (i : Int) := by omega
      have i2 : (i : Int) < (m : Int) := by omega
      have HBO := HB
      clear HB
      go_wp2
      go_loopw [7, 8] (fun t v W => ∃ (j : Nat) (W' : World) (q : Bool), W' = W ∧ j ≤ m ∧ v = .int .i64 j ∧ t = .bool q ∧ Hid (q = (List.range j).all fun j => (fun x y => rowB rows x y) (S.getD i 0) (S.getD j 0)) ∧ Hid (Below w.heap.size w W)) (fun _ v _ => m - (intOf v).toNat)
      case atStart => exact ⟨0, _, true, rfl, by omega, rfl, rfl, by rfl, HBO⟩
      case round =>
        clear HBO
        obtain ⟨j, wd, q, rfl, hj, rfl, rfl, HQ, HB⟩ := hrel
        by_cases hjn : j < m
        · have hjl : j < S.length := by have := HM.out; omega
          have HIq := Lib.hid (HI.out.below HB.out)
          have HJq := Lib.hid (HJ.out.below HB.out)
          obtain ⟨_, _, e, _, hc⟩ := HJq.out.2 (by omega)
          obtain ⟨rfl, rfl, _⟩ := Addr.mk.inj (Option.some.inj e)
          have ci := hc i hil
          have cj := hc j hjl
          have hxi := HJq.out.1 S[i] (List.getElem_mem hil)
          have hxj := HJq.out.1 S[j] (List.getElem_mem hjl)
          have hgi : S.getD i 0 = S[i] := by simp [List.getD, hil]
          have hgj : S.getD j 0 = S[j] := by simp [List.getD, hjl]
          generalize S[i] = xi at ci hxi hgi
          generalize S[j] = xj at cj hxj hgj
          have HB1 := Lib.hid (fun W (h : Below wd.heap.size wd W) => refbelow_any A n c rows HN.out (by omega) xi xj hxi hxj W (HIq.out.below h))
          have HP := Lib.hid (show (fun x y => rowB rows x y) (S.getD i 0) (S.getD j 0) = rowB rows xi xj by rw [hgi, hgj])
          obtain ⟨p, hp⟩ : ∃ p, p = rowB rows xi xj := ⟨_, rfl⟩
          rw [← hp] at HB1 HP
          have j1 : (0 : Int) ≤ (j : Int) := by omega
          have j2 : (j : Int) < (m : Int) := by omega
          clear hgi hgj hp e hc hxi hxj
          cases q with
          | false =>
            go_wp2
            refine wp_region_held (S := fun W => Below wd.heap.size wd W) (by kernel_rfl) ?_
            generalize hA0 : Act.mk _ _ = a0
            have hF := Fr.nil (n := 39) (a := a0) (by rw [← hA0]; rfl)
            replace hF := Fr.cons hF 8 (.int .i64 j) (by rw [← hA0]; rfl)
            replace hF := Fr.cons hF 7 (.bool false) (by rw [← hA0]; rfl)
            replace hF := Fr.cons hF 6 (.int .i64 i) (by rw [← hA0]; rfl)
            replace hF := Fr.cons hF 1 (.slice (some ⟨sb, so, none⟩) m c2) (by rw [← hA0]; rfl)
            replace hF := Fr.cons hF 0 (.slice A n c) (by rw [← hA0]; rfl)
            have hS : Below wd.heap.size wd (World.drew _) := (Below.refl _ wd).drew
            change wpAnyH _ _ _ _ _ _ _ _ (World.drew _)
            refine tk (i := 0) (d := 21) (v := .bool false) hF rfl rfl (by kernel_rfl) (by kernel_rfl) (by kernel_rfl) (fun _ _ _ h => h) (yi_go rfl (fun W hW => ex_move W rfl (fr_at hF 3 rfl))) hS rfl (by decide) (fun a1 hA1 hF' => ?_)
            replace hF := hF'; clear hF'
            refine tk (i := 1) (d := 22) (v := .bool false) hF rfl rfl (by kernel_rfl) (by kernel_rfl) (by kernel_rfl) (fun _ _ _ h => h) (yi_go rfl (fun W hW => ex_move W rfl (fr_at hF 0 rfl))) hS rfl (by decide) (fun a2 hA2 hF' => ?_)
            replace hF := hF'; clear hF'
            refine tk (i := 2) (d := 23) (v := undef) hF rfl rfl (by kernel_rfl) (by kernel_rfl) (by kernel_rfl) (fun _ _ _ h => h) (yi_skip rfl rfl (fr_at hF 0 rfl)) hS rfl (by decide) (fun a3 hA3 hF' => ?_)
            replace hF := hF'; clear hF'
            refine tk (i := 3) (d := 24) (v := undef) hF rfl rfl (by kernel_rfl) (by kernel_rfl) (by kernel_rfl) (fun _ _ _ h => h) (yi_skip rfl rfl (fr_at hF 1 rfl)) hS rfl (by decide) (fun a4 hA4 hF' => ?_)
            replace hF := hF'; clear hF'
            refine tk (i := 4) (d := 25) (v := undef) hF rfl rfl (by kernel_rfl) (by kernel_rfl) (by kernel_rfl) (fun _ _ _ h => h) (yi_skip rfl rfl (fr_at hF 2 rfl)) hS rfl (by decide) (fun a5 hA5 hF' => ?_)
            replace hF := hF'; clear hF'
            refine tk (i := 5) (d := 26) (v := undef) hF rfl rfl (by kernel_rfl) (by kernel_rfl) (by kernel_rfl) (fun _ _ _ h => h) (yi_skip rfl rfl (fr_at hF 3 rfl)) hS rfl (by decide) (fun a6 hA6 hF' => ?_)
            replace hF := hF'; clear hF'
            refine tk (i := 6) (d := 27) (v := undef) hF rfl rfl (by kernel_rfl) (by kernel_rfl) (by kernel_rfl) (fun _ _ _ h => h) (yi_skip rfl rfl (fr_at hF 4 rfl)) hS rfl (by decide) (fun a7 hA7 hF' => ?_)
            replace hF := hF'; clear hF'
            refine tk (i := 7) (d := 28) (v := undef) hF rfl rfl (by kernel_rfl) (by kernel_rfl) (by kernel_rfl) (fun _ _ _ h => h) (yi_skip rfl rfl (fr_at hF 5 rfl)) hS rfl (by decide) (fun a8 hA8 hF' => ?_)
            replace hF := hF'; clear hF'
            refine tk (i := 8) (d := 29) (v := undef) hF rfl rfl (by kernel_rfl) (by kernel_rfl) (by kernel_rfl) (fun _ _ _ h => h) (yi_skip rfl rfl (fr_at hF 6 rfl)) hS rfl (by decide) (fun a9 hA9 hF' => ?_)
            replace hF := hF'; clear hF'
            refine tk (i := 9) (d := 30) (v := undef) hF rfl rfl (by kernel_rfl) (by kernel_rfl) (by kernel_rfl) (fun _ _ _ h => h) (yi_skip rfl rfl (fr_at hF 7 rfl)) hS rfl (by decide) (fun a10 hA10 hF' => ?_)
            replace hF := hF'; clear hF'
            refine tk (i := 10) (d := 31) (v := undef) hF rfl rfl (by kernel_rfl) (by kernel_rfl) (by kernel_rfl) (fun _ _ _ h => h) (yi_skip rfl rfl (fr_at hF 8 rfl)) hS rfl (by decide) (fun a11 hA11 hF' => ?_)
            replace hF := hF'; clear hF'
            refine tk (i := 11) (d := 32) (v := undef) hF rfl rfl (by kernel_rfl) (by kernel_rfl) (by kernel_rfl) (fun _ _ _ h => h) (yi_skip rfl rfl (fr_at hF 9 rfl)) hS rfl (by decide) (fun a12 hA12 hF' => ?_)
            replace hF := hF'; clear hF'
            refine tk (i := 12) (d := 33) (v := .bool false) hF rfl rfl (by kernel_rfl) (by kernel_rfl) (by kernel_rfl) (fun _ _ _ h => h) (yi_go rfl (fun W hW => by have f22 := fr_at hF 10 rfl; have f32 := fr_at hF 0 rfl; go_simp)) hS rfl (by decide) (fun a13 hA13 hF' => ?_)
            replace hF := hF'; clear hF'
            replace hF := fr_only hF 0 (p := (33, .bool false)) rfl
            refine tk (i := 13) (d := 7) (v := .bool false) hF rfl rfl (by kernel_rfl) (by kernel_rfl) (by kernel_rfl) (fun _ _ _ h => h) (yi_go rfl (fun W hW => ex_assign W rfl (fr_at hF 0 rfl))) hS rfl (by decide) (fun a14 hA14 hF' => ?_)
            replace hF := hF'; clear hF'
            refine wpAnyH_done (by kernel_rfl) ?_ _
            rw [← hA14, ← hA13, ← hA12, ← hA11, ← hA10, ← hA9, ← hA8, ← hA7, ← hA6, ← hA5, ← hA4, ← hA3, ← hA2, ← hA1, ← hA0]
            simp only [Act.put, List.setIfInBounds_toArray, List.set_cons_zero, List.set_cons_succ]
            clear hF
            go_wp2
            go_roundw
            case rel => exact ⟨j + 1, _, _, rfl, by omega, by go_num, rfl, by rw [all_succ, ← HQ.out]; rfl, on HB.out hS⟩
            case measure => simp [intOf]; omega
          | true =>
            cases p with
            | false =>
              go_wp2
              refine wp_region_held (S := fun W => Below wd.heap.size wd W) (by kernel_rfl) ?_
              generalize hA0 : Act.mk _ _ = a0
              have hF := Fr.nil (n := 39) (a := a0) (by rw [← hA0]; rfl)
              replace hF := Fr.cons hF 8 (.int .i64 j) (by rw [← hA0]; rfl)
              replace hF := Fr.cons hF 7 (.bool true) (by rw [← hA0]; rfl)
              replace hF := Fr.cons hF 6 (.int .i64 i) (by rw [← hA0]; rfl)
              replace hF := Fr.cons hF 1 (.slice (some ⟨sb, so, none⟩) m c2) (by rw [← hA0]; rfl)
              replace hF := Fr.cons hF 0 (.slice A n c) (by rw [← hA0]; rfl)
              have hS : Below wd.heap.size wd (World.drew _) := (Below.refl _ wd).drew
              change wpAnyH _ _ _ _ _ _ _ _ (World.drew _)
              refine tk (i := 0) (d := 21) (v := .bool true) hF rfl rfl (by kernel_rfl) (by kernel_rfl) (by kernel_rfl) (fun _ _ _ h => h) (yi_go rfl (fun W hW => ex_move W rfl (fr_at hF 3 rfl))) hS rfl (by decide) (fun a1 hA1 hF' => ?_)
              replace hF := hF'; clear hF'
              refine tk (i := 1) (d := 22) (v := .bool true) hF rfl rfl (by kernel_rfl) (by kernel_rfl) (by kernel_rfl) (fun _ _ _ h => h) (yi_go rfl (fun W hW => ex_move W rfl (fr_at hF 0 rfl))) hS rfl (by decide) (fun a2 hA2 hF' => ?_)
              replace hF := hF'; clear hF'
              refine tk (i := 2) (d := 23) (v := .slice A n c) hF rfl rfl (by kernel_rfl) (by kernel_rfl) (by kernel_rfl) (fun _ _ _ h => h) (yi_want rfl rfl (fr_at hF 0 rfl) (fun W hW => ex_move W rfl (fr_at hF 2 rfl))) hS rfl (by decide) (fun a3 hA3 hF' => ?_)
              replace hF := hF'; clear hF'
              refine tk (i := 3) (d := 24) (v := .slice (some ⟨sb, so, none⟩) m c2) hF rfl rfl (by kernel_rfl) (by kernel_rfl) (by kernel_rfl) (fun _ _ _ h => h) (yi_want rfl rfl (fr_at hF 1 rfl) (fun W hW => ex_move W rfl (fr_at hF 4 rfl))) hS rfl (by decide) (fun a4 hA4 hF' => ?_)
              replace hF := hF'; clear hF'
              refine tk (i := 4) (d := 25) (v := .int .i64 i) hF rfl rfl (by kernel_rfl) (by kernel_rfl) (by kernel_rfl) (fun _ _ _ h => h) (yi_want rfl rfl (fr_at hF 2 rfl) (fun W hW => ex_move W rfl (fr_at hF 6 rfl))) hS rfl (by decide) (fun a5 hA5 hF' => ?_)
              replace hF := hF'; clear hF'
              refine tk (i := 5) (d := 26) (v := .pointer (some ⟨sb, so + i, none⟩)) hF rfl rfl (by kernel_rfl) (by kernel_rfl) (by kernel_rfl) (fun _ _ _ h => h) (yi_want rfl rfl (fr_at hF 3 rfl) (fun W hW => by have f24 := fr_at hF 1 rfl; have f25 := fr_at hF 0 rfl; go_simp)) hS rfl (by decide) (fun a6 hA6 hF' => ?_)
              replace hF := hF'; clear hF'
              refine tk (i := 6) (d := 27) (v := .int .u64 (xi : Int)) hF rfl rfl (by kernel_rfl) (by kernel_rfl) (by kernel_rfl) (fun _ _ _ h => h) (yi_want rfl rfl (fr_at hF 4 rfl) (fun W hW => by replace ci := (hW.cell (p := ⟨sb, so + i, none⟩) (World.block_lt_of_cell? _ _ ci)).trans ci; have f26 := fr_at hF 0 rfl; go_simp)) hS rfl (by decide) (fun a7 hA7 hF' => ?_)
              replace hF := hF'; clear hF'
              refine tk (i := 7) (d := 28) (v := .slice (some ⟨sb, so, none⟩) m c2) hF rfl rfl (by kernel_rfl) (by kernel_rfl) (by kernel_rfl) (fun _ _ _ h => h) (yi_want rfl rfl (fr_at hF 5 rfl) (fun W hW => ex_move W rfl (fr_at hF 8 rfl))) hS rfl (by decide) (fun a8 hA8 hF' => ?_)
              replace hF := hF'; clear hF'
              refine tk (i := 8) (d := 29) (v := .int .i64 j) hF rfl rfl (by kernel_rfl) (by kernel_rfl) (by kernel_rfl) (fun _ _ _ h => h) (yi_want rfl rfl (fr_at hF 6 rfl) (fun W hW => ex_move W rfl (fr_at hF 12 rfl))) hS rfl (by decide) (fun a9 hA9 hF' => ?_)
              replace hF := hF'; clear hF'
              refine tk (i := 9) (d := 30) (v := .pointer (some ⟨sb, so + j, none⟩)) hF rfl rfl (by kernel_rfl) (by kernel_rfl) (by kernel_rfl) (fun _ _ _ h => h) (yi_want rfl rfl (fr_at hF 7 rfl) (fun W hW => by have f28 := fr_at hF 1 rfl; have f29 := fr_at hF 0 rfl; go_simp)) hS rfl (by decide) (fun a10 hA10 hF' => ?_)
              replace hF := hF'; clear hF'
              refine tk (i := 10) (d := 31) (v := .int .u64 (xj : Int)) hF rfl rfl (by kernel_rfl) (by kernel_rfl) (by kernel_rfl) (fun _ _ _ h => h) (yi_want rfl rfl (fr_at hF 8 rfl) (fun W hW => by replace cj := (hW.cell (p := ⟨sb, so + j, none⟩) (World.block_lt_of_cell? _ _ cj)).trans cj; have f30 := fr_at hF 0 rfl; go_simp)) hS rfl (by decide) (fun a11 hA11 hF' => ?_)
              replace hF := hF'; clear hF'
              refine wpAnyH_ready (rs := [11]) (by kernel_rfl) (by simp) ?_
              refine AllReadyH.cons rfl (fun K hK => ?_) AllReadyH.nil
              rw [if_pos (by rw [guard_at rfl rfl (fr_at hF 9 rfl)]; rfl)]
              have f23 := fr_at hF 8 rfl
              have f27 := fr_at hF 4 rfl
              have f31 := fr_at hF 0 rfl
              go_simp
              clear f23 f27 f31
              go_at_call 112
              refine (HB1.out _ hS).mono ?_
              rintro e wa ⟨rfl, rfl⟩
              go_wp2_with fail
              refine hK.out _ _ (hS) (fun _ => ?_)
              replace hS := hS
              clear hK K
              change wpAnyH _ _ _ _ _ _ _ (a11.put (some 32) (.bool false)) _
              have hF' := fr_put hF 32 (.bool false) rfl (by decide)
              generalize hA12 : Act.put a11 (some 32) (.bool false) = a12 at hF' ⊢
              replace hF := hF'; clear hF'
              refine tk (i := 12) (d := 33) (v := .bool false) hF rfl rfl (by kernel_rfl) (by kernel_rfl) (by kernel_rfl) (fun _ _ _ h => h) (yi_go rfl (fun W hW => by have f22 := fr_at hF 10 rfl; have f32 := fr_at hF 0 rfl; go_simp)) hS rfl (by decide) (fun a13 hA13 hF' => ?_)
              replace hF := hF'; clear hF'
              replace hF := fr_only hF 0 (p := (33, .bool false)) rfl
              refine tk (i := 13) (d := 7) (v := .bool false) hF rfl rfl (by kernel_rfl) (by kernel_rfl) (by kernel_rfl) (fun _ _ _ h => h) (yi_go rfl (fun W hW => ex_assign W rfl (fr_at hF 0 rfl))) hS rfl (by decide) (fun a14 hA14 hF' => ?_)
              replace hF := hF'; clear hF'
              refine wpAnyH_done (by kernel_rfl) ?_ _
              rw [← hA14, ← hA13, ← hA12, ← hA11, ← hA10, ← hA9, ← hA8, ← hA7, ← hA6, ← hA5, ← hA4, ← hA3, ← hA2, ← hA1, ← hA0]
              simp only [Act.put, List.setIfInBounds_toArray, List.set_cons_zero, List.set_cons_succ]
              clear hF
              go_wp2
              go_roundw
              case rel => exact ⟨j + 1, _, _, rfl, by omega, by go_num, rfl, by rw [all_succ, ← HQ.out, HP.out]; rfl, on HB.out hS⟩
              case measure => simp [intOf]; omega
            | true =>
              go_wp2
              refine wp_region_held (S := fun W => Below wd.heap.size wd W) (by kernel_rfl) ?_
              generalize hA0 : Act.mk _ _ = a0
              have hF := Fr.nil (n := 39) (a := a0) (by rw [← hA0]; rfl)
              replace hF := Fr.cons hF 8 (.int .i64 j) (by rw [← hA0]; rfl)
              replace hF := Fr.cons hF 7 (.bool true) (by rw [← hA0]; rfl)
              replace hF := Fr.cons hF 6 (.int .i64 i) (by rw [← hA0]; rfl)
              replace hF := Fr.cons hF 1 (.slice (some ⟨sb, so, none⟩) m c2) (by rw [← hA0]; rfl)
              replace hF := Fr.cons hF 0 (.slice A n c) (by rw [← hA0]; rfl)
              have hS : Below wd.heap.size wd (World.drew _) := (Below.refl _ wd).drew
              change wpAnyH _ _ _ _ _ _ _ _ (World.drew _)
              refine tk (i := 0) (d := 21) (v := .bool true) hF rfl rfl (by kernel_rfl) (by kernel_rfl) (by kernel_rfl) (fun _ _ _ h => h) (yi_go rfl (fun W hW => ex_move W rfl (fr_at hF 3 rfl))) hS rfl (by decide) (fun a1 hA1 hF' => ?_)
              replace hF := hF'; clear hF'
              refine tk (i := 1) (d := 22) (v := .bool true) hF rfl rfl (by kernel_rfl) (by kernel_rfl) (by kernel_rfl) (fun _ _ _ h => h) (yi_go rfl (fun W hW => ex_move W rfl (fr_at hF 0 rfl))) hS rfl (by decide) (fun a2 hA2 hF' => ?_)
              replace hF := hF'; clear hF'
              refine tk (i := 2) (d := 23) (v := .slice A n c) hF rfl rfl (by kernel_rfl) (by kernel_rfl) (by kernel_rfl) (fun _ _ _ h => h) (yi_want rfl rfl (fr_at hF 0 rfl) (fun W hW => ex_move W rfl (fr_at hF 2 rfl))) hS rfl (by decide) (fun a3 hA3 hF' => ?_)
              replace hF := hF'; clear hF'
              refine tk (i := 3) (d := 24) (v := .slice (some ⟨sb, so, none⟩) m c2) hF rfl rfl (by kernel_rfl) (by kernel_rfl) (by kernel_rfl) (fun _ _ _ h => h) (yi_want rfl rfl (fr_at hF 1 rfl) (fun W hW => ex_move W rfl (fr_at hF 4 rfl))) hS rfl (by decide) (fun a4 hA4 hF' => ?_)
              replace hF := hF'; clear hF'
              refine tk (i := 4) (d := 25) (v := .int .i64 i) hF rfl rfl (by kernel_rfl) (by kernel_rfl) (by kernel_rfl) (fun _ _ _ h => h) (yi_want rfl rfl (fr_at hF 2 rfl) (fun W hW => ex_move W rfl (fr_at hF 6 rfl))) hS rfl (by decide) (fun a5 hA5 hF' => ?_)
              replace hF := hF'; clear hF'
              refine tk (i := 5) (d := 26) (v := .pointer (some ⟨sb, so + i, none⟩)) hF rfl rfl (by kernel_rfl) (by kernel_rfl) (by kernel_rfl) (fun _ _ _ h => h) (yi_want rfl rfl (fr_at hF 3 rfl) (fun W hW => by have f24 := fr_at hF 1 rfl; have f25 := fr_at hF 0 rfl; go_simp)) hS rfl (by decide) (fun a6 hA6 hF' => ?_)
              replace hF := hF'; clear hF'
              refine tk (i := 6) (d := 27) (v := .int .u64 (xi : Int)) hF rfl rfl (by kernel_rfl) (by kernel_rfl) (by kernel_rfl) (fun _ _ _ h => h) (yi_want rfl rfl (fr_at hF 4 rfl) (fun W hW => by replace ci := (hW.cell (p := ⟨sb, so + i, none⟩) (World.block_lt_of_cell? _ _ ci)).trans ci; have f26 := fr_at hF 0 rfl; go_simp)) hS rfl (by decide) (fun a7 hA7 hF' => ?_)
              replace hF := hF'; clear hF'
              refine tk (i := 7) (d := 28) (v := .slice (some ⟨sb, so, none⟩) m c2) hF rfl rfl (by kernel_rfl) (by kernel_rfl) (by kernel_rfl) (fun _ _ _ h => h) (yi_want rfl rfl (fr_at hF 5 rfl) (fun W hW => ex_move W rfl (fr_at hF 8 rfl))) hS rfl (by decide) (fun a8 hA8 hF' => ?_)
              replace hF := hF'; clear hF'
              refine tk (i := 8) (d := 29) (v := .int .i64 j) hF rfl rfl (by kernel_rfl) (by kernel_rfl) (by kernel_rfl) (fun _ _ _ h => h) (yi_want rfl rfl (fr_at hF 6 rfl) (fun W hW => ex_move W rfl (fr_at hF 12 rfl))) hS rfl (by decide) (fun a9 hA9 hF' => ?_)
              replace hF := hF'; clear hF'
              refine tk (i := 9) (d := 30) (v := .pointer (some ⟨sb, so + j, none⟩)) hF rfl rfl (by kernel_rfl) (by kernel_rfl) (by kernel_rfl) (fun _ _ _ h => h) (yi_want rfl rfl (fr_at hF 7 rfl) (fun W hW => by have f28 := fr_at hF 1 rfl; have f29 := fr_at hF 0 rfl; go_simp)) hS rfl (by decide) (fun a10 hA10 hF' => ?_)
              replace hF := hF'; clear hF'
              refine tk (i := 10) (d := 31) (v := .int .u64 (xj : Int)) hF rfl rfl (by kernel_rfl) (by kernel_rfl) (by kernel_rfl) (fun _ _ _ h => h) (yi_want rfl rfl (fr_at hF 8 rfl) (fun W hW => by replace cj := (hW.cell (p := ⟨sb, so + j, none⟩) (World.block_lt_of_cell? _ _ cj)).trans cj; have f30 := fr_at hF 0 rfl; go_simp)) hS rfl (by decide) (fun a11 hA11 hF' => ?_)
              replace hF := hF'; clear hF'
              refine wpAnyH_ready (rs := [11]) (by kernel_rfl) (by simp) ?_
              refine AllReadyH.cons rfl (fun K hK => ?_) AllReadyH.nil
              rw [if_pos (by rw [guard_at rfl rfl (fr_at hF 9 rfl)]; rfl)]
              have f23 := fr_at hF 8 rfl
              have f27 := fr_at hF 4 rfl
              have f31 := fr_at hF 0 rfl
              go_simp
              clear f23 f27 f31
              go_at_call 112
              refine (HB1.out _ hS).mono ?_
              rintro e wa ⟨rfl, rfl⟩
              go_wp2_with fail
              refine hK.out _ _ (hS) (fun _ => ?_)
              replace hS := hS
              clear hK K
              change wpAnyH _ _ _ _ _ _ _ (a11.put (some 32) (.bool true)) _
              have hF' := fr_put hF 32 (.bool true) rfl (by decide)
              generalize hA12 : Act.put a11 (some 32) (.bool true) = a12 at hF' ⊢
              replace hF := hF'; clear hF'
              refine tk (i := 12) (d := 33) (v := .bool true) hF rfl rfl (by kernel_rfl) (by kernel_rfl) (by kernel_rfl) (fun _ _ _ h => h) (yi_go rfl (fun W hW => by have f22 := fr_at hF 10 rfl; have f32 := fr_at hF 0 rfl; go_simp)) hS rfl (by decide) (fun a13 hA13 hF' => ?_)
              replace hF := hF'; clear hF'
              replace hF := fr_only hF 0 (p := (33, .bool true)) rfl
              refine tk (i := 13) (d := 7) (v := .bool true) hF rfl rfl (by kernel_rfl) (by kernel_rfl) (by kernel_rfl) (fun _ _ _ h => h) (yi_go rfl (fun W hW => ex_assign W rfl (fr_at hF 0 rfl))) hS rfl (by decide) (fun a14 hA14 hF' => ?_)
              replace hF := hF'; clear hF'
              refine wpAnyH_done (by kernel_rfl) ?_ _
              rw [← hA14, ← hA13, ← hA12, ← hA11, ← hA10, ← hA9, ← hA8, ← hA7, ← hA6, ← hA5, ← hA4, ← hA3, ← hA2, ← hA1, ← hA0]
              simp only [Act.put, List.setIfInBounds_toArray, List.set_cons_zero, List.set_cons_succ]
              clear hF
              go_wp2
              go_roundw
              case rel => exact ⟨j + 1, _, _, rfl, by omega, by go_num, rfl, by rw [all_succ, ← HQ.out, HP.out]; rfl, on HB.out hS⟩
              case measure => simp [intOf]; omega
        · obtain rfl : j = m := by omega
          cases q with
          | false =>
            go_wp2
            go_roundw
            case rel => exact ⟨i + 1, by omega, by go_num, fun i' h => by
              by_cases e : i' = i
              · subst e
                exact HQ.out.symm
              · exact H1.out i' (by omega), HB⟩
            case measure => simp [intOf]; omega
          | true =>
            have HR := Lib.hid (show someAll (fun x y => rowB rows x y) S = true by
              unfold someAll
              rw [List.any_eq_true]
              exact ⟨i, List.mem_range.2 hil, by rw [← HM.out, ← HQ.out]⟩)
            have HJq := Lib.hid (HJ.out.below HB.out)
            obtain ⟨_, _, e, _, hc⟩ := HJq.out.2 (by omega)
            obtain ⟨rfl, rfl, _⟩ := Addr.mk.inj (Option.some.inj e)
            have ci := hc i hil
            clear e hc
            generalize S[i] = xi at ci
            go_wp2
            go_ret2
            exact ⟨⟨(xi : Int), by rw [HR.out]; rfl⟩, HB.out⟩
    · obtain rfl : i = m := by omega
      have HR := Lib.hid (show someAll (fun x y => rowB rows x y) S = false by
        unfold someAll
        rw [List.any_eq_false]
        intro i' hi'
        rw [Bool.not_eq_true, ← HM.out]
        exact H1.out i' (by have := List.mem_range.1 hi'; have := HM.out; omega))
      go_wp2
      go_ret2
      exact ⟨⟨0, by rw [HR.out]; rfl⟩, HB.out⟩
set_option maxRecDepth 20000 in
set_option maxHeartbeats 2000000 in
theorem greatest_any (A : Option Addr) (n c : Nat) (rows : List Nat) (hn : n = rows.length) (hmax : n ≤ 64) (A2 : Option Addr) (m c2 : Nat) (S : List Nat) (hm : m = S.length) (hmm : m ≤ 64) (w : World) (hI : Nums w A rows) (hJ : Nums w A2 S) : Calls Tryz.prog 170 #[.slice A n c, .slice A2 m c2] w fun e w' => (∃ x, e = .returned (.tuple #[.int .u64 x, .bool (someAll (fun x y => rowB rows y x) S)])) ∧ Below w.heap.size w w' := by
  have HI := Lib.hid hI
  have HJ := Lib.hid hJ
  have HN := Lib.hid hn
  have HM := Lib.hid hm
  clear hI hJ hn hm
  go_enter Tryz.func170, Tryz.ntmps170
  go_wp2
  go_loopw [6] (fun v W => ∃ i : Nat, i ≤ m ∧ v = .int .i64 i ∧ Hid (∀ i', i' < i → ((List.range m).all fun j => (fun x y => rowB rows y x) (S.getD i' 0) (S.getD j 0)) = false) ∧ Hid (Below w.heap.size w W)) (fun v _ => m - (intOf v).toNat)
  case atStart => exact ⟨0, by omega, rfl, fun i' h => by omega, Below.refl _ w⟩
  case round =>
    obtain ⟨i, hi, rfl, H1, HB⟩ := hrel
    by_cases hin : i < m
    · have hil : i < S.length := by have := HM.out; omega
      obtain ⟨sb, so, rfl, _, hc0⟩ := HJ.out.2 (by omega)
      clear hc0
      have i1 : (0 : Int) ≤ (i : Int) := by omega
      have i2 : (i : Int) < (m : Int) := by omega
      have HBO := HB
      clear HB
      go_wp2
      go_loopw [7, 8] (fun t v W => ∃ (j : Nat) (W' : World) (q : Bool), W' = W ∧ j ≤ m ∧ v = .int .i64 j ∧ t = .bool q ∧ Hid (q = (List.range j).all fun j => (fun x y => rowB rows y x) (S.getD i 0) (S.getD j 0)) ∧ Hid (Below w.heap.size w W)) (fun _ v _ => m - (intOf v).toNat)
      case atStart => exact ⟨0, _, true, rfl, by omega, rfl, rfl, by rfl, HBO⟩
      case round =>
        clear HBO
        obtain ⟨j, wd, q, rfl, hj, rfl, rfl, HQ, HB⟩ := hrel
        by_cases hjn : j < m
        · have hjl : j < S.length := by have := HM.out; omega
          have HIq := Lib.hid (HI.out.below HB.out)
          have HJq := Lib.hid (HJ.out.below HB.out)
          obtain ⟨_, _, e, _, hc⟩ := HJq.out.2 (by omega)
          obtain ⟨rfl, rfl, _⟩ := Addr.mk.inj (Option.some.inj e)
          have ci := hc i hil
          have cj := hc j hjl
          have hxi := HJq.out.1 S[i] (List.getElem_mem hil)
          have hxj := HJq.out.1 S[j] (List.getElem_mem hjl)
          have hgi : S.getD i 0 = S[i] := by simp [List.getD, hil]
          have hgj : S.getD j 0 = S[j] := by simp [List.getD, hjl]
          generalize S[i] = xi at ci hxi hgi
          generalize S[j] = xj at cj hxj hgj
          have HB1 := Lib.hid (fun W (h : Below wd.heap.size wd W) => refbelow_any A n c rows HN.out (by omega) xj xi hxj hxi W (HIq.out.below h))
          have HP := Lib.hid (show (fun x y => rowB rows y x) (S.getD i 0) (S.getD j 0) = rowB rows xj xi by rw [hgi, hgj])
          obtain ⟨p, hp⟩ : ∃ p, p = rowB rows xj xi := ⟨_, rfl⟩
          rw [← hp] at HB1 HP
          have j1 : (0 : Int) ≤ (j : Int) := by omega
          have j2 : (j : Int) < (m : Int) := by omega
          clear hgi hgj hp e hc hxi hxj
          cases q with
          | false =>
            go_wp2
            refine wp_region_held (S := fun W => Below wd.heap.size wd W) (by kernel_rfl) ?_
            generalize hA0 : Act.mk _ _ = a0
            have hF := Fr.nil (n := 39) (a := a0) (by rw [← hA0]; rfl)
            replace hF := Fr.cons hF 8 (.int .i64 j) (by rw [← hA0]; rfl)
            replace hF := Fr.cons hF 7 (.bool false) (by rw [← hA0]; rfl)
            replace hF := Fr.cons hF 6 (.int .i64 i) (by rw [← hA0]; rfl)
            replace hF := Fr.cons hF 1 (.slice (some ⟨sb, so, none⟩) m c2) (by rw [← hA0]; rfl)
            replace hF := Fr.cons hF 0 (.slice A n c) (by rw [← hA0]; rfl)
            have hS : Below wd.heap.size wd (World.drew _) := (Below.refl _ wd).drew
            change wpAnyH _ _ _ _ _ _ _ _ (World.drew _)
            refine tk (i := 0) (d := 21) (v := .bool false) hF rfl rfl (by kernel_rfl) (by kernel_rfl) (by kernel_rfl) (fun _ _ _ h => h) (yi_go rfl (fun W hW => ex_move W rfl (fr_at hF 3 rfl))) hS rfl (by decide) (fun a1 hA1 hF' => ?_)
            replace hF := hF'; clear hF'
            refine tk (i := 1) (d := 22) (v := .bool false) hF rfl rfl (by kernel_rfl) (by kernel_rfl) (by kernel_rfl) (fun _ _ _ h => h) (yi_go rfl (fun W hW => ex_move W rfl (fr_at hF 0 rfl))) hS rfl (by decide) (fun a2 hA2 hF' => ?_)
            replace hF := hF'; clear hF'
            refine tk (i := 2) (d := 23) (v := undef) hF rfl rfl (by kernel_rfl) (by kernel_rfl) (by kernel_rfl) (fun _ _ _ h => h) (yi_skip rfl rfl (fr_at hF 0 rfl)) hS rfl (by decide) (fun a3 hA3 hF' => ?_)
            replace hF := hF'; clear hF'
            refine tk (i := 3) (d := 24) (v := undef) hF rfl rfl (by kernel_rfl) (by kernel_rfl) (by kernel_rfl) (fun _ _ _ h => h) (yi_skip rfl rfl (fr_at hF 1 rfl)) hS rfl (by decide) (fun a4 hA4 hF' => ?_)
            replace hF := hF'; clear hF'
            refine tk (i := 4) (d := 25) (v := undef) hF rfl rfl (by kernel_rfl) (by kernel_rfl) (by kernel_rfl) (fun _ _ _ h => h) (yi_skip rfl rfl (fr_at hF 2 rfl)) hS rfl (by decide) (fun a5 hA5 hF' => ?_)
            replace hF := hF'; clear hF'
            refine tk (i := 5) (d := 26) (v := undef) hF rfl rfl (by kernel_rfl) (by kernel_rfl) (by kernel_rfl) (fun _ _ _ h => h) (yi_skip rfl rfl (fr_at hF 3 rfl)) hS rfl (by decide) (fun a6 hA6 hF' => ?_)
            replace hF := hF'; clear hF'
            refine tk (i := 6) (d := 27) (v := undef) hF rfl rfl (by kernel_rfl) (by kernel_rfl) (by kernel_rfl) (fun _ _ _ h => h) (yi_skip rfl rfl (fr_at hF 4 rfl)) hS rfl (by decide) (fun a7 hA7 hF' => ?_)
            replace hF := hF'; clear hF'
            refine tk (i := 7) (d := 28) (v := undef) hF rfl rfl (by kernel_rfl) (by kernel_rfl) (by kernel_rfl) (fun _ _ _ h => h) (yi_skip rfl rfl (fr_at hF 5 rfl)) hS rfl (by decide) (fun a8 hA8 hF' => ?_)
            replace hF := hF'; clear hF'
            refine tk (i := 8) (d := 29) (v := undef) hF rfl rfl (by kernel_rfl) (by kernel_rfl) (by kernel_rfl) (fun _ _ _ h => h) (yi_skip rfl rfl (fr_at hF 6 rfl)) hS rfl (by decide) (fun a9 hA9 hF' => ?_)
            replace hF := hF'; clear hF'
            refine tk (i := 9) (d := 30) (v := undef) hF rfl rfl (by kernel_rfl) (by kernel_rfl) (by kernel_rfl) (fun _ _ _ h => h) (yi_skip rfl rfl (fr_at hF 7 rfl)) hS rfl (by decide) (fun a10 hA10 hF' => ?_)
            replace hF := hF'; clear hF'
            refine tk (i := 10) (d := 31) (v := undef) hF rfl rfl (by kernel_rfl) (by kernel_rfl) (by kernel_rfl) (fun _ _ _ h => h) (yi_skip rfl rfl (fr_at hF 8 rfl)) hS rfl (by decide) (fun a11 hA11 hF' => ?_)
            replace hF := hF'; clear hF'
            refine tk (i := 11) (d := 32) (v := undef) hF rfl rfl (by kernel_rfl) (by kernel_rfl) (by kernel_rfl) (fun _ _ _ h => h) (yi_skip rfl rfl (fr_at hF 9 rfl)) hS rfl (by decide) (fun a12 hA12 hF' => ?_)
            replace hF := hF'; clear hF'
            refine tk (i := 12) (d := 33) (v := .bool false) hF rfl rfl (by kernel_rfl) (by kernel_rfl) (by kernel_rfl) (fun _ _ _ h => h) (yi_go rfl (fun W hW => by have f22 := fr_at hF 10 rfl; have f32 := fr_at hF 0 rfl; go_simp)) hS rfl (by decide) (fun a13 hA13 hF' => ?_)
            replace hF := hF'; clear hF'
            replace hF := fr_only hF 0 (p := (33, .bool false)) rfl
            refine tk (i := 13) (d := 7) (v := .bool false) hF rfl rfl (by kernel_rfl) (by kernel_rfl) (by kernel_rfl) (fun _ _ _ h => h) (yi_go rfl (fun W hW => ex_assign W rfl (fr_at hF 0 rfl))) hS rfl (by decide) (fun a14 hA14 hF' => ?_)
            replace hF := hF'; clear hF'
            refine wpAnyH_done (by kernel_rfl) ?_ _
            rw [← hA14, ← hA13, ← hA12, ← hA11, ← hA10, ← hA9, ← hA8, ← hA7, ← hA6, ← hA5, ← hA4, ← hA3, ← hA2, ← hA1, ← hA0]
            simp only [Act.put, List.setIfInBounds_toArray, List.set_cons_zero, List.set_cons_succ]
            clear hF
            go_wp2
            go_roundw
            case rel => exact ⟨j + 1, _, _, rfl, by omega, by go_num, rfl, by rw [all_succ, ← HQ.out]; rfl, on HB.out hS⟩
            case measure => simp [intOf]; omega
          | true =>
            cases p with
            | false =>
              go_wp2
              refine wp_region_held (S := fun W => Below wd.heap.size wd W) (by kernel_rfl) ?_
              generalize hA0 : Act.mk _ _ = a0
              have hF := Fr.nil (n := 39) (a := a0) (by rw [← hA0]; rfl)
              replace hF := Fr.cons hF 8 (.int .i64 j) (by rw [← hA0]; rfl)
              replace hF := Fr.cons hF 7 (.bool true) (by rw [← hA0]; rfl)
              replace hF := Fr.cons hF 6 (.int .i64 i) (by rw [← hA0]; rfl)
              replace hF := Fr.cons hF 1 (.slice (some ⟨sb, so, none⟩) m c2) (by rw [← hA0]; rfl)
              replace hF := Fr.cons hF 0 (.slice A n c) (by rw [← hA0]; rfl)
              have hS : Below wd.heap.size wd (World.drew _) := (Below.refl _ wd).drew
              change wpAnyH _ _ _ _ _ _ _ _ (World.drew _)
              refine tk (i := 0) (d := 21) (v := .bool true) hF rfl rfl (by kernel_rfl) (by kernel_rfl) (by kernel_rfl) (fun _ _ _ h => h) (yi_go rfl (fun W hW => ex_move W rfl (fr_at hF 3 rfl))) hS rfl (by decide) (fun a1 hA1 hF' => ?_)
              replace hF := hF'; clear hF'
              refine tk (i := 1) (d := 22) (v := .bool true) hF rfl rfl (by kernel_rfl) (by kernel_rfl) (by kernel_rfl) (fun _ _ _ h => h) (yi_go rfl (fun W hW => ex_move W rfl (fr_at hF 0 rfl))) hS rfl (by decide) (fun a2 hA2 hF' => ?_)
              replace hF := hF'; clear hF'
              refine tk (i := 2) (d := 23) (v := .slice A n c) hF rfl rfl (by kernel_rfl) (by kernel_rfl) (by kernel_rfl) (fun _ _ _ h => h) (yi_want rfl rfl (fr_at hF 0 rfl) (fun W hW => ex_move W rfl (fr_at hF 2 rfl))) hS rfl (by decide) (fun a3 hA3 hF' => ?_)
              replace hF := hF'; clear hF'
              refine tk (i := 3) (d := 24) (v := .slice (some ⟨sb, so, none⟩) m c2) hF rfl rfl (by kernel_rfl) (by kernel_rfl) (by kernel_rfl) (fun _ _ _ h => h) (yi_want rfl rfl (fr_at hF 1 rfl) (fun W hW => ex_move W rfl (fr_at hF 4 rfl))) hS rfl (by decide) (fun a4 hA4 hF' => ?_)
              replace hF := hF'; clear hF'
              refine tk (i := 4) (d := 25) (v := .int .i64 j) hF rfl rfl (by kernel_rfl) (by kernel_rfl) (by kernel_rfl) (fun _ _ _ h => h) (yi_want rfl rfl (fr_at hF 2 rfl) (fun W hW => ex_move W rfl (fr_at hF 8 rfl))) hS rfl (by decide) (fun a5 hA5 hF' => ?_)
              replace hF := hF'; clear hF'
              refine tk (i := 5) (d := 26) (v := .pointer (some ⟨sb, so + j, none⟩)) hF rfl rfl (by kernel_rfl) (by kernel_rfl) (by kernel_rfl) (fun _ _ _ h => h) (yi_want rfl rfl (fr_at hF 3 rfl) (fun W hW => by have f24 := fr_at hF 1 rfl; have f25 := fr_at hF 0 rfl; go_simp)) hS rfl (by decide) (fun a6 hA6 hF' => ?_)
              replace hF := hF'; clear hF'
              refine tk (i := 6) (d := 27) (v := .int .u64 (xj : Int)) hF rfl rfl (by kernel_rfl) (by kernel_rfl) (by kernel_rfl) (fun _ _ _ h => h) (yi_want rfl rfl (fr_at hF 4 rfl) (fun W hW => by replace cj := (hW.cell (p := ⟨sb, so + j, none⟩) (World.block_lt_of_cell? _ _ cj)).trans cj; have f26 := fr_at hF 0 rfl; go_simp)) hS rfl (by decide) (fun a7 hA7 hF' => ?_)
              replace hF := hF'; clear hF'
              refine tk (i := 7) (d := 28) (v := .slice (some ⟨sb, so, none⟩) m c2) hF rfl rfl (by kernel_rfl) (by kernel_rfl) (by kernel_rfl) (fun _ _ _ h => h) (yi_want rfl rfl (fr_at hF 5 rfl) (fun W hW => ex_move W rfl (fr_at hF 8 rfl))) hS rfl (by decide) (fun a8 hA8 hF' => ?_)
              replace hF := hF'; clear hF'
              refine tk (i := 8) (d := 29) (v := .int .i64 i) hF rfl rfl (by kernel_rfl) (by kernel_rfl) (by kernel_rfl) (fun _ _ _ h => h) (yi_want rfl rfl (fr_at hF 6 rfl) (fun W hW => ex_move W rfl (fr_at hF 10 rfl))) hS rfl (by decide) (fun a9 hA9 hF' => ?_)
              replace hF := hF'; clear hF'
              refine tk (i := 9) (d := 30) (v := .pointer (some ⟨sb, so + i, none⟩)) hF rfl rfl (by kernel_rfl) (by kernel_rfl) (by kernel_rfl) (fun _ _ _ h => h) (yi_want rfl rfl (fr_at hF 7 rfl) (fun W hW => by have f28 := fr_at hF 1 rfl; have f29 := fr_at hF 0 rfl; go_simp)) hS rfl (by decide) (fun a10 hA10 hF' => ?_)
              replace hF := hF'; clear hF'
              refine tk (i := 10) (d := 31) (v := .int .u64 (xi : Int)) hF rfl rfl (by kernel_rfl) (by kernel_rfl) (by kernel_rfl) (fun _ _ _ h => h) (yi_want rfl rfl (fr_at hF 8 rfl) (fun W hW => by replace ci := (hW.cell (p := ⟨sb, so + i, none⟩) (World.block_lt_of_cell? _ _ ci)).trans ci; have f30 := fr_at hF 0 rfl; go_simp)) hS rfl (by decide) (fun a11 hA11 hF' => ?_)
              replace hF := hF'; clear hF'
              refine wpAnyH_ready (rs := [11]) (by kernel_rfl) (by simp) ?_
              refine AllReadyH.cons rfl (fun K hK => ?_) AllReadyH.nil
              rw [if_pos (by rw [guard_at rfl rfl (fr_at hF 9 rfl)]; rfl)]
              have f23 := fr_at hF 8 rfl
              have f27 := fr_at hF 4 rfl
              have f31 := fr_at hF 0 rfl
              go_simp
              clear f23 f27 f31
              go_at_call 112
              refine (HB1.out _ hS).mono ?_
              rintro e wa ⟨rfl, rfl⟩
              go_wp2_with fail
              refine hK.out _ _ (hS) (fun _ => ?_)
              replace hS := hS
              clear hK K
              change wpAnyH _ _ _ _ _ _ _ (a11.put (some 32) (.bool false)) _
              have hF' := fr_put hF 32 (.bool false) rfl (by decide)
              generalize hA12 : Act.put a11 (some 32) (.bool false) = a12 at hF' ⊢
              replace hF := hF'; clear hF'
              refine tk (i := 12) (d := 33) (v := .bool false) hF rfl rfl (by kernel_rfl) (by kernel_rfl) (by kernel_rfl) (fun _ _ _ h => h) (yi_go rfl (fun W hW => by have f22 := fr_at hF 10 rfl; have f32 := fr_at hF 0 rfl; go_simp)) hS rfl (by decide) (fun a13 hA13 hF' => ?_)
              replace hF := hF'; clear hF'
              replace hF := fr_only hF 0 (p := (33, .bool false)) rfl
              refine tk (i := 13) (d := 7) (v := .bool false) hF rfl rfl (by kernel_rfl) (by kernel_rfl) (by kernel_rfl) (fun _ _ _ h => h) (yi_go rfl (fun W hW => ex_assign W rfl (fr_at hF 0 rfl))) hS rfl (by decide) (fun a14 hA14 hF' => ?_)
              replace hF := hF'; clear hF'
              refine wpAnyH_done (by kernel_rfl) ?_ _
              rw [← hA14, ← hA13, ← hA12, ← hA11, ← hA10, ← hA9, ← hA8, ← hA7, ← hA6, ← hA5, ← hA4, ← hA3, ← hA2, ← hA1, ← hA0]
              simp only [Act.put, List.setIfInBounds_toArray, List.set_cons_zero, List.set_cons_succ]
              clear hF
              go_wp2
              go_roundw
              case rel => exact ⟨j + 1, _, _, rfl, by omega, by go_num, rfl, by rw [all_succ, ← HQ.out, HP.out]; rfl, on HB.out hS⟩
              case measure => simp [intOf]; omega
            | true =>
              go_wp2
              refine wp_region_held (S := fun W => Below wd.heap.size wd W) (by kernel_rfl) ?_
              generalize hA0 : Act.mk _ _ = a0
              have hF := Fr.nil (n := 39) (a := a0) (by rw [← hA0]; rfl)
              replace hF := Fr.cons hF 8 (.int .i64 j) (by rw [← hA0]; rfl)
              replace hF := Fr.cons hF 7 (.bool true) (by rw [← hA0]; rfl)
              replace hF := Fr.cons hF 6 (.int .i64 i) (by rw [← hA0]; rfl)
              replace hF := Fr.cons hF 1 (.slice (some ⟨sb, so, none⟩) m c2) (by rw [← hA0]; rfl)
              replace hF := Fr.cons hF 0 (.slice A n c) (by rw [← hA0]; rfl)
              have hS : Below wd.heap.size wd (World.drew _) := (Below.refl _ wd).drew
              change wpAnyH _ _ _ _ _ _ _ _ (World.drew _)
              refine tk (i := 0) (d := 21) (v := .bool true) hF rfl rfl (by kernel_rfl) (by kernel_rfl) (by kernel_rfl) (fun _ _ _ h => h) (yi_go rfl (fun W hW => ex_move W rfl (fr_at hF 3 rfl))) hS rfl (by decide) (fun a1 hA1 hF' => ?_)
              replace hF := hF'; clear hF'
              refine tk (i := 1) (d := 22) (v := .bool true) hF rfl rfl (by kernel_rfl) (by kernel_rfl) (by kernel_rfl) (fun _ _ _ h => h) (yi_go rfl (fun W hW => ex_move W rfl (fr_at hF 0 rfl))) hS rfl (by decide) (fun a2 hA2 hF' => ?_)
              replace hF := hF'; clear hF'
              refine tk (i := 2) (d := 23) (v := .slice A n c) hF rfl rfl (by kernel_rfl) (by kernel_rfl) (by kernel_rfl) (fun _ _ _ h => h) (yi_want rfl rfl (fr_at hF 0 rfl) (fun W hW => ex_move W rfl (fr_at hF 2 rfl))) hS rfl (by decide) (fun a3 hA3 hF' => ?_)
              replace hF := hF'; clear hF'
              refine tk (i := 3) (d := 24) (v := .slice (some ⟨sb, so, none⟩) m c2) hF rfl rfl (by kernel_rfl) (by kernel_rfl) (by kernel_rfl) (fun _ _ _ h => h) (yi_want rfl rfl (fr_at hF 1 rfl) (fun W hW => ex_move W rfl (fr_at hF 4 rfl))) hS rfl (by decide) (fun a4 hA4 hF' => ?_)
              replace hF := hF'; clear hF'
              refine tk (i := 4) (d := 25) (v := .int .i64 j) hF rfl rfl (by kernel_rfl) (by kernel_rfl) (by kernel_rfl) (fun _ _ _ h => h) (yi_want rfl rfl (fr_at hF 2 rfl) (fun W hW => ex_move W rfl (fr_at hF 8 rfl))) hS rfl (by decide) (fun a5 hA5 hF' => ?_)
              replace hF := hF'; clear hF'
              refine tk (i := 5) (d := 26) (v := .pointer (some ⟨sb, so + j, none⟩)) hF rfl rfl (by kernel_rfl) (by kernel_rfl) (by kernel_rfl) (fun _ _ _ h => h) (yi_want rfl rfl (fr_at hF 3 rfl) (fun W hW => by have f24 := fr_at hF 1 rfl; have f25 := fr_at hF 0 rfl; go_simp)) hS rfl (by decide) (fun a6 hA6 hF' => ?_)
              replace hF := hF'; clear hF'
              refine tk (i := 6) (d := 27) (v := .int .u64 (xj : Int)) hF rfl rfl (by kernel_rfl) (by kernel_rfl) (by kernel_rfl) (fun _ _ _ h => h) (yi_want rfl rfl (fr_at hF 4 rfl) (fun W hW => by replace cj := (hW.cell (p := ⟨sb, so + j, none⟩) (World.block_lt_of_cell? _ _ cj)).trans cj; have f26 := fr_at hF 0 rfl; go_simp)) hS rfl (by decide) (fun a7 hA7 hF' => ?_)
              replace hF := hF'; clear hF'
              refine tk (i := 7) (d := 28) (v := .slice (some ⟨sb, so, none⟩) m c2) hF rfl rfl (by kernel_rfl) (by kernel_rfl) (by kernel_rfl) (fun _ _ _ h => h) (yi_want rfl rfl (fr_at hF 5 rfl) (fun W hW => ex_move W rfl (fr_at hF 8 rfl))) hS rfl (by decide) (fun a8 hA8 hF' => ?_)
              replace hF := hF'; clear hF'
              refine tk (i := 8) (d := 29) (v := .int .i64 i) hF rfl rfl (by kernel_rfl) (by kernel_rfl) (by kernel_rfl) (fun _ _ _ h => h) (yi_want rfl rfl (fr_at hF 6 rfl) (fun W hW => ex_move W rfl (fr_at hF 10 rfl))) hS rfl (by decide) (fun a9 hA9 hF' => ?_)
              replace hF := hF'; clear hF'
              refine tk (i := 9) (d := 30) (v := .pointer (some ⟨sb, so + i, none⟩)) hF rfl rfl (by kernel_rfl) (by kernel_rfl) (by kernel_rfl) (fun _ _ _ h => h) (yi_want rfl rfl (fr_at hF 7 rfl) (fun W hW => by have f28 := fr_at hF 1 rfl; have f29 := fr_at hF 0 rfl; go_simp)) hS rfl (by decide) (fun a10 hA10 hF' => ?_)
              replace hF := hF'; clear hF'
              refine tk (i := 10) (d := 31) (v := .int .u64 (xi : Int)) hF rfl rfl (by kernel_rfl) (by kernel_rfl) (by kernel_rfl) (fun _ _ _ h => h) (yi_want rfl rfl (fr_at hF 8 rfl) (fun W hW => by replace ci := (hW.cell (p := ⟨sb, so + i, none⟩) (World.block_lt_of_cell? _ _ ci)).trans ci; have f30 := fr_at hF 0 rfl; go_simp)) hS rfl (by decide) (fun a11 hA11 hF' => ?_)
              replace hF := hF'; clear hF'
              refine wpAnyH_ready (rs := [11]) (by kernel_rfl) (by simp) ?_
              refine AllReadyH.cons rfl (fun K hK => ?_) AllReadyH.nil
              rw [if_pos (by rw [guard_at rfl rfl (fr_at hF 9 rfl)]; rfl)]
              have f23 := fr_at hF 8 rfl
              have f27 := fr_at hF 4 rfl
              have f31 := fr_at hF 0 rfl
              go_simp
              clear f23 f27 f31
              go_at_call 112
              refine (HB1.out _ hS).mono ?_
              rintro e wa ⟨rfl, rfl⟩
              go_wp2_with fail
              refine hK.out _ _ (hS) (fun _ => ?_)
              replace hS := hS
              clear hK K
              change wpAnyH _ _ _ _ _ _ _ (a11.put (some 32) (.bool true)) _
              have hF' := fr_put hF 32 (.bool true) rfl (by decide)
              generalize hA12 : Act.put a11 (some 32) (.bool true) = a12 at hF' ⊢
              replace hF := hF'; clear hF'
              refine tk (i := 12) (d := 33) (v := .bool true) hF rfl rfl (by kernel_rfl) (by kernel_rfl) (by kernel_rfl) (fun _ _ _ h => h) (yi_go rfl (fun W hW => by have f22 := fr_at hF 10 rfl; have f32 := fr_at hF 0 rfl; go_simp)) hS rfl (by decide) (fun a13 hA13 hF' => ?_)
              replace hF := hF'; clear hF'
              replace hF := fr_only hF 0 (p := (33, .bool true)) rfl
              refine tk (i := 13) (d := 7) (v := .bool true) hF rfl rfl (by kernel_rfl) (by kernel_rfl) (by kernel_rfl) (fun _ _ _ h => h) (yi_go rfl (fun W hW => ex_assign W rfl (fr_at hF 0 rfl))) hS rfl (by decide) (fun a14 hA14 hF' => ?_)
              replace hF := hF'; clear hF'
              refine wpAnyH_done (by kernel_rfl) ?_ _
              rw [← hA14, ← hA13, ← hA12, ← hA11, ← hA10, ← hA9, ← hA8, ← hA7, ← hA6, ← hA5, ← hA4, ← hA3, ← hA2, ← hA1, ← hA0]
              simp only [Act.put, List.setIfInBounds_toArray, List.set_cons_zero, List.set_cons_succ]
              clear hF
              go_wp2
              go_roundw
              case rel => exact ⟨j + 1, _, _, rfl, by omega, by go_num, rfl, by rw [all_succ, ← HQ.out, HP.out]; rfl, on HB.out hS⟩
              case measure => simp [intOf]; omega
        · obtain rfl : j = m := by omega
          cases q with
          | false =>
            go_wp2
            go_roundw
            case rel => exact ⟨i + 1, by omega, by go_num, fun i' h => by
              by_cases e : i' = i
              · subst e
                exact HQ.out.symm
              · exact H1.out i' (by omega), HB⟩
            case measure => simp [intOf]; omega
          | true =>
            have HR := Lib.hid (show someAll (fun x y => rowB rows y x) S = true by
              unfold someAll
              rw [List.any_eq_true]
              exact ⟨i, List.mem_range.2 hil, by rw [← HM.out, ← HQ.out]⟩)
            have HJq := Lib.hid (HJ.out.below HB.out)
            obtain ⟨_, _, e, _, hc⟩ := HJq.out.2 (by omega)
            obtain ⟨rfl, rfl, _⟩ := Addr.mk.inj (Option.some.inj e)
            have ci := hc i hil
            clear e hc
            generalize S[i] = xi at ci
            go_wp2
            go_ret2
            exact ⟨⟨(xi : Int), by rw [HR.out]; rfl⟩, HB.out⟩
    · obtain rfl : i = m := by omega
      have HR := Lib.hid (show someAll (fun x y => rowB rows y x) S = false by
        unfold someAll
        rw [List.any_eq_false]
        intro i' hi'
        rw [Bool.not_eq_true, ← HM.out]
        exact H1.out i' (by have := List.mem_range.1 hi'; have := HM.out; omega))
      go_wp2
      go_ret2
      exact ⟨⟨0, by rw [HR.out]; rfl⟩, HB.out⟩
end Go.Proofs.YtajilghlcfheiaaGreatDoor.Bnd
