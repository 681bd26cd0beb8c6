/- The document's reaches.Of: its walk. -/
import Derived.Test.YtajilghlcfheiaaGreatDoorRRow
import Derived.WalkMore
namespace Go.Proofs.YtajilghlcfheiaaGreatDoor.Rea
open Go.RowKit Go.Proofs.YtajilghlcfheiaaGreatDoorW.PrintWords
set_option maxRecDepth 100000
theorem rof_lim (a : Option Addr) (cap m : Nat) (n : Int) (h : n < 0 ∨ 64 < n ∨ 256 < m) (hm : (m : Int) ≤ 9223372036854775807) (w : World) : Calls Tryz.prog 40 #[.int .i64 n, .slice a m cap] w fun e w' => Below w.heap.size w w' ∧ e = .returned (.tuple #[.slice none 0 0, .int .i64 3]) := by
  by_cases h1 : n < 0
  · have d1 : decide (n < 0) = true := by simpa using h1
    go_enter Tryz.func40, Tryz.ntmps40
    go_wp2
    go_ret2
    exact ⟨Below.refl _ _, rfl⟩
  · have d1 : decide (n < 0) = false := by simpa using h1
    by_cases h2 : 64 < n
    · have d2 : decide (64 < n) = true := by simpa using h2
      go_enter Tryz.func40, Tryz.ntmps40
      go_wp2
      go_ret2
      exact ⟨Below.refl _ _, rfl⟩
    · have d2 : decide (64 < n) = false := by simpa using h2
      have d3 : decide (256 < (m : Int)) = true := by simp; omega
      go_enter Tryz.func40, Tryz.ntmps40
      go_wp2
      go_ret2
      exact ⟨Below.refl _ _, rfl⟩
/-- what the document's Of tells. -/
def RofSays (w : World) (L : List Bd) (n : Nat) (e : Ending) (w' : World) : Prop :=
  Below w.heap.size w w' ∧ ((L.all (·.ok n) = true ∧ ∃ a' c, e = .returned (.tuple #[.slice a' n c, .int .i64 0]) ∧ IsM w' a' n (reach n L)) ∨ (L.all (·.ok n) = false ∧ e = .returned (.tuple #[.slice none 0 0, .int .i64 1])))
set_option maxHeartbeats 4000000 in
theorem rof_any (a : Option Addr) (cap : Nat) (L : List Bd) (n m : Nat) (hn : n ≤ 64) (hm : m = L.length) (hm' : m ≤ 256) (w : World) (hL : Bds w a L) : Calls Tryz.prog 40 #[.int .i64 (n : Int), .slice a m cap] w (RofSays w L n) := by
  have HL := Lib.hid hL
  have HM := Lib.hid hm
  clear hL hm
  have d1 : decide ((n : Int) < 0) = false := decide_eq_false (by omega)
  have d2 : decide (64 < (n : Int)) = false := decide_eq_false (by omega)
  have d3 : decide (256 < (m : Int)) = false := decide_eq_false (by omega)
  go_enter Tryz.func40, Tryz.ntmps40
  go_wp2
  go_loopw [6] (fun v wr => ∃ k : Nat, k ≤ m ∧ v = .int .i64 k ∧ Hid (∀ b ∈ L.take k, b.ok n = true) ∧ Hid (Below w.heap.size w wr)) (fun v _ => m - (intOf v).toNat)
  case atStart => exact ⟨0, by omega, rfl, fun b hb => by simp at hb, Below.refl _ w⟩
  case round =>
    obtain ⟨k, hk, rfl, HO, HB⟩ := hrel
    by_cases hlt : k < m
    · have hkl : k < L.length := by rw [← HM.out]; exact hlt
      obtain ⟨b, o, rfl, c0, c1, c2, c3, l0, l1⟩ := (HL.out.below HB.out) k hkl
      have HNX := Lib.hid (fun h => ok_next hkl HO.out h)
      have HNA := Lib.hid (fun h => not_all (n := n) hkl h)
      obtain ⟨⟨va, na, vb, nb⟩, hx⟩ : ∃ x, x = L[k] := ⟨_, rfl⟩
      rw [← hx] at c0 c1 c2 c3 l0 l1 HNX HNA
      dsimp only at c0 c1 c2 c3 l0 l1
      clear hx
      have i1 : (0 : Int) ≤ (k : Int) := by omega
      have i2 : (k : Int) < (m : Int) := by omega
      obtain ⟨p, hp⟩ : ∃ p, p = decide (n ≤ na) := ⟨_, rfl⟩
      obtain ⟨q, hq⟩ : ∃ q, q = decide (n ≤ nb) := ⟨_, rfl⟩
      have e1 : decide ((n : Int) ≤ (na : Int)) = p := by rw [hp, decide_eq_decide]; omega
      have e2 : decide ((n : Int) ≤ (nb : Int)) = q := by rw [hq, decide_eq_decide]; omega
      have e3 : decide (n ≤ na) = p := hp.symm
      have e4 : decide (n ≤ nb) = q := hq.symm
      have HK := Lib.hid (show (⟨va, na, vb, nb⟩ : Bd).ok n = (!(va && p) && !(vb && q)) by rw [hp, hq]; rfl)
      rw [HK.out] at HNX HNA
      clear hp hq HK
      cases va with
      | false =>
        cases vb with
        | false =>
          go_wp2
          go_roundw
          case rel => exact ⟨k + 1, by omega, by go_num, HNX.out rfl, HB.out⟩
          case measure => simp [intOf]; omega
        | true =>
          cases q with
          | false =>
            go_wp2
            go_roundw
            case rel => exact ⟨k + 1, by omega, by go_num, HNX.out rfl, HB.out⟩
            case measure => simp [intOf]; omega
          | true =>
            go_wp2
            go_ret2
            exact ⟨HB.out, .inr ⟨HNA.out rfl, rfl⟩⟩
      | true =>
        cases p with
        | true =>
          go_wp2
          go_ret2
          exact ⟨HB.out, .inr ⟨HNA.out rfl, rfl⟩⟩
        | false =>
          cases vb with
          | false =>
            go_wp2
            go_roundw
            case rel => exact ⟨k + 1, by omega, by go_num, HNX.out rfl, HB.out⟩
            case measure => simp [intOf]; omega
          | true =>
            cases q with
            | false =>
              go_wp2
              go_roundw
              case rel => exact ⟨k + 1, by omega, by go_num, HNX.out rfl, HB.out⟩
              case measure => simp [intOf]; omega
            | true =>
              go_wp2
              go_ret2
              exact ⟨HB.out, .inr ⟨HNA.out rfl, rfl⟩⟩
    · obtain rfl : m = k := by omega
      have HOK := Lib.hid (all_take HM.out HO.out)
      have HR0 := Lib.hid (Orow.nil w.heap.size _ HB.out.size n L)
      clear HO
      go_wp2_with fail
      go_loopw [7, 8] (fun v i wr => ∃ k : Nat, k ≤ n ∧ i = .int .i64 k ∧ Hid (Orow w.heap.size wr v k n L) ∧ Hid (Below w.heap.size w wr)) (fun _ i _ => n - (intOf i).toNat)
      case atStart => exact ⟨0, by omega, rfl, HR0.out, HB.out⟩
      case round =>
        clear HR0 HB
        rename World => wo
        obtain ⟨k, hk, rfl, HR, HB⟩ := hrel
        by_cases hkn : k < n
        · have mk := run_make_row' (P := Tryz.prog) 125 4 (.bool false) 1 under34 info4' rfl .i64 .i64 n (by omega) (by omega)
          have hmk : (madeCells #[Value.bool false] n)[k]? = some (.bool false) := by simp [madeCells, hkn, Nat.mod_one]
          have i1 : (0 : Int) ≤ (k : Int) := by omega
          have i2 : (k : Int) < (n : Int) := by omega
          go_wp2_with fail
          have HS := Lib.hid (row_start wo n k hkn)
          have HBW := Lib.hid ((Below.refl wo.heap.size wo).alloc (Nat.le_refl _) (.cells ((madeCells #[Value.bool false] n).setIfInBounds k (.bool true)) 4))
          generalize wo.alloc (Obj.cells ((madeCells #[Value.bool false] n).setIfInBounds k (.bool true)) 4) = wa at *
          obtain ⟨RB, hRB⟩ : ∃ RB, RB = wo.heap.size := ⟨_, rfl⟩
          rw [← hRB] at HS ⊢
          have HRB := Lib.hid hRB
          clear hRB mk hmk
          go_loopw [10] (fun v wi => ∃ (more : Bool) (f : Nat → Bool), v = .bool more ∧ Hid (Gr n L k f) ∧ Hid (wi.rowIs RB 4 n (fun j => .bool (f j))) ∧ Hid (Below wo.heap.size wo wi) ∧ Hid (more = false → ∀ j, f j = reach n L k j)) (fun v wi => 2 * left (rdB wi RB) n + mo v)
          case atStart => exact ⟨true, _, rfl, Gr.start n L k, HS.out, HBW.out, fun h => by cases h⟩
          case round =>
            clear HS HBW
            obtain ⟨more, f, rfl, HG, HS, HBW, HD⟩ := hrel
            have HLF := Lib.hid (rdB_left HS.out)
            cases more with
            | false =>
              have hbw := HBW.out
              have hR2 := HR.out.below hbw
              obtain ⟨xs, hxl, hxo, hxg⟩ := hR2.row
              have HXO := Lib.hid hxo
              have HB2 := Lib.hid (on HB.out hbw)
              have HXL := Lib.hid hxl
              have HNX := Lib.hid (fun w3 v1 ho hg hat => HR.out.next (w3 := w3) (v1 := v1) hbw (by rw [← HRB.out]; exact HS.out) (HD.out rfl) hxg (fun b h => own_lt HR.out.2.choose_spec.1 b h) ho hg hat)
              rw [← HRB.out] at HNX
              clear hbw hR2 hxl hxo hxg HD HLF HS HG HBW
              go_wp2_with (first
                | (at_builtin; refine print_append (w0 := w) w.heap.size rfl (.tmp 127) (.tmp 129) 82 125 (.slice none 0 0) 24 rfl under23 info34 rfl (by decide) _ xs (.slice (some ⟨RB, 0, none⟩) n n) rfl rfl rfl HXO.out HB2.out HB2.out.size (by rw [HXL.out]; omega) ?_; intro v7 w7 ho7 hb7 hg7 hat7; have HR7 := Lib.hid (HNX.out w7 v7 (by have h := ho7; rw [List.length_append, HXL.out] at h; exact h) hg7 hat7); have HB7 := Lib.hid hb7; clear ho7 hb7 hg7 hat7)
                | fail)
              go_roundw
              case rel => exact ⟨k + 1, by omega, by go_num, HR7.out, HB7.out⟩
              case measure => simp [intOf]; omega
            | true =>
              have HI := Lib.hid (Inn.start HG.out)
              clear HD
              go_wp2_with fail
              rename World => wb
              go_loopw [10, 11] (fun v i wi => ∃ (q : Nat) (more : Bool) (f' : Nat → Bool), q ≤ m ∧ v = .bool more ∧ i = .int .i64 q ∧ Hid (Inn n L k q f f' more) ∧ Hid (wi.rowIs RB 4 n (fun j => .bool (f' j))) ∧ Hid (Below wo.heap.size wo wi)) (fun _ i _ => m - (intOf i).toNat)
              case atStart => exact ⟨0, false, f, by omega, rfl, rfl, HI.out, HS.out, HBW.out⟩
              case round =>
                clear HI HS HBW
                obtain ⟨q, more, f', hq, rfl, rfl, HI, HS, HBW⟩ := hrel
                by_cases hlt : q < m
                · have hql : q < L.length := by rw [← HM.out]; exact hlt
                  obtain ⟨b, o, rfl, c0, c1, c2, c3, l0, l1⟩ := (HL.out.below (on HB.out HBW.out)) q hql
                  have HKEEP := Lib.hid (fun h => HI.out.keep hql h)
                  have HPUT := Lib.hid (fun h1 h2 ha hb h3 h4 => HI.out.put hql h1 h2 ha hb h3 h4)
                  have HOKB := Lib.hid (ok_lt (HOK.out L[q] (List.getElem_mem hql)))
                  obtain ⟨⟨va, na, vb, nb⟩, hx⟩ : ∃ x, x = L[q] := ⟨_, rfl⟩
                  rw [← hx] at c0 c1 c2 c3 l0 l1 HKEEP HPUT HOKB
                  dsimp only at c0 c1 c2 c3 l0 l1 HKEEP HPUT HOKB
                  clear hx HI
                  have i1 : (0 : Int) ≤ (q : Int) := by omega
                  have i2 : (q : Int) < (m : Int) := by omega
                  cases va with
                  | false =>
                    have HK2 := Lib.hid (HKEEP.out (fun h => by cases h))
                    clear HKEEP HPUT HOKB
                    go_wp2
                    go_roundw
                    case rel => exact ⟨q + 1, more, f', by omega, rfl, by go_num, HK2.out, HS.out, HBW.out⟩
                    case measure => simp [intOf]; omega
                  | true =>
                    cases vb with
                    | false =>
                      have HK2 := Lib.hid (HKEEP.out (fun _ h => by cases h))
                      clear HKEEP HPUT HOKB
                      go_wp2
                      go_roundw
                      case rel => exact ⟨q + 1, more, f', by omega, rfl, by go_num, HK2.out, HS.out, HBW.out⟩
                      case measure => simp [intOf]; omega
                    | true =>
                      have ha : na < n := HOKB.out.1 rfl
                      have hb : nb < n := HOKB.out.2 rfl
                      have ca := HS.out.cell ha
                      have cb := HS.out.cell hb
                      have fb := HS.out.frozen nb
                      have j1 : (0 : Int) ≤ (na : Int) := by omega
                      have j2 : (na : Int) < (n : Int) := by omega
                      have j3 : (0 : Int) ≤ (nb : Int) := by omega
                      have j4 : (nb : Int) < (n : Int) := by omega
                      have HS2 := Lib.hid (row_put HS.out nb)
                      have HBW2 := Lib.hid (HBW.out.setCell (p := ⟨RB, nb, none⟩) (Nat.le_of_eq HRB.out.symm) (.bool true))
                      obtain ⟨p, hp⟩ : ∃ p, p = f' na := ⟨_, rfl⟩
                      obtain ⟨r, hr⟩ : ∃ r, r = f' nb := ⟨_, rfl⟩
                      rw [← hp] at ca HKEEP HPUT
                      rw [← hr] at cb HKEEP HPUT
                      clear hp hr HOKB
                      cases p with
                      | false =>
                        have HK2 := Lib.hid (HKEEP.out (fun _ _ h => by cases h))
                        clear HKEEP HPUT HS2 HBW2
                        go_wp2
                        go_roundw
                        case rel => exact ⟨q + 1, more, f', by omega, rfl, by go_num, HK2.out, HS.out, HBW.out⟩
                        case measure => simp [intOf]; omega
                      | true =>
                        cases r with
                        | true =>
                          have HK2 := Lib.hid (HKEEP.out (fun _ _ _ => rfl))
                          clear HKEEP HPUT HS2 HBW2
                          go_wp2
                          go_roundw
                          case rel => exact ⟨q + 1, more, f', by omega, rfl, by go_num, HK2.out, HS.out, HBW.out⟩
                          case measure => simp [intOf]; omega
                        | false =>
                          have HK2 := Lib.hid (HPUT.out rfl rfl ha hb rfl rfl)
                          clear HKEEP HPUT HS HBW
                          go_wp2
                          go_roundw
                          case rel => exact ⟨q + 1, true, _, by omega, rfl, by go_num, HK2.out, HS2.out, HBW2.out⟩
                          case measure => simp [intOf]; omega
                · obtain rfl : m = q := by omega
                  have HDN := Lib.hid (fun (h : more = false) => Inn.done (f := f) (f' := f') (n := n) (v := k) (by rw [h] at HI; exact HI.out) HM.out)
                  have HLF2 := Lib.hid (rdB_left HS.out)
                  have HRL := Lib.hid (Inn.less HI.out)
                  go_wp2
                  go_roundw
                  case rel => exact ⟨more, f', rfl, HI.out.1, HS.out, HBW.out, fun h => by have := HDN.out h; rw [this.1]; exact this.2⟩
                  case measure =>
                    rw [HLF.out, HLF2.out]
                    have := HRL.out
                    exact this
        · obtain rfl : n = k := by omega
          obtain ⟨a', c', rfl, his⟩ := HR.out.is
          have HIS := Lib.hid his
          clear his HR
          go_wp2_with fail
          go_ret2
          exact ⟨HB.out, .inl ⟨all_ok HOK.out, a', c', rfl, HIS.out⟩⟩
/-- both tell the same. -/
theorem rof_all (a : Option Addr) (cap m : Nat) (L : List Bd) (n : Int) (hm : m = L.length) (hmm : m ≤ 1000000) (w : World) (hL : Bds w a L) : Calls Tryz.prog 40 #[.int .i64 n, .slice a m cap] w fun e w' => Below w.heap.size w w' ∧
    (((n < 0 ∨ 64 < n ∨ 256 < m) ∧ e = .returned (.tuple #[.slice none 0 0, .int .i64 3])) ∨ (∃ k : Nat, n = (k : Int) ∧ k ≤ 64 ∧ m ≤ 256 ∧ L.all (·.ok k) = true ∧ ∃ a' c, e = .returned (.tuple #[.slice a' k c, .int .i64 0]) ∧ IsM w' a' k (reach k L)) ∨ (∃ k : Nat, n = (k : Int) ∧ k ≤ 64 ∧ m ≤ 256 ∧ L.all (·.ok k) = false ∧ e = .returned (.tuple #[.slice none 0 0, .int .i64 1]))) := by
  by_cases h : n < 0 ∨ 64 < n ∨ 256 < m
  · exact (rof_lim a cap m n h (by omega) w).mono fun e w' h' => ⟨h'.1, .inl ⟨h, h'.2⟩⟩
  · obtain ⟨k, rfl⟩ := Int.eq_ofNat_of_zero_le (show 0 ≤ n by omega)
    refine (rof_any a cap L k m (by omega) hm (by omega) w hL).mono ?_
    rintro e w' ⟨hb, ⟨ho, x⟩ | ⟨ho, x⟩⟩
    · exact ⟨hb, .inr (.inl ⟨k, rfl, by omega, by omega, ho, x⟩)⟩
    · exact ⟨hb, .inr (.inr ⟨k, rfl, by omega, by omega, ho, x⟩)⟩
end Go.Proofs.YtajilghlcfheiaaGreatDoor.Rea
