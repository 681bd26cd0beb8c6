/- The document's Above and Under. -/
import Derived.Test.YtappaokjlnpbnaaDoorTwin
namespace Go.Proofs.YtappaokjlnpbnaaDoor
open Go.RowKit Go.Proofs.YtappaokjlnpbnaaDoorW.PrintWords
theorem under22' : Tryd.prog.underlying 22 = some (.slice 25) := by kernel_rfl
/-- a row of numbers that the call made. -/
def Row (w : World) (base : Nat) (v : Value) (bs : List Nat) : Prop := w.ownsRow base 25 1 v (intsN bs).length (nums .u64 (intsN bs))
theorem Row.nums {w : World} {base : Nat} {v : Value} {bs : List Nat} (h : Row w base v bs) (hx : ∀ x ∈ bs, x < 18446744073709551616) : ∃ A c, v = .slice A bs.length c ∧ bs.length ≤ c ∧ Nums w A bs := by
  obtain ⟨A, c, rfl, hr⟩ := own_reads h
  rw [intsN_length] at hr
  refine ⟨A, c, by rw [intsN_length], ?_, nums_of_reads hr rfl hx⟩
  rcases h.2 with ⟨e, h0⟩ | ⟨g, cap, cur, e, _, _, hle, _⟩
  · rw [intsN_length] at h0
    omega
  · cases e
    rw [intsN_length] at hle
    exact hle
theorem Row.below {w w' : World} {base : Nat} {v : Value} {bs : List Nat} (h : Row w base v bs) (hb : Below w.heap.size w w') : Row w' base v bs :=
  World.ownsRow.kept (row := none) h ⟨hb.os, hb.tape, hb.output, hb.size, fun k hk _ => hb.block k hk⟩ (by cases v.ownBlock <;> simp)
theorem Row.base {w : World} {base b2 : Nat} {v : Value} {bs : List Nat} (h : Row w base v bs) (hb : b2 ≤ base) : Row w b2 v bs := by
  refine ⟨h.1, ?_⟩
  rcases h.2 with h0 | ⟨g, cap, cur, e, h1, h2⟩
  · exact .inl h0
  · exact .inr ⟨g, cap, cur, e, Nat.le_trans hb h1, h2⟩
theorem Row.nil (base : Nat) (w : World) : Row w base (.slice none 0 0) [] := World.ownsRow_nil w base 25 1
theorem reads_one (W : World) (x : Int) : ReadsInt (W.alloc (.cells #[.int .u64 x] 25)) .u64 (some ⟨W.heap.size, 0, none⟩) 1 [x] := by
  refine ⟨rfl, by omega, fun _ => ⟨_, rfl, fun j hj => ?_⟩⟩
  obtain rfl : j = 0 := by omega
  rw [add_of, Nat.zero_add, cell_of_row _ _ _ _ _ _ (heap_alloc_new W _)]
  rfl
def thoseTo (p : Nat → Bool) (i : Nat) : List Nat := (List.range i).filter p
theorem thoseTo_no {p : Nat → Bool} {i : Nat} (h : p i = false) : thoseTo p (i + 1) = thoseTo p i := by simp [thoseTo, List.range_succ, h]
theorem thoseTo_yes {p : Nat → Bool} {i : Nat} (h : p i = true) : thoseTo p (i + 1) = thoseTo p i ++ [i] := by simp [thoseTo, List.range_succ, h]
theorem thoseTo_length (p : Nat → Bool) (i : Nat) : (thoseTo p i).length ≤ i := by
  have := List.length_filter_le p (List.range i)
  rw [List.length_range] at this
  exact this
set_option maxRecDepth 20000 in
set_option maxHeartbeats 1000000 in
theorem above_any (A : Option Addr) (n c : Nat) (rows : List Nat) (hn : n = rows.length) (hmax : n ≤ 64) (a b : Nat) (ha : a < 18446744073709551616) (hb : b < 18446744073709551616) (w : World) (hI : Nums w A rows) : Calls Tryd.prog 51 #[.slice A n c, .int .u64 (a : Int), .int .u64 (b : Int)] w fun e w' => (∃ v, e = .returned v ∧ Row w' w.heap.size v (thoseTo (fun x => rowB rows a x && rowB rows b x) n)) ∧ Below w.heap.size w w' := by
  have HI := Lib.hid hI
  have HN := Lib.hid hn
  obtain ⟨p, hp⟩ : ∃ p : Nat → Bool, p = fun x => rowB rows a x && rowB rows b x := ⟨_, rfl⟩
  rw [← hp]
  have HP := Lib.hid (fun x => (congrFun hp x : p x = _))
  clear hI hn hp
  go_enter Tryd.func51, Tryd.ntmps51
  go_wp2
  go_loopw [7, 8] (fun v i wr => ∃ k : Nat, k ≤ n ∧ i = .int .u64 k ∧ Hid (Row wr w.heap.size v (thoseTo p k)) ∧ Hid (Below w.heap.size w wr)) (fun _ i _ => n - (intOf i).toNat)
  case atStart => exact ⟨0, by omega, rfl, Row.nil _ _, Below.refl _ w⟩
  case round =>
    obtain ⟨k, hk, rfl, HR, HB⟩ := hrel
    by_cases hlt : k < n
    · have d1 : decide ((k : Int) < (n : Int)) = true := by simp; omega
      have HC1 := Lib.hid (fun W (h : Below w.heap.size w W) => refbelow_any A n c rows HN.out (by omega) a k (by omega) (by omega) W (HI.out.below h))
      have HC2 := Lib.hid (fun W (h : Below w.heap.size w W) => refbelow_any A n c rows HN.out (by omega) b k (by omega) (by omega) W (HI.out.below h))
      have HPK := Lib.hid (HP.out k)
      have HPN := Lib.hid (thoseTo_no (p := p) (i := k))
      have HPY := Lib.hid (thoseTo_yes (p := p) (i := k))
      have HLN := Lib.hid (thoseTo_length p k)
      obtain ⟨q1, hq1⟩ : ∃ q, q = rowB rows a k := ⟨_, rfl⟩
      obtain ⟨q2, hq2⟩ : ∃ q, q = rowB rows b k := ⟨_, rfl⟩
      rw [← hq1] at HC1 HPK
      rw [← hq2] at HC2 HPK
      clear hq1 hq2
      cases q1 with
      | false =>
        go_wp2_with fail
        refine (HC1.out _ HB.out).mono ?_
        rintro e w1 ⟨rfl, rfl⟩
        go_wp2
        go_roundw
        case rel => exact ⟨k + 1, by omega, by go_num, by rw [HPN.out (by rw [HPK.out]; rfl)]; exact HR.out, HB.out⟩
        case measure => simp [intOf]; omega
      | true =>
        cases q2 with
        | false =>
          go_wp2_with fail
          refine (HC1.out _ HB.out).mono ?_
          rintro e w1 ⟨rfl, rfl⟩
          go_wp2_with fail
          refine (HC2.out _ HB.out).mono ?_
          rintro e w1 ⟨rfl, rfl⟩
          go_wp2
          go_roundw
          case rel => exact ⟨k + 1, by omega, by go_num, by rw [HPN.out (by rw [HPK.out]; rfl)]; exact HR.out, HB.out⟩
          case measure => simp [intOf]; omega
        | true =>
          have HBA := Lib.hid (HB.out.alloc HB.out.size (.cells #[.int .u64 (k : Int)] 25))
          have HRA := Lib.hid (HR.out.below ((Below.refl wr.heap.size wr).alloc (Nat.le_refl _) (.cells #[.int .u64 (k : Int)] 25)))
          go_wp2_with fail
          refine (HC1.out _ HB.out).mono ?_
          rintro e w1 ⟨rfl, rfl⟩
          go_wp2_with fail
          refine (HC2.out _ HB.out).mono ?_
          rintro e w1 ⟨rfl, rfl⟩
          go_wp2_with (first
            | (at_builtin; refine print_append_row (w0 := w) w.heap.size rfl (.tmp 26) (.tmp 28) 22 25 .u64 8 rfl under22' info23 (by decide) _ (intsN (thoseTo p k)) [(k : Int)] (some ⟨wr.heap.size, 0, none⟩) 1 1 rfl rfl HRA.out (reads_one wr _) HBA.out HBA.out.size (by rw [intsN_length]; have := HLN.out; omega) ?_; intro v7 w7 ho7 hb7 hg7 hat7; have HR7 := Lib.hid (show Row w7 w.heap.size v7 (thoseTo p (k + 1)) from (by unfold Row; rw [HPY.out (by rw [HPK.out]; rfl), intsN_append]; exact ho7)); have HB7 := Lib.hid hb7; clear ho7 hb7 hg7 hat7)
            | fail)
          go_roundw
          case rel => exact ⟨k + 1, by omega, by go_num, HR7.out, HB7.out⟩
          case measure => simp [intOf]; omega
    · obtain rfl : k = n := by omega
      have d1 : decide ((k : Int) < (k : Int)) = false := by simp
      go_wp2
      go_ret
      exact ⟨⟨_, rfl, HR.out⟩, HB.out⟩
set_option maxRecDepth 20000 in
set_option maxHeartbeats 1000000 in
theorem under_any (A : Option Addr) (n c : Nat) (rows : List Nat) (hn : n = rows.length) (hmax : n ≤ 64) (a b : Nat) (ha : a < 18446744073709551616) (hb : b < 18446744073709551616) (w : World) (hI : Nums w A rows) : Calls Tryd.prog 53 #[.slice A n c, .int .u64 (a : Int), .int .u64 (b : Int)] w fun e w' => (∃ v, e = .returned v ∧ Row w' w.heap.size v (thoseTo (fun x => rowB rows x a && rowB rows x b) n)) ∧ Below w.heap.size w w' := by
  have HI := Lib.hid hI
  have HN := Lib.hid hn
  obtain ⟨p, hp⟩ : ∃ p : Nat → Bool, p = fun x => rowB rows x a && rowB rows x b := ⟨_, rfl⟩
  rw [← hp]
  have HP := Lib.hid (fun x => (congrFun hp x : p x = _))
  clear hI hn hp
  go_enter Tryd.func53, Tryd.ntmps53
  go_wp2
  go_loopw [7, 8] (fun v i wr => ∃ k : Nat, k ≤ n ∧ i = .int .u64 k ∧ Hid (Row wr w.heap.size v (thoseTo p k)) ∧ Hid (Below w.heap.size w wr)) (fun _ i _ => n - (intOf i).toNat)
  case atStart => exact ⟨0, by omega, rfl, Row.nil _ _, Below.refl _ w⟩
  case round =>
    obtain ⟨k, hk, rfl, HR, HB⟩ := hrel
    by_cases hlt : k < n
    · have d1 : decide ((k : Int) < (n : Int)) = true := by simp; omega
      have HC1 := Lib.hid (fun W (h : Below w.heap.size w W) => refbelow_any A n c rows HN.out (by omega) k a (by omega) (by omega) W (HI.out.below h))
      have HC2 := Lib.hid (fun W (h : Below w.heap.size w W) => refbelow_any A n c rows HN.out (by omega) k b (by omega) (by omega) W (HI.out.below h))
      have HPK := Lib.hid (HP.out k)
      have HPN := Lib.hid (thoseTo_no (p := p) (i := k))
      have HPY := Lib.hid (thoseTo_yes (p := p) (i := k))
      have HLN := Lib.hid (thoseTo_length p k)
      obtain ⟨q1, hq1⟩ : ∃ q, q = rowB rows k a := ⟨_, rfl⟩
      obtain ⟨q2, hq2⟩ : ∃ q, q = rowB rows k b := ⟨_, rfl⟩
      rw [← hq1] at HC1 HPK
      rw [← hq2] at HC2 HPK
      clear hq1 hq2
      cases q1 with
      | false =>
        go_wp2_with fail
        refine (HC1.out _ HB.out).mono ?_
        rintro e w1 ⟨rfl, rfl⟩
        go_wp2
        go_roundw
        case rel => exact ⟨k + 1, by omega, by go_num, by rw [HPN.out (by rw [HPK.out]; rfl)]; exact HR.out, HB.out⟩
        case measure => simp [intOf]; omega
      | true =>
        cases q2 with
        | false =>
          go_wp2_with fail
          refine (HC1.out _ HB.out).mono ?_
          rintro e w1 ⟨rfl, rfl⟩
          go_wp2_with fail
          refine (HC2.out _ HB.out).mono ?_
          rintro e w1 ⟨rfl, rfl⟩
          go_wp2
          go_roundw
          case rel => exact ⟨k + 1, by omega, by go_num, by rw [HPN.out (by rw [HPK.out]; rfl)]; exact HR.out, HB.out⟩
          case measure => simp [intOf]; omega
        | true =>
          have HBA := Lib.hid (HB.out.alloc HB.out.size (.cells #[.int .u64 (k : Int)] 25))
          have HRA := Lib.hid (HR.out.below ((Below.refl wr.heap.size wr).alloc (Nat.le_refl _) (.cells #[.int .u64 (k : Int)] 25)))
          go_wp2_with fail
          refine (HC1.out _ HB.out).mono ?_
          rintro e w1 ⟨rfl, rfl⟩
          go_wp2_with fail
          refine (HC2.out _ HB.out).mono ?_
          rintro e w1 ⟨rfl, rfl⟩
          go_wp2_with (first
            | (at_builtin; refine print_append_row (w0 := w) w.heap.size rfl (.tmp 26) (.tmp 28) 22 25 .u64 8 rfl under22' info23 (by decide) _ (intsN (thoseTo p k)) [(k : Int)] (some ⟨wr.heap.size, 0, none⟩) 1 1 rfl rfl HRA.out (reads_one wr _) HBA.out HBA.out.size (by rw [intsN_length]; have := HLN.out; omega) ?_; intro v7 w7 ho7 hb7 hg7 hat7; have HR7 := Lib.hid (show Row w7 w.heap.size v7 (thoseTo p (k + 1)) from (by unfold Row; rw [HPY.out (by rw [HPK.out]; rfl), intsN_append]; exact ho7)); have HB7 := Lib.hid hb7; clear ho7 hb7 hg7 hat7)
            | fail)
          go_roundw
          case rel => exact ⟨k + 1, by omega, by go_num, HR7.out, HB7.out⟩
          case measure => simp [intOf]; omega
    · obtain rfl : k = n := by omega
      have d1 : decide ((k : Int) < (k : Int)) = false := by simp
      go_wp2
      go_ret
      exact ⟨⟨_, rfl, HR.out⟩, HB.out⟩
end Go.Proofs.YtappaokjlnpbnaaDoor
