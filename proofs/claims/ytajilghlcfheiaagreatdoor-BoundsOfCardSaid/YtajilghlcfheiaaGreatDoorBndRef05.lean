/- The document's Has, Join, Meet, Bottom, Top. -/
import Derived.Test.YtajilghlcfheiaaGreatDoorBndLeastV
namespace Go.Proofs.YtajilghlcfheiaaGreatDoor.Bnd
set_option maxRecDepth 20000
open Go.RowKit Go.Proofs.YtajilghlcfheiaaGreatDoorW.PrintWords
theorem join_out {rows : List Nat} {a b : Nat} (h : ¬ (a < rows.length ∧ b < rows.length)) : joinF rows a b = 0 := by unfold joinF pickF; rw [if_neg h]
theorem meet_out {rows : List Nat} {a b : Nat} (h : ¬ (a < rows.length ∧ b < rows.length)) : meetF rows a b = 0 := by unfold meetF pickF; rw [downs_length, if_neg h]
theorem someAll_yes {P : Nat → Nat → Bool} {S : List Nat} {x : Nat} (hx : x ∈ S) (h : ∀ y ∈ S, P x y = true) : someAll P S = true := by
  unfold someAll
  obtain ⟨i, hi, rfl⟩ := List.getElem_of_mem hx
  rw [List.any_eq_true]
  refine ⟨i, List.mem_range.2 hi, ?_⟩
  rw [List.all_eq_true]
  intro j hj
  have hj' := List.mem_range.1 hj
  simp only [List.getD, List.getElem?_eq_getElem hi, List.getElem?_eq_getElem hj', Option.getD_some]
  exact h _ (List.getElem_mem hj')
theorem someAll_nil (P : Nat → Nat → Bool) : someAll P [] = false := rfl
theorem those_nil {p : Nat → Bool} (h : ∀ x, p x = false) (n : Nat) : thoseTo p n = [] := by
  unfold thoseTo
  rw [List.filter_eq_nil_iff]
  intro x _
  rw [h x]
  simp
theorem pick_join {rows : List Nat} (h : Fine rows) {a b x : Nat} (hp : Pick (fun x y => rowB rows x y) (thoseTo (fun x => rowB rows a x && rowB rows b x) rows.length) x) : x = joinF rows a b := by
  by_cases hab : a < rows.length ∧ b < rows.length
  · obtain ⟨k1, k2, k3⟩ := join_spec h hab.1 hab.2
    have hm : joinF rows a b ∈ thoseTo (fun x => rowB rows a x && rowB rows b x) rows.length := mem_those.2 ⟨(rowB_lt k1).2, by rw [k1, k2]; rfl⟩
    have hy := someAll_yes (P := fun x y => rowB rows x y) hm (fun y hy => by
      have := (mem_those.1 hy).2
      rw [Bool.and_eq_true] at this
      exact k3 y this.1 this.2)
    obtain ⟨h1, h2⟩ := hp.1 hy
    have hx := (mem_those.1 h1).2
    rw [Bool.and_eq_true] at hx
    exact h.ord.anti _ _ (h2 _ hm) (k3 x hx.1 hx.2)
  · rw [join_out hab]
    refine hp.2 ?_
    rw [those_nil (fun x => by
      by_cases ha : a < rows.length
      · rw [rowB_no (a := b) (by omega)]; simp
      · rw [rowB_no (a := a) (by omega)]; rfl)]
    rfl
theorem pick_meet {rows : List Nat} (h : Fine rows) {a b x : Nat} (hp : Pick (fun x y => rowB rows y x) (thoseTo (fun x => rowB rows x a && rowB rows x b) rows.length) x) : x = meetF rows a b := by
  by_cases hab : a < rows.length ∧ b < rows.length
  · obtain ⟨k1, k2, k3⟩ := meet_spec h hab.1 hab.2
    have hm : meetF rows a b ∈ thoseTo (fun x => rowB rows x a && rowB rows x b) rows.length := mem_those.2 ⟨(rowB_lt k1).1, by rw [k1, k2]; rfl⟩
    have hy := someAll_yes (P := fun x y => rowB rows y x) hm (fun y hy => by
      have := (mem_those.1 hy).2
      rw [Bool.and_eq_true] at this
      exact k3 y this.1 this.2)
    obtain ⟨h1, h2⟩ := hp.1 hy
    have hx := (mem_those.1 h1).2
    rw [Bool.and_eq_true] at hx
    exact h.ord.anti _ _ (k3 x hx.1 hx.2) (h2 _ hm)
  · rw [meet_out hab]
    refine hp.2 ?_
    rw [those_nil (fun x => by
      by_cases ha : a < rows.length
      · rw [rowB_no (b := b) (by omega)]; simp
      · rw [rowB_no (b := a) (by omega)]; rfl)]
    rfl
theorem pick_bot {rows : List Nat} (h : Fine rows) {x : Nat} (hp : Pick (fun x y => rowB rows x y) (thoseTo (fun _ => true) rows.length) x) : x = botF rows := by
  obtain ⟨k1, k2⟩ := bot_spec h
  have hm : botF rows ∈ thoseTo (fun _ => true) rows.length := mem_those.2 ⟨k1, rfl⟩
  obtain ⟨h1, h2⟩ := hp.1 (someAll_yes (P := fun x y => rowB rows x y) hm (fun y hy => k2 y (mem_those.1 hy).1))
  exact h.ord.anti _ _ (h2 _ hm) (k2 x (mem_those.1 h1).1)
theorem pick_top {rows : List Nat} (h : Fine rows) {x : Nat} (hp : Pick (fun x y => rowB rows y x) (thoseTo (fun _ => true) rows.length) x) : x = topF rows := by
  obtain ⟨k1, k2⟩ := top_spec h
  have hm : topF rows ∈ thoseTo (fun _ => true) rows.length := mem_those.2 ⟨k1, rfl⟩
  obtain ⟨h1, h2⟩ := hp.1 (someAll_yes (P := fun x y => rowB rows y x) hm (fun y hy => k2 y (mem_those.1 hy).1))
  exact h.ord.anti _ _ (k2 x (mem_those.1 h1).1) (h2 _ hm)
theorem those_le {p : Nat → Bool} {n : Nat} : ∀ x ∈ thoseTo p n, x < n := fun _ hx => thoseTo_lt hx
set_option maxRecDepth 20000 in
set_option maxHeartbeats 1000000 in
theorem every_any (A : Option Addr) (n c : Nat) (hmax : n ≤ 64) (w : World) : Calls Tryz.prog 173 #[.slice A n c] w fun e w' => (∃ v, e = .returned v ∧ Row w' w.heap.size v (thoseTo (fun _ => true) n)) ∧ Below w.heap.size w w' := by
  obtain ⟨p, hp⟩ : ∃ p : Nat → Bool, p = fun _ => true := ⟨_, rfl⟩
  rw [← hp]
  have HP := Lib.hid (fun x => (congrFun hp x : p x = _))
  clear hp
  go_enter Tryz.func173, Tryz.ntmps173
  go_wp2
  go_loopw [3, 4] (fun v i wr => ∃ k : Nat, k ≤ n ∧ i = .int .u64 k ∧ Hid (Row wr w.heap.size v (thoseTo p k)) ∧ Hid (Below w.heap.size w wr)) (fun _ i _ => n - (intOf i).toNat)
  case atStart => exact ⟨0, by omega, rfl, Row.nil _ _, Below.refl _ w⟩
  case round =>
    obtain ⟨k, hk, rfl, HR, HB⟩ := hrel
    by_cases hlt : k < n
    · have d1 : decide ((k : Int) < (n : Int)) = true := by simp; omega
      have HPY := Lib.hid (thoseTo_yes (p := p) (i := k) (HP.out k))
      have HLN := Lib.hid (thoseTo_length p k)
      have HBA := Lib.hid (HB.out.alloc HB.out.size (.cells #[.int .u64 (k : Int)] 66))
      have HRA := Lib.hid (HR.out.below ((Below.refl wr.heap.size wr).alloc (Nat.le_refl _) (.cells #[.int .u64 (k : Int)] 66)))
      go_wp2_with (first
        | (at_builtin; refine print_append_row (w0 := w) w.heap.size rfl (.tmp 12) (.tmp 14) 22 66 .u64 8 rfl under22' info23 (by decide) _ (intsN (thoseTo p k)) [(k : Int)] (some ⟨wr.heap.size, 0, none⟩) 1 1 rfl rfl HRA.out (reads_one wr _) HBA.out HBA.out.size (by rw [intsN_length]; have := HLN.out; omega) ?_; intro v7 w7 ho7 hb7 hg7 hat7; have HR7 := Lib.hid (show Row w7 w.heap.size v7 (thoseTo p (k + 1)) from (by unfold Row; rw [HPY.out, intsN_append]; exact ho7)); have HB7 := Lib.hid hb7; clear ho7 hb7 hg7 hat7)
        | fail)
      go_roundw
      case rel => exact ⟨k + 1, by omega, by go_num, HR7.out, HB7.out⟩
      case measure => simp [intOf]; omega
    · obtain rfl : k = n := by omega
      have d1 : decide ((k : Int) < (k : Int)) = false := by simp
      go_wp2
      go_ret
      exact ⟨⟨_, rfl, HR.out⟩, HB.out⟩
theorem lt64 {p : Nat → Bool} {n : Nat} (h : n ≤ 64) : ∀ x ∈ thoseTo p n, x < 18446744073709551616 := fun x hx => by have := those_le x hx; omega
set_option maxRecDepth 20000 in
theorem refjoin_any (A : Option Addr) (n c : Nat) (rows : List Nat) (hn : n = rows.length) (hf : Fine rows) (a b : Nat) (ha : a < 18446744073709551616) (hb : b < 18446744073709551616) (w : World) (hI : Nums w A rows) : Calls Tryz.prog 128 #[.slice A n c, .int .u64 (a : Int), .int .u64 (b : Int)] w fun e w' => e = .returned (.int .u64 ((joinF rows a b : Nat) : Int)) ∧ Below w.heap.size w w' := by
  have hmax : n ≤ 64 := by rw [hn]; exact hf.le
  have HI := Lib.hid hI
  have HN := Lib.hid hn
  have HPK := Lib.hid (fun x hp => pick_join (x := x) hf (a := a) (b := b) hp)
  rw [← HN.out] at HPK
  clear hI hn hf
  go_enter Tryz.func128, Tryz.ntmps128
  go_wp2_with fail
  refine (above_any A n c rows HN.out hmax a b ha hb w HI.out).mono ?_
  rintro e w1 ⟨⟨v, rfl, hr⟩, hb1⟩
  obtain ⟨A2, c2, rfl, hc2, hJ⟩ := hr.nums (lt64 hmax)
  have HJ := Lib.hid hJ
  have HB1 := Lib.hid hb1
  have HI1 := Lib.hid (HI.out.below hb1)
  have hl := thoseTo_length (fun x => rowB rows a x && rowB rows b x) n
  clear hr hb1 hc2 hJ
  obtain ⟨S, hS⟩ : ∃ S, S = thoseTo (fun x => rowB rows a x && rowB rows b x) n := ⟨_, rfl⟩
  rw [← hS] at HJ hl HPK ⊢
  clear hS
  go_wp2_with fail
  refine (leastv_any A n c rows HN.out hmax A2 S.length c2 S rfl (by omega) w1 HI1.out HJ.out).mono ?_
  rintro e w2 ⟨⟨x, rfl, hp⟩, hb2⟩
  have HB2 := Lib.hid (on HB1.out hb2)
  have HX := Lib.hid (HPK.out x hp)
  clear hb2 hp
  generalize someAll (fun x y => rowB rows x y) S = q
  go_wp2
  go_ret
  exact ⟨by rw [← HX.out]; rfl, HB2.out⟩
set_option maxRecDepth 20000 in
theorem refmeet_any (A : Option Addr) (n c : Nat) (rows : List Nat) (hn : n = rows.length) (hf : Fine rows) (a b : Nat) (ha : a < 18446744073709551616) (hb : b < 18446744073709551616) (w : World) (hI : Nums w A rows) : Calls Tryz.prog 131 #[.slice A n c, .int .u64 (a : Int), .int .u64 (b : Int)] w fun e w' => e = .returned (.int .u64 ((meetF rows a b : Nat) : Int)) ∧ Below w.heap.size w w' := by
  have hmax : n ≤ 64 := by rw [hn]; exact hf.le
  have HI := Lib.hid hI
  have HN := Lib.hid hn
  have HPK := Lib.hid (fun x hp => pick_meet (x := x) hf (a := a) (b := b) hp)
  rw [← HN.out] at HPK
  clear hI hn hf
  go_enter Tryz.func131, Tryz.ntmps131
  go_wp2_with fail
  refine (under_any A n c rows HN.out hmax a b ha hb w HI.out).mono ?_
  rintro e w1 ⟨⟨v, rfl, hr⟩, hb1⟩
  obtain ⟨A2, c2, rfl, hc2, hJ⟩ := hr.nums (lt64 hmax)
  have HJ := Lib.hid hJ
  have HB1 := Lib.hid hb1
  have HI1 := Lib.hid (HI.out.below hb1)
  have hl := thoseTo_length (fun x => rowB rows x a && rowB rows x b) n
  clear hr hb1 hc2 hJ
  obtain ⟨S, hS⟩ : ∃ S, S = thoseTo (fun x => rowB rows x a && rowB rows x b) n := ⟨_, rfl⟩
  rw [← hS] at HJ hl HPK ⊢
  clear hS
  go_wp2_with fail
  refine (greatestv_any A n c rows HN.out hmax A2 S.length c2 S rfl (by omega) w1 HI1.out HJ.out).mono ?_
  rintro e w2 ⟨⟨x, rfl, hp⟩, hb2⟩
  have HB2 := Lib.hid (on HB1.out hb2)
  have HX := Lib.hid (HPK.out x hp)
  clear hb2 hp
  generalize someAll (fun x y => rowB rows y x) S = q
  go_wp2
  go_ret
  exact ⟨by rw [← HX.out]; rfl, HB2.out⟩
set_option maxRecDepth 20000 in
theorem refbot_any (A : Option Addr) (n c : Nat) (rows : List Nat) (hn : n = rows.length) (hf : Fine rows) (w : World) (hI : Nums w A rows) : Calls Tryz.prog 124 #[.slice A n c] w fun e w' => e = .returned (.int .u64 ((botF rows : Nat) : Int)) ∧ Below w.heap.size w w' := by
  have hmax : n ≤ 64 := by rw [hn]; exact hf.le
  have HI := Lib.hid hI
  have HN := Lib.hid hn
  have HPK := Lib.hid (fun x hp => pick_bot (x := x) hf hp)
  rw [← HN.out] at HPK
  clear hI hn hf
  go_enter Tryz.func124, Tryz.ntmps124
  go_wp2_with fail
  refine (every_any A n c hmax w).mono ?_
  rintro e w1 ⟨⟨v, rfl, hr⟩, hb1⟩
  obtain ⟨A2, c2, rfl, hc2, hJ⟩ := hr.nums (lt64 hmax)
  have HJ := Lib.hid hJ
  have HB1 := Lib.hid hb1
  have HI1 := Lib.hid (HI.out.below hb1)
  have hl := thoseTo_length (fun _ => true) n
  clear hr hb1 hc2 hJ
  obtain ⟨S, hS⟩ : ∃ S, S = thoseTo (fun _ => true) n := ⟨_, rfl⟩
  rw [← hS] at HJ hl HPK ⊢
  clear hS
  go_wp2_with fail
  refine (leastv_any A n c rows HN.out hmax A2 S.length c2 S rfl (by omega) w1 HI1.out HJ.out).mono ?_
  rintro e w2 ⟨⟨x, rfl, hp⟩, hb2⟩
  have HB2 := Lib.hid (on HB1.out hb2)
  have HX := Lib.hid (HPK.out x hp)
  clear hb2 hp
  generalize someAll (fun x y => rowB rows x y) S = q
  go_wp2
  go_ret
  exact ⟨by rw [← HX.out]; rfl, HB2.out⟩
set_option maxRecDepth 20000 in
theorem reftop_any (A : Option Addr) (n c : Nat) (rows : List Nat) (hn : n = rows.length) (hf : Fine rows) (w : World) (hI : Nums w A rows) : Calls Tryz.prog 125 #[.slice A n c] w fun e w' => e = .returned (.int .u64 ((topF rows : Nat) : Int)) ∧ Below w.heap.size w w' := by
  have hmax : n ≤ 64 := by rw [hn]; exact hf.le
  have HI := Lib.hid hI
  have HN := Lib.hid hn
  have HPK := Lib.hid (fun x hp => pick_top (x := x) hf hp)
  rw [← HN.out] at HPK
  clear hI hn hf
  go_enter Tryz.func125, Tryz.ntmps125
  go_wp2_with fail
  refine (every_any A n c hmax w).mono ?_
  rintro e w1 ⟨⟨v, rfl, hr⟩, hb1⟩
  obtain ⟨A2, c2, rfl, hc2, hJ⟩ := hr.nums (lt64 hmax)
  have HJ := Lib.hid hJ
  have HB1 := Lib.hid hb1
  have HI1 := Lib.hid (HI.out.below hb1)
  have hl := thoseTo_length (fun _ => true) n
  clear hr hb1 hc2 hJ
  obtain ⟨S, hS⟩ : ∃ S, S = thoseTo (fun _ => true) n := ⟨_, rfl⟩
  rw [← hS] at HJ hl HPK ⊢
  clear hS
  go_wp2_with fail
  refine (greatestv_any A n c rows HN.out hmax A2 S.length c2 S rfl (by omega) w1 HI1.out HJ.out).mono ?_
  rintro e w2 ⟨⟨x, rfl, hp⟩, hb2⟩
  have HB2 := Lib.hid (on HB1.out hb2)
  have HX := Lib.hid (HPK.out x hp)
  clear hb2 hp
  generalize someAll (fun x y => rowB rows y x) S = q
  go_wp2
  go_ret
  exact ⟨by rw [← HX.out]; rfl, HB2.out⟩
theorem refhas_any (A : Option Addr) (n c : Nat) (hmax : n ≤ 64) (a : Nat) (w : World) : Calls Tryz.prog 122 #[.slice A n c, .int .u64 (a : Int)] w fun e w' => e = .returned (.bool (decide (a < n))) ∧ w = w' := by
  have d1 : decide ((a : Int) < (n : Int)) = decide (a < n) := by rw [decide_eq_decide]; omega
  go_enter Tryz.func122, Tryz.ntmps122
  go_wp2
  go_ret
  exact ⟨by simp, rfl⟩
end Go.Proofs.YtajilghlcfheiaaGreatDoor.Bnd
