/- nums.GetText, and the document's. -/
import Derived.Test.YtmfmampcgadjhaaGet
import Derived.Test.YtmfmampcgadjhaaRefGet
import Derived.Laws.IdiomStrings
namespace Go.Proofs.Ytmfmampcgadjhaa
open Go.RowKit Go.Proofs.YtmfmampcgadjhaaW.PrintWords
/-- the text that bytes begin with: it, how many bytes it took, and the error. -/
def text (bs : List UInt8) : List UInt8 × Nat × Nat :=
  if (get bs).2.2 = 0 then if bs.length - (get bs).2.1 < (get bs).1 then ([], 0, 5) else ((bs.drop (get bs).2.1).take (get bs).1, (get bs).2.1 + (get bs).1, 0) else ([], 0, (get bs).2.2)
def tupT (r : List UInt8 × Nat × Nat) : Value := .tuple #[.string ⟨r.1.toArray⟩, .int .i64 (r.2.1 : Int), .int .i64 (r.2.2 : Int)]
theorem getA_took : ∀ (l : List UInt8) (i a : Nat), (getA i a l).2.2 = 0 → (getA i a l).2.1 ≤ i + l.length ∧ i < (getA i a l).2.1
  | [], i, a => by simp [getA]
  | c :: l, i, a => by
    rw [getA_cons]
    split
    · simp
    · split
      · simp
      · intro h
        have := getA_took l _ _ h
        simp only [List.length_cons]
        omega
theorem get_took {bs : List UInt8} (h : (get bs).2.2 = 0) : (get bs).2.1 ≤ bs.length ∧ 0 < (get bs).2.1 := by
  have := getA_took bs 0 0 h
  simpa [get] using this
theorem getA_errno : ∀ (l : List UInt8) (i a : Nat), (getA i a l).2.2 = 0 ∨ ((getA i a l).1 = 0 ∧ (getA i a l).2.1 = 0 ∧ ((getA i a l).2.2 = 4 ∨ (getA i a l).2.2 = 5))
  | [], i, a => by simp [getA]
  | c :: l, i, a => by
    rw [getA_cons]
    split
    · simp
    · split
      · simp
      · exact getA_errno l _ _
theorem get_errno (bs : List UInt8) : (get bs).2.2 = 0 ∨ ((get bs).1 = 0 ∧ (get bs).2.1 = 0 ∧ ((get bs).2.2 = 4 ∨ (get bs).2.2 = 5)) := getA_errno bs 0 0
theorem getA_lt : ∀ (l : List UInt8) (i a : Nat), i ≤ 9 → a < 128 ^ i → (getA i a l).1 < 18446744073709551616
  | [], i, a, _, _ => by simp [getA]
  | c :: l, i, a, hi, ha => by
    rw [getA_cons]
    split
    · simp
    · rename_i h
      have h9 := pow_le9 hi
      split
      · rename_i h1
        by_cases e : i = 9
        · subst e
          have : c.toNat ≤ 1 := by omega
          have h2 : c.toNat * 128 ^ 9 ≤ 1 * 128 ^ 9 := Nat.mul_le_mul_right _ this
          show a + c.toNat * 128 ^ 9 < _
          omega
        · have := mul_lt9 h1 (k := i) (by omega)
          show a + c.toNat * 128 ^ i < _
          omega
      · rename_i h1
        have hc := c.toNat_lt
        refine getA_lt l _ _ ?_ (more_lt ha (by omega))
        omega
theorem get_lt (bs : List UInt8) : (get bs).1 < 18446744073709551616 := getA_lt bs 0 0 (by omega) (by omega)

theorem wrap_i64 {x : Nat} (h : x ≤ 9223372036854775807) : IntKind.i64.wrap (x : Int) = (x : Int) := by rw [IntKind.wrap_i64]; omega
theorem wrap64_nat {x : Nat} (h : x ≤ 9223372036854775807) : wrap64 (x : Int) = (x : Int) := by unfold wrap64; omega
theorem under22 : Try.prog.underlying 22 = some (.slice 5) := by kernel_rfl
theorem under5 : Try.prog.underlying 5 = some (.int .u8) := by kernel_rfl
theorem under9 : Try.prog.underlying 9 = some .string := by kernel_rfl
/-- 'string(b[t:t+m])'. -/
theorem string_part {w : World} {b off cap : Nat} {bs : List UInt8} (hc : ∀ j, (hj : j < bs.length) → w.cell? ⟨b, off + j, none⟩ = some (.int .u8 ((bs[j].toNat : Nat) : Int))) (t m : Nat) (h : t + m ≤ bs.length) :
    (convert 22 9 (.slice (some ⟨b, off + t, none⟩) m cap)).run Try.prog w = .ok (.string ⟨((bs.drop t).take m).toArray⟩) w := by
  have hl : ((bs.drop t).take m).length = m := by rw [List.length_take, List.length_drop]; omega
  have := run_convert_bytes_back (P := Try.prog) w 22 9 5 ⟨b, off + t, none⟩ cap ((bs.drop t).take m) under22 under5 under9 (fun j hj => by
    rw [hl] at hj
    rw [add_of, Nat.add_assoc, hc (t + j) (by omega), List.getElem_take, List.getElem_drop])
  rwa [hl] at this
theorem string_none {w : World} {A : Option Addr} {cap : Nat} : (convert 22 9 (.slice A (0 : Nat) cap)).run Try.prog w = .ok (.string ⟨#[]⟩) w := by
  cases A with
  | none => exact run_convert_bytes_nil w 22 5 under22 under5 0 cap 9 under9
  | some a => exact run_convert_bytes_back (P := Try.prog) w 22 9 5 a cap [] under22 under5 under9 (fun j hj => by simp at hj)
set_option maxRecDepth 20000 in
set_option maxHeartbeats 600000 in
theorem text_any (A : Option Addr) (n cap : Nat) (bs : List UInt8) (hn : n = bs.length) (hcap : n ≤ cap) (w : World) (hI : Bytes w w.heap.size A bs) : Calls Try.prog 13 #[.slice A n cap] w fun e w' => e = .returned (tupT (text bs)) ∧ w = w' := by
  have HG := Lib.hid (get_any A n cap bs hn w hI)
  obtain ⟨t, ht⟩ : ∃ t, t = text bs := ⟨_, rfl⟩
  rw [← ht]
  unfold text at ht
  have hz := get_errno bs
  have htk := get_took (bs := bs)
  have hlt := get_lt bs
  obtain ⟨r, hr⟩ : ∃ r, r = get bs := ⟨_, rfl⟩
  rw [← hr] at ht hz htk hlt HG
  clear hr
  obtain ⟨m, k, x⟩ := r
  simp only at ht hz htk hlt
  have hmax := hI.1
  have HI := Lib.hid hI
  clear hI
  by_cases hx : x = 0
  · subst hx
    obtain ⟨hk, hk0⟩ := htk rfl
    rw [if_pos rfl] at ht
    obtain ⟨b, off, rfl, _, hc⟩ := HI.out.2 (by omega)
    rw [← hn] at ht hk hmax
    by_cases hs : n - k < m
    · rw [if_pos hs] at ht
      subst ht
      have d1 : decide (((n - k : Nat) : Int) < (m : Int)) = true := by simp; omega
      have d2 : decide (n - k < m) = true := by simp; omega
      clear hc hz htk hk0 hn
      go_enter Try.func13, Try.ntmps13
      go_wp2_with fail
      refine HG.out.mono ?_
      rintro e w1 ⟨rfl, rfl⟩
      unfold tup
      go_wp2
      go_ret3
      exact ⟨by first | rfl | (unfold tupT; rw [HT.out]; rfl), rfl⟩
    · rw [if_neg hs] at ht
      subst ht
      have d1 : decide (((n - k : Nat) : Int) < (m : Int)) = false := by simp; omega
      have d2 : decide (n - k < m) = false := by simp; omega
      have hm5 : m ≤ 9223372036854775807 := by omega
      have hm6 : k + m ≤ 9223372036854775807 := by omega
      have l1 : k ≤ k + m := by omega
      have l2 : k + m ≤ cap := by omega
      have l3 : ¬ k + m < k := by omega
      have l4 : ¬ cap < k + m := by omega
      have kb : (convert 22 9 (.slice (if cap = k then some ⟨b, off, none⟩ else some ⟨b, off + k, none⟩) m (cap - k))).run Try.prog w = .ok (.string ⟨((bs.drop k).take m).toArray⟩) w := by
        by_cases hck : cap = k
        · obtain rfl : m = 0 := by omega
          rw [List.take_zero, if_pos hck]
          exact string_none
        · rw [if_neg hck]
          exact string_part hc k m (by omega)
      clear hc hz htk hk0 hn
      obtain ⟨txt, htxt⟩ : ∃ txt, txt = ((bs.drop k).take m).toArray := ⟨_, rfl⟩
      rw [← htxt] at kb
      have HT := Lib.hid htxt.symm
      clear htxt
      by_cases hck : cap = k
      · rw [if_pos hck] at kb
        subst hck
        obtain rfl : m = 0 := by omega
        rw [Nat.sub_self] at kb
        go_enter Try.func13, Try.ntmps13
        go_wp2_with fail
        refine HG.out.mono ?_
        rintro e w1 ⟨rfl, rfl⟩
        unfold tup
        go_wp2
        go_ret3
        exact ⟨by first | rfl | (unfold tupT; rw [HT.out]; rfl), rfl⟩
      · rw [if_neg hck] at kb
        go_enter Try.func13, Try.ntmps13
        go_wp2_with fail
        refine HG.out.mono ?_
        rintro e w1 ⟨rfl, rfl⟩
        unfold tup
        go_wp2
        go_ret3
        exact ⟨by first | rfl | (unfold tupT; rw [HT.out]; rfl), rfl⟩
  · rw [if_neg hx] at ht
    subst ht
    have d1 : ((x : Int) == 0) = false := by rw [beq_eq_false_iff_ne]; omega
    have hz2 := hz.resolve_left hx
    clear hz htk hlt hn
    have e1 := hz2.1
    have e2 := hz2.2.1
    clear hz2
    subst e1
    subst e2
    go_enter Try.func13, Try.ntmps13
    go_wp2_with fail
    refine HG.out.mono ?_
    rintro e w1 ⟨rfl, rfl⟩
    unfold tup
    go_wp2
    go_ret3
    exact ⟨by first | rfl | (unfold tupT; rw [HT.out]; rfl), rfl⟩
set_option maxRecDepth 20000 in
set_option maxHeartbeats 600000 in
theorem reftext_any (A : Option Addr) (n cap : Nat) (bs : List UInt8) (hn : n = bs.length) (hcap : n ≤ cap) (w : World) (hI : Bytes w w.heap.size A bs) : Calls Try.prog 14 #[.slice A n cap] w fun e w' => e = .returned (tupT (text bs)) ∧ w = w' := by
  have HG := Lib.hid (refget_any A n cap bs hn w hI)
  obtain ⟨t, ht⟩ : ∃ t, t = text bs := ⟨_, rfl⟩
  rw [← ht]
  unfold text at ht
  have hz := get_errno bs
  have htk := get_took (bs := bs)
  have hlt := get_lt bs
  obtain ⟨r, hr⟩ : ∃ r, r = get bs := ⟨_, rfl⟩
  rw [← hr] at ht hz htk hlt HG
  clear hr
  obtain ⟨m, k, x⟩ := r
  simp only at ht hz htk hlt
  have hmax := hI.1
  have HI := Lib.hid hI
  clear hI
  by_cases hx : x = 0
  · subst hx
    obtain ⟨hk, hk0⟩ := htk rfl
    rw [if_pos rfl] at ht
    obtain ⟨b, off, rfl, _, hc⟩ := HI.out.2 (by omega)
    rw [← hn] at ht hk hmax
    by_cases hs : n - k < m
    · rw [if_pos hs] at ht
      subst ht
      have d1 : decide (((n - k : Nat) : Int) < (m : Int)) = true := by simp; omega
      have d2 : decide (n - k < m) = true := by simp; omega
      clear hc hz htk hk0 hn
      go_enter Try.func14, Try.ntmps14
      go_wp2_with fail
      refine HG.out.mono ?_
      rintro e w1 ⟨rfl, rfl⟩
      unfold tup
      go_wp2
      go_ret3
      exact ⟨by first | rfl | (unfold tupT; rw [HT.out]; rfl), rfl⟩
    · rw [if_neg hs] at ht
      subst ht
      have d1 : decide (((n - k : Nat) : Int) < (m : Int)) = false := by simp; omega
      have d2 : decide (n - k < m) = false := by simp; omega
      have hm5 : m ≤ 9223372036854775807 := by omega
      have hm6 : k + m ≤ 9223372036854775807 := by omega
      have l1 : k ≤ k + m := by omega
      have l2 : k + m ≤ cap := by omega
      have l3 : ¬ k + m < k := by omega
      have l4 : ¬ cap < k + m := by omega
      have kb : (convert 22 9 (.slice (if cap = k then some ⟨b, off, none⟩ else some ⟨b, off + k, none⟩) m (cap - k))).run Try.prog w = .ok (.string ⟨((bs.drop k).take m).toArray⟩) w := by
        by_cases hck : cap = k
        · obtain rfl : m = 0 := by omega
          rw [List.take_zero, if_pos hck]
          exact string_none
        · rw [if_neg hck]
          exact string_part hc k m (by omega)
      clear hc hz htk hk0 hn
      obtain ⟨txt, htxt⟩ : ∃ txt, txt = ((bs.drop k).take m).toArray := ⟨_, rfl⟩
      rw [← htxt] at kb
      have HT := Lib.hid htxt.symm
      clear htxt
      by_cases hck : cap = k
      · rw [if_pos hck] at kb
        subst hck
        obtain rfl : m = 0 := by omega
        rw [Nat.sub_self] at kb
        go_enter Try.func14, Try.ntmps14
        go_wp2_with fail
        refine HG.out.mono ?_
        rintro e w1 ⟨rfl, rfl⟩
        unfold tup
        go_wp2
        go_ret3
        exact ⟨by first | rfl | (unfold tupT; rw [HT.out]; rfl), rfl⟩
      · rw [if_neg hck] at kb
        go_enter Try.func14, Try.ntmps14
        go_wp2_with fail
        refine HG.out.mono ?_
        rintro e w1 ⟨rfl, rfl⟩
        unfold tup
        go_wp2
        go_ret3
        exact ⟨by first | rfl | (unfold tupT; rw [HT.out]; rfl), rfl⟩
  · rw [if_neg hx] at ht
    subst ht
    have d1 : ((x : Int) == 0) = false := by rw [beq_eq_false_iff_ne]; omega
    have hz2 := hz.resolve_left hx
    clear hz htk hlt hn
    have e1 := hz2.1
    have e2 := hz2.2.1
    clear hz2
    subst e1
    subst e2
    go_enter Try.func14, Try.ntmps14
    go_wp2_with fail
    refine HG.out.mono ?_
    rintro e w1 ⟨rfl, rfl⟩
    unfold tup
    go_wp2
    go_ret3
    exact ⟨by first | rfl | (unfold tupT; rw [HT.out]; rfl), rfl⟩
end Go.Proofs.Ytmfmampcgadjhaa
