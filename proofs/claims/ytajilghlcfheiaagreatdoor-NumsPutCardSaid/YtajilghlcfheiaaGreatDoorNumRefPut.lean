/- The document's Put. -/
import Derived.Test.YtajilghlcfheiaaGreatDoorNumNum4
namespace Go.Proofs.YtajilghlcfheiaaGreatDoor.Num
open Go.RowKit Go.Proofs.YtajilghlcfheiaaGreatDoorW.PrintWords
set_option linter.unusedVariables false
set_option maxRecDepth 20000
set_option maxHeartbeats 2000000
theorem refput_any (A : Option Addr) (n c : Nat) (bs : List UInt8) (hn : n = bs.length) (hs : n ≤ 900000) (x0 : Nat) (hx0 : x0 < 18446744073709551616) (w : World) (hI : Bytes w w.heap.size A bs) :
    Calls Tryz.prog 29 #[.slice A n c, .int .u64 (x0 : Int)] w fun e w' => (∃ v, e = .returned v ∧ Row w' w.heap.size v (bs ++ num x0)) ∧ Below w.heap.size w w' := by
  have HI := Lib.hid hI
  have HN := Lib.hid hn
  have HRD := Lib.hid (show ReadsInt w .u8 A n (ints bs) by rw [hn]; exact hI.reads)
  have HBR := Lib.hid (Below.refl w.heap.size w)
  clear hI hn
  go_enter Tryz.func29, Tryz.ntmps29
  go_wp2_with (at_builtin; refine print_append_row (w0 := w) w.heap.size rfl (.const (.slice none 0 0)) (.tmp 6) 65 5 .u8 1 rfl under22 info5 (by decide) _ [] (ints bs) A n c rfl rfl (own_nil _ _ _ _) HRD.out HBR.out (Nat.le_refl _) (by simp; omega) ?_; intro v1 w1 ho1 hb1 hg1 hat1; rw [List.nil_append] at ho1; have HO1 := Lib.hid ho1; have HB1 := Lib.hid hb1; clear ho1 hb1 hg1 hat1)
  go_loopw [1, 5] (fun i v wr => ∃ (x f : Nat) (pre : List UInt8), i = .int .u64 x ∧ x < 18446744073709551616 ∧ f ≤ 9 ∧ Hid (x < 128 ^ (f + 1)) ∧ Hid (pre ++ numF f x = num x0) ∧ Hid (pre.length + f ≤ 9) ∧ Hid (Row wr w.heap.size v (bs ++ pre)) ∧ Hid (Below w.heap.size w wr)) (fun i _ _ => (intOf i).toNat)
  case atStart => exact ⟨x0, 9, [], rfl, hx0, by omega, Lib.hid (by omega), rfl, Lib.hid (by simp), by rw [List.append_nil]; exact HO1.out, HB1.out⟩
  case round =>
    obtain ⟨x, f, pre, rfl, hx, hf, HF, HE, HP, HR, HB⟩ := hrel
    have HLN := Lib.hid (show (ints (bs ++ pre)).length ≤ 1000000 by rw [ints_length, List.length_append, ← HN.out]; have := HP.out; omega)
    by_cases hlt : x < 128
    · have d1 : decide (128 ≤ (x : Int)) = false := by simp; omega
      have HNX := Lib.hid (show bs ++ num x0 = bs ++ pre ++ [UInt8.ofNat x] by rw [← HE.out, numF_end hlt, List.append_assoc])
      have HBA := Lib.hid (HB.out.alloc HB.out.size (.cells #[.int .u8 (x : Int)] 5))
      have HRA := Lib.hid (HR.out.below ((Below.refl wr.heap.size wr).alloc (Nat.le_refl _) (.cells #[.int .u8 (x : Int)] 5)))
      have HI1 := Lib.hid (ints_one x (by omega))
      clear HF HE HR
      go_wp2_with (at_builtin; refine print_append_row (w0 := w) w.heap.size rfl (.tmp 19) (.tmp 22) 65 5 .u8 1 rfl under22 info5 (by decide) _ (ints (bs ++ pre)) [(x : Int)] (some ⟨wr.heap.size, 0, none⟩) 1 1 rfl rfl HRA.out (reads_one wr _) HBA.out HBA.out.size (by have := HLN.out; omega) ?_; intro v7 w7 ho7 hb7 hg7 hat7; have hr7 : Row w7 w.heap.size v7 (bs ++ num x0) := (by unfold Row; rw [HNX.out, ints_append (bs ++ pre), HI1.out]; exact ho7); have HR7 := Lib.hid hr7; have HB7 := Lib.hid hb7; clear ho7 hb7 hg7 hat7 hr7)
      go_ret
      exact ⟨⟨_, rfl, HR7.out⟩, HB7.out⟩
    · have d1 : decide (128 ≤ (x : Int)) = true := by simp; omega
      obtain ⟨f, rfl⟩ : ∃ g, f = g + 1 := by
        cases f with
        | zero => have := HF.out; omega
        | succ g => exact ⟨g, rfl⟩
      obtain ⟨y, hy⟩ : ∃ y, y = x % 128 + 128 := ⟨_, rfl⟩
      have HNX := Lib.hid (show (pre ++ [UInt8.ofNat y]) ++ numF f (x / 128) = num x0 by rw [← HE.out, numF_more (by omega), hy, List.append_assoc]; rfl)
      have HFX := Lib.hid (show x / 128 < 128 ^ (f + 1) by have := HF.out; rw [Nat.pow_succ] at this; omega)
      have hge : 128 ≤ x := by omega
      have hx1 : x % 128 < 128 := Nat.mod_lt _ (by omega)
      have HBA := Lib.hid (HB.out.alloc HB.out.size (.cells #[.int .u8 ((x : Int) % 128 + 128)] 5))
      have HRA := Lib.hid (HR.out.below ((Below.refl wr.heap.size wr).alloc (Nat.le_refl _) (.cells #[.int .u8 ((x : Int) % 128 + 128)] 5)))
      have HI1 := Lib.hid (show ints [UInt8.ofNat y] = [(x : Int) % 128 + 128] by rw [ints_one y (by omega), hy]; congr 1)
      have HP1 := Lib.hid (show (pre ++ [UInt8.ofNat y]).length + f ≤ 9 by have := HP.out; simp; omega)
      have HX1 := Lib.hid hx1
      clear HF HE HR hy hlt hx1
      go_wp2_with (at_builtin; refine print_append_row (w0 := w) w.heap.size rfl (.tmp 10) (.tmp 15) 65 5 .u8 1 rfl under22 info5 (by decide) _ (ints (bs ++ pre)) [(x : Int) % 128 + 128] (some ⟨wr.heap.size, 0, none⟩) 1 1 rfl rfl HRA.out (reads_one wr _) HBA.out HBA.out.size (by have := HLN.out; omega) ?_; intro v7 w7 ho7 hb7 hg7 hat7; have HR7 := Lib.hid (show Row w7 w.heap.size v7 (bs ++ (pre ++ [UInt8.ofNat y])) from (by unfold Row; rw [← List.append_assoc, ints_append (bs ++ pre), HI1.out]; exact ho7)); have HB7 := Lib.hid hb7; clear ho7 hb7 hg7 hat7)
      go_roundw
      case rel => exact ⟨x / 128, f, _, by first | go_num | (congr 1), by omega, by omega, HFX, HNX, HP1, HR7, HB7⟩
      case measure => simp [intOf]; omega
/-- the four bytes of a number, one by one. -/
def fourF : Nat → Nat → List UInt8
  | 0, _ => []
  | k + 1, x => UInt8.ofNat x :: fourF k (x / 256)
theorem four_eq (x : Nat) : fourF 4 x = four4 x := by
  simp [fourF, four4, Nat.div_div_eq_div_mul]
theorem reffour_any (A : Option Addr) (n c : Nat) (bs : List UInt8) (hn : n = bs.length) (hs : n ≤ 900000) (x0 : Nat) (hx0 : x0 < 4294967296) (w : World) (hI : Bytes w w.heap.size A bs) :
    Calls Tryz.prog 30 #[.slice A n c, .int .u32 (x0 : Int)] w fun e w' => (∃ v, e = .returned v ∧ Row w' w.heap.size v (bs ++ four4 x0)) ∧ Below w.heap.size w w' := by
  have HI := Lib.hid hI
  have HN := Lib.hid hn
  have HRD := Lib.hid (show ReadsInt w .u8 A n (ints bs) by rw [hn]; exact hI.reads)
  have HBR := Lib.hid (Below.refl w.heap.size w)
  clear hI hn
  go_enter Tryz.func30, Tryz.ntmps30
  go_wp2_with (at_builtin; refine print_append_row (w0 := w) w.heap.size rfl (.const (.slice none 0 0)) (.tmp 7) 65 5 .u8 1 rfl under22 info5 (by decide) _ [] (ints bs) A n c rfl rfl (own_nil _ _ _ _) HRD.out HBR.out (Nat.le_refl _) (by simp; omega) ?_; intro v1 w1 ho1 hb1 hg1 hat1; rw [List.nil_append] at ho1; have HO1 := Lib.hid ho1; have HB1 := Lib.hid hb1; clear ho1 hb1 hg1 hat1)
  go_loopw [1, 5, 6] (fun i v t wr => ∃ (x k : Nat) (pre : List UInt8), i = .int .u32 x ∧ t = .int .i64 k ∧ x < 4294967296 ∧ k ≤ 4 ∧ Hid (pre ++ fourF (4 - k) x = four4 x0) ∧ Hid (pre.length = k) ∧ Hid (Row wr w.heap.size v (bs ++ pre)) ∧ Hid (Below w.heap.size w wr)) (fun _ _ t _ => 4 - (intOf t).toNat)
  case atStart => exact ⟨x0, 0, [], rfl, rfl, hx0, by omega, by rw [List.nil_append]; exact four_eq x0, rfl, by rw [List.append_nil]; exact HO1.out, HB1.out⟩
  case round =>
    obtain ⟨x, k, pre, rfl, rfl, hx, hk, HE, HP, HR, HB⟩ := hrel
    have HLN := Lib.hid (show (ints (bs ++ pre)).length ≤ 1000000 by rw [ints_length, List.length_append, ← HN.out]; have := HP.out; omega)
    by_cases hlt : k < 4
    · obtain ⟨f, hf⟩ : ∃ f, 4 - k = f + 1 := ⟨3 - k, by omega⟩
      have HNX := Lib.hid (show (pre ++ [UInt8.ofNat (x % 256)]) ++ fourF (4 - (k + 1)) (x / 256) = four4 x0 by
        rw [← HE.out, hf, show 4 - (k + 1) = f by omega, List.append_assoc]
        congr 1
        show UInt8.ofNat (x % 256) :: _ = UInt8.ofNat x :: _
        congr 1
        apply UInt8.toNat.inj
        simp)
      have HBA := Lib.hid (HB.out.alloc HB.out.size (.cells #[.int .u8 ((x : Int) % 256)] 5))
      have HRA := Lib.hid (HR.out.below ((Below.refl wr.heap.size wr).alloc (Nat.le_refl _) (.cells #[.int .u8 ((x : Int) % 256)] 5)))
      have HI1 := Lib.hid (show ints [UInt8.ofNat (x % 256)] = [(x : Int) % 256] by rw [ints_one _ (Nat.mod_lt _ (by omega))]; congr 1)
      have HP1 := Lib.hid (show (pre ++ [UInt8.ofNat (x % 256)]).length = k + 1 by have := HP.out; simp; omega)
      clear HE HR hf
      go_wp2_with (at_builtin; refine print_append_row (w0 := w) w.heap.size rfl (.tmp 13) (.tmp 17) 65 5 .u8 1 rfl under22 info5 (by decide) _ (ints (bs ++ pre)) [(x : Int) % 256] (some ⟨wr.heap.size, 0, none⟩) 1 1 rfl rfl HRA.out (reads_one wr _) HBA.out HBA.out.size (by have := HLN.out; omega) ?_; intro v7 w7 ho7 hb7 hg7 hat7; have HR7 := Lib.hid (show Row w7 w.heap.size v7 (bs ++ (pre ++ [UInt8.ofNat (x % 256)])) from (by unfold Row; rw [← List.append_assoc, ints_append (bs ++ pre), HI1.out]; exact ho7)); have HB7 := Lib.hid hb7; clear ho7 hb7 hg7 hat7)
      go_roundw
      case rel => exact ⟨x / 256, k + 1, _, by first | go_num | (congr 1), by go_num, by omega, by omega, HNX, HP1, HR7, HB7⟩
      case measure => simp [intOf]; omega
    · obtain rfl : k = 4 := by omega
      have HNX := Lib.hid (show bs ++ four4 x0 = bs ++ pre by rw [← HE.out]; simp [fourF])
      go_wp2_with fail
      go_ret
      exact ⟨⟨_, rfl, by rw [HNX.out]; exact HR.out⟩, HB.out⟩
theorem reftext_any (A : Option Addr) (n c : Nat) (bs : List UInt8) (hn : n = bs.length) (hs : n ≤ 400000) (l : List UInt8) (hl : l.length ≤ 400000) (w : World) (hI : Bytes w w.heap.size A bs) :
    Calls Tryz.prog 31 #[.slice A n c, .string ⟨l.toArray⟩] w fun e w' => (∃ v, e = .returned v ∧ Row w' w.heap.size v (bs ++ num l.length ++ l)) ∧ Below w.heap.size w w' := by
  have HP := Lib.hid (refput_any A n c bs hn (by omega) l.length (by omega) w hI)
  have wl : IntKind.u64.wrap (l.length : Int) = (l.length : Int) := by rw [IntKind.wrap_u64]; omega
  have HN := Lib.hid hn
  clear hI hn
  go_enter Tryz.func31, Tryz.ntmps31
  go_wp2_with fail
  refine HP.out.mono ?_
  rintro e w1 ⟨⟨v, rfl, hr1⟩, hb1⟩
  have HR1 := Lib.hid hr1
  have HB1 := Lib.hid hb1
  clear hr1 hb1
  have hln : (num l.length).length ≤ 10 := num_le l.length (by omega)
  have HLN := Lib.hid (show (ints (bs ++ num l.length)).length ≤ 500000 by rw [ints_length, List.length_append, ← HN.out]; omega)
  have HBL := Lib.hid (show bytesOf ⟨l.toArray⟩ = ints l by unfold bytesOf ints; simp)
  have HSZ := Lib.hid (show (⟨l.toArray⟩ : ByteArray).size = l.length by simp [ByteArray.size])
  clear hln
  go_wp2_with (at_builtin; refine print_append_str (w0 := w) w.heap.size rfl (.tmp 9) (.tmp 10) 65 9 5 rfl under22 under9 info5 v (ints (bs ++ num l.length)) ⟨l.toArray⟩ rfl rfl HR1.out HB1.out HB1.out.size (by rw [HSZ.out]; have := HLN.out; omega) ?_; intro v7 w7 ho7 hb7 hg7; have HR7 := Lib.hid (show Row w7 w.heap.size v7 (bs ++ num l.length ++ l) from (by unfold Row; rw [ints_append (bs ++ num l.length), ← HBL.out]; exact ho7)); have HB7 := Lib.hid hb7; clear ho7 hb7 hg7)
  go_ret
  exact ⟨⟨_, rfl, HR7.out⟩, HB7.out⟩
end Go.Proofs.YtajilghlcfheiaaGreatDoor.Num
