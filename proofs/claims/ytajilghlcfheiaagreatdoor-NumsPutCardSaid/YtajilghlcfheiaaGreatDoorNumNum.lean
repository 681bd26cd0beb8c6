/- nums.Put, nums.PutFour, nums.PutText. -/
import Derived.Test.YtajilghlcfheiaaGreatDoorNumPut
namespace Go.Proofs.YtajilghlcfheiaaGreatDoor.Num
open Go.RowKit Go.Proofs.YtajilghlcfheiaaGreatDoorW.PrintWords
/-- a number's bytes, f of them with more behind at most. -/
def numF : Nat → Nat → List UInt8
  | 0, x => [UInt8.ofNat x]
  | f + 1, x => if x < 128 then [UInt8.ofNat x] else UInt8.ofNat (x % 128 + 128) :: numF f (x / 128)
def num (x : Nat) : List UInt8 := numF 9 x
theorem numF_end {f x : Nat} (h : x < 128) : numF f x = [UInt8.ofNat x] := by
  cases f with
  | zero => rfl
  | succ f => rw [numF, if_pos h]
theorem numF_more {f x : Nat} (h : 128 ≤ x) : numF (f + 1) x = UInt8.ofNat (x % 128 + 128) :: numF f (x / 128) := by
  rw [numF, if_neg (by omega)]
theorem or128 (x : Nat) : bits .or .u8 ((x : Int) % 256) 128 = ((x % 128 + 128 : Nat) : Int) := by
  have H : ∀ y : Fin 256, bits .or .u8 ((y.val : Nat) : Int) 128 = ((y.val % 128 + 128 : Nat) : Int) := by decide +kernel
  have e : (x : Int) % 256 = ((x % 256 : Nat) : Int) := by omega
  rw [e, H ⟨x % 256, by omega⟩]
  show ((x % 256 % 128 + 128 : Nat) : Int) = _
  omega
theorem ints_one (x : Nat) (h : x < 256) : ints [UInt8.ofNat x] = [(x : Int)] := by
  simp [ints]
  omega
theorem reads_one (W : World) (x : Int) : ReadsInt (W.alloc (.cells #[.int .u8 x] 5)) .u8 (some ⟨W.heap.size, 0, none⟩) 1 [x] := by
  refine ⟨rfl, by omega, fun _ => ⟨_, rfl, fun j hj => ?_⟩⟩
  obtain rfl : j = 0 := by omega
  rw [add_of, Nat.zero_add, cell_of_row _ _ _ _ _ _ (heap_alloc_new W _)]
  rfl
theorem Row.base {w : World} {base b2 : Nat} {v : Value} {bs : List UInt8} (h : Row w base v bs) (hb : b2 ≤ base) : Row w b2 v bs := by
  refine ⟨h.1, ?_⟩
  rcases h.2 with h0 | ⟨g, cap, cur, e, h1, h2⟩
  · exact .inl h0
  · exact .inr ⟨g, cap, cur, e, Nat.le_trans hb h1, h2⟩
theorem Bytes.mono {w : World} {n₀ n₁ : Nat} {A : Option Addr} {bs : List UInt8} (h : Bytes w n₀ A bs) (hn : n₀ ≤ n₁) : Bytes w n₁ A bs :=
  ⟨h.1, fun hp => by obtain ⟨b, off, e, hlt, hc⟩ := h.2 hp; exact ⟨b, off, e, by omega, hc⟩⟩
theorem Row.nil (base : Nat) (w : World) : Row w base (.slice none 0 0) [] := World.ownsRow_nil w base 5 1
set_option maxRecDepth 20000 in
set_option maxHeartbeats 1000000 in
theorem num_any (A : Option Addr) (n c : Nat) (bs : List UInt8) (hn : n = bs.length) (hs : n ≤ 900000) (x0 : Nat) (hx0 : x0 < 18446744073709551616) (w : World) (hI : Bytes w w.heap.size A bs) :
    Calls Tryz.prog 25 #[.slice A n c, .int .u64 (x0 : Int)] w fun e w' => (∃ v, e = .returned v ∧ Row w' w.heap.size v (bs ++ num x0)) ∧ Below w.heap.size w w' := by
  have HI := Lib.hid hI
  have HN := Lib.hid hn
  clear hI hn
  go_enter Tryz.func25, Tryz.ntmps25
  go_wp2
  go_loopw [1, 5] (fun i v wr => ∃ (x f : Nat) (pre : List UInt8), i = .int .u64 x ∧ x < 18446744073709551616 ∧ f ≤ 9 ∧ Hid (x < 128 ^ (f + 1)) ∧ Hid (pre ++ numF f x = num x0) ∧ Hid (pre.length + f ≤ 9) ∧ Hid (Row wr w.heap.size v pre) ∧ Hid (Below w.heap.size w wr)) (fun i _ _ => (intOf i).toNat)
  case atStart => exact ⟨x0, 9, [], rfl, hx0, by omega, Lib.hid (by omega), rfl, Lib.hid (by simp), Row.nil _ _, Below.refl _ w⟩
  case round =>
    obtain ⟨x, f, pre, rfl, hx, hf, HF, HE, HP, HR, HB⟩ := hrel
    by_cases hlt : x < 128
    · have d1 : decide (128 ≤ (x : Int)) = false := by simp; omega
      have HNX := Lib.hid (show num x0 = pre ++ [UInt8.ofNat x] by rw [← HE.out, numF_end hlt])
      have HBA := Lib.hid (HB.out.alloc HB.out.size (.cells #[.int .u8 (x : Int)] 5))
      have HRA := Lib.hid (HR.out.below ((Below.refl wr.heap.size wr).alloc (Nat.le_refl _) (.cells #[.int .u8 (x : Int)] 5)))
      have HI1 := Lib.hid (ints_one x (by omega))
      clear HF HE HR
      go_wp2_with (first
        | (at_builtin; refine print_append_row (w0 := w) w.heap.size rfl (.tmp 17) (.tmp 20) 65 5 .u8 1 rfl under22 info5 (by decide) _ (ints pre) [(x : Int)] (some ⟨wr.heap.size, 0, none⟩) 1 1 rfl rfl HRA.out (reads_one wr _) HBA.out HBA.out.size (by rw [ints_length]; have := HP.out; omega) ?_; intro v7 w7 ho7 hb7 hg7 hat7; have hr7 : Row w7 w.heap.size v7 (num x0) := (by unfold Row; rw [HNX.out, ints_append, HI1.out]; exact ho7); obtain ⟨A3, c3, rfl, _, hJ3⟩ := hr7.bytes; have HJ3 := Lib.hid hJ3; have HB7 := Lib.hid hb7; clear ho7 hb7 hg7 hat7 hr7 hJ3)
        | fail)
      have hl3 : (num x0).length ≤ 10 := by rw [HNX.out, List.length_append]; have := HP.out; simp; omega
      refine (put_any A n c bs HN.out A3 _ c3 (num x0) rfl (by omega) w7 ((HI.out.below HB7.out).mono HB7.out.size) HJ3.out).mono ?_
      rintro e w8 ⟨⟨v, rfl, hr8⟩, hb8⟩
      have HR8 := Lib.hid hr8
      have HB8 := Lib.hid (on HB7.out hb8)
      clear hr8 hb8
      go_wp2
      go_ret
      exact ⟨⟨_, rfl, HR8.out.base HB7.out.size⟩, HB8.out⟩
    · have d1 : decide (128 ≤ (x : Int)) = true := by simp; omega
      obtain ⟨f, rfl⟩ : ∃ g, f = g + 1 := by
        cases f with
        | zero => have := HF.out; omega
        | succ g => exact ⟨g, rfl⟩
      obtain ⟨y, hy⟩ : ∃ y, y = x % 128 + 128 := ⟨_, rfl⟩
      have hor := or128 x
      rw [← hy] at hor
      have HNX := Lib.hid (show (pre ++ [UInt8.ofNat y]) ++ numF f (x / 128) = num x0 by rw [← HE.out, numF_more (by omega), hy, List.append_assoc]; rfl)
      have HFX := Lib.hid (show x / 128 < 128 ^ (f + 1) by have := HF.out; rw [Nat.pow_succ] at this; omega)
      have HBA := Lib.hid (HB.out.alloc HB.out.size (.cells #[.int .u8 (y : Int)] 5))
      have HRA := Lib.hid (HR.out.below ((Below.refl wr.heap.size wr).alloc (Nat.le_refl _) (.cells #[.int .u8 (y : Int)] 5)))
      have HI1 := Lib.hid (ints_one y (by omega))
      have HP1 := Lib.hid (show (pre ++ [UInt8.ofNat y]).length + f ≤ 9 by have := HP.out; simp; omega)
      clear HF HE HR hy
      go_wp2_with (first
        | (at_builtin; refine print_append_row (w0 := w) w.heap.size rfl (.tmp 10) (.tmp 14) 65 5 .u8 1 rfl under22 info5 (by decide) _ (ints pre) [(y : Int)] (some ⟨wr.heap.size, 0, none⟩) 1 1 rfl rfl HRA.out (reads_one wr _) HBA.out HBA.out.size (by rw [ints_length]; have := HP.out; omega) ?_; intro v7 w7 ho7 hb7 hg7 hat7; have HR7 := Lib.hid (show Row w7 w.heap.size v7 (pre ++ [UInt8.ofNat y]) from (by unfold Row; rw [ints_append, HI1.out]; exact ho7)); have HB7 := Lib.hid hb7; clear ho7 hb7 hg7 hat7)
        | fail)
      go_roundw
      case rel => exact ⟨x / 128, f, _, by go_num, by omega, by omega, HFX, HNX, HP1, HR7, HB7⟩
      case measure => simp [intOf]; omega
end Go.Proofs.YtajilghlcfheiaaGreatDoor.Num
