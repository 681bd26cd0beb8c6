/- nums.PutFour, nums.PutText. -/
import Derived.Test.YtajilghlcfheiaaGreatDoorNumNum
namespace Go.Proofs.YtajilghlcfheiaaGreatDoor.Num
open Go.RowKit Go.Proofs.YtajilghlcfheiaaGreatDoorW.PrintWords
def byteCells (bs : List UInt8) : Array Value := (bs.map fun b => Value.int .u8 ((b.toNat : Nat) : Int)).toArray
theorem bytes_lit (W : World) (fr : Nat × Nat) (bs : List UInt8) (hl : bs.length ≤ 9223372036854775807) : Bytes (W.alloc (.cells (byteCells bs) 5 fr)) (W.alloc (.cells (byteCells bs) 5 fr)).heap.size (some ⟨W.heap.size, 0, none⟩) bs := by
  refine ⟨hl, fun _ => ⟨_, 0, rfl, by simp, fun j hj => ?_⟩⟩
  rw [Nat.zero_add, cell_of_row _ _ _ _ _ _ (heap_alloc_new W _)]
  simp [byteCells, hj]
theorem bytes_conv (W : World) (fr : Nat × Nat) (cap : Nat) (l : List UInt8) (hl : l.length ≤ 9223372036854775807) : Bytes (W.alloc (.cells (bytesRow ⟨l.toArray⟩ cap) 5 fr)).drew (W.alloc (.cells (bytesRow ⟨l.toArray⟩ cap) 5 fr)).drew.heap.size (some ⟨W.heap.size, 0, none⟩) l := by
  refine ⟨hl, fun _ => ⟨_, 0, rfl, by show W.heap.size < (W.alloc _).heap.size; simp, fun j hj => ?_⟩⟩
  show (W.alloc (.cells (bytesRow ⟨l.toArray⟩ cap) 5 fr)).cell? _ = _
  rw [Nat.zero_add, cell_of_row _ _ _ _ _ _ (heap_alloc_new W _)]
  unfold bytesRow
  rw [Array.getElem?_append_left (by simpa using hj)]
  simp [hj]
theorem numF_le : ∀ (f x : Nat), (numF f x).length ≤ f + 1
  | 0, x => by simp [numF]
  | f + 1, x => by
    rw [numF]
    split
    · simp
    · have := numF_le f (x / 128)
      simp only [List.length_cons]
      omega
theorem num_le (x : Nat) (_h : x < 18446744073709551616) : (num x).length ≤ 10 := numF_le 9 x
def four4 (x : Nat) : List UInt8 := [UInt8.ofNat x, UInt8.ofNat (x / 256), UInt8.ofNat (x / 65536), UInt8.ofNat (x / 16777216)]
set_option maxRecDepth 20000 in
set_option maxHeartbeats 1000000 in
theorem four4_any (A : Option Addr) (n c : Nat) (bs : List UInt8) (hn : n = bs.length) (hs : n ≤ 900000) (x : Nat) (hx : x < 4294967296) (w : World) (hI : Bytes w w.heap.size A bs) :
    Calls Tryz.prog 26 #[.slice A n c, .int .u32 (x : Int)] w fun e w' => (∃ v, e = .returned v ∧ Row w' w.heap.size v (bs ++ four4 x)) ∧ Below w.heap.size w w' := by
  have HI := Lib.hid hI
  have HN := Lib.hid hn
  clear hI hn
  have hcells : (#[Value.int .u8 ((x : Int) % 256), .int .u8 ((x : Int) / 256 % 256), .int .u8 ((x : Int) / 65536 % 256), .int .u8 ((x : Int) / 16777216)] : Array Value) = byteCells (four4 x) := by
    simp [byteCells, four4]
    omega
  have HC := Lib.hid hcells
  have HB := Lib.hid ((Below.refl w.heap.size w).alloc (Nat.le_refl _) (.cells (byteCells (four4 x)) 5))
  have HJ := Lib.hid (bytes_lit w (0, 0) (four4 x) (by simp [four4]))
  clear hcells
  go_enter Tryz.func26, Tryz.ntmps26
  go_wp2_with fail
  rw [HC.out]
  refine (put_any A n c bs HN.out _ 4 4 (four4 x) rfl (by omega) _ (HI.out.later HB.out) HJ.out).mono ?_
  rintro e w8 ⟨⟨v, rfl, hr8⟩, hb8⟩
  have HR8 := Lib.hid (hr8.base HB.out.size)
  have HB8 := Lib.hid (on HB.out hb8)
  clear hr8 hb8
  go_wp2
  go_ret
  exact ⟨⟨_, rfl, HR8.out⟩, HB8.out⟩
set_option maxRecDepth 20000 in
set_option maxHeartbeats 1000000 in
theorem ptext_any (A : Option Addr) (n c : Nat) (bs : List UInt8) (hn : n = bs.length) (hs : n ≤ 400000) (l : List UInt8) (hl : l.length ≤ 400000) (w : World) (hI : Bytes w w.heap.size A bs) :
    Calls Tryz.prog 27 #[.slice A n c, .string ⟨l.toArray⟩] w fun e w' => (∃ v, e = .returned v ∧ Row w' w.heap.size v (bs ++ num l.length ++ l)) ∧ Below w.heap.size w w' := by
  have HI := Lib.hid hI
  have HN := Lib.hid hn
  clear hI hn
  have kc := fun (w : World) => run_bytes_of_string (P := Tryz.prog) w 9 65 5 ⟨l.toArray⟩ under9 under22 under5
  go_enter Tryz.func27, Tryz.ntmps27
  go_wp2_with fail
  refine (num_any A n c bs HN.out (by omega) l.length (by omega) w HI.out).mono ?_
  rintro e w1 ⟨⟨v, rfl, hr1⟩, hb1⟩
  obtain ⟨A3, c3, rfl, _, hJ3⟩ := hr1.bytes
  have HJ3 := Lib.hid hJ3
  have HB1 := Lib.hid hb1
  clear hr1 hb1 hJ3
  go_wp2_with fail
  have hbw : Below w1.heap.size w1 (w1.alloc (.cells (bytesRow ⟨l.toArray⟩ (grownCap w1 l.length 0 5)) 5 ((bytesRow ⟨l.toArray⟩ (grownCap w1 l.length 0 5)).size, (bytesRow ⟨l.toArray⟩ (grownCap w1 l.length 0 5)).size + 1))).drew := ((Below.refl _ w1).alloc (Nat.le_refl _) _).drew
  have hln : (num l.length).length ≤ 10 := num_le l.length (by omega)
  refine (put_any A3 _ c3 (bs ++ num l.length) (by rw [List.length_append]) _ _ _ l rfl (by have := HN.out; omega) _ (HJ3.out.later hbw) (bytes_conv w1 _ _ l (by omega))).mono ?_
  rintro e w8 ⟨⟨v, rfl, hr8⟩, hb8⟩
  have HB8 := Lib.hid (on HB1.out (on hbw hb8))
  have HR8 := Lib.hid (hr8.base (Nat.le_trans HB1.out.size hbw.size))
  clear hr8 hb8 hbw
  go_wp2
  go_ret
  exact ⟨⟨_, rfl, HR8.out⟩, HB8.out⟩
end Go.Proofs.YtajilghlcfheiaaGreatDoor.Num
