/- The program's sum of bytes (sums.On, sums.Of), for callers. -/
import Derived.Test.YtobikkenfdhdcaaOnIn
namespace Go.Proofs.Ytobikkenfdhdcaa
open Go.RowKit Go.Shelf Go.Proofs.YtobikkenfdhdcaaW.PrintWords
theorem on_any (s : BitVec 32) (A : Option Addr) (cap : Nat) (bs : List UInt8) (w : World) (hI : Bytes w w.heap.size A bs) :
    Calls Try.prog 11 #[.int .u32 ((s.toNat : Nat) : Int), .slice A bs.length cap] w fun e w' => e = .returned (.int .u32 (((Crc.on s (nats bs)).toNat : Nat) : Int)) ∧ Below w.heap.size w w' :=
  callsIn_wide.1 (on_in s A cap bs w hI)
/-- of a sum that is a whole number. -/
theorem on_int (x : Int) (h0 : 0 ≤ x) (h1 : x ≤ 4294967295) (A : Option Addr) (n cap : Nat) (bs : List UInt8) (hn : n = bs.length) (w : World) (hI : Bytes w w.heap.size A bs) :
    Calls Try.prog 11 #[.int .u32 x, .slice A n cap] w fun e w' => e = .returned (.int .u32 (((Crc.on (BitVec.ofNat 32 x.toNat) (nats bs)).toNat : Nat) : Int)) ∧ Below w.heap.size w w' := by
  subst hn
  have h := on_any (BitVec.ofNat 32 x.toNat) A cap bs w hI
  have e : (((BitVec.ofNat 32 x.toNat).toNat : Nat) : Int) = x := by rw [BitVec.toNat_ofNat]; omega
  rw [e] at h
  exact h
/-- sums.Of. -/
theorem of_any (A : Option Addr) (n cap : Nat) (bs : List UInt8) (hn : n = bs.length) (w : World) (hI : Bytes w w.heap.size A bs) :
    Calls Try.prog 9 #[.slice A n cap] w fun e w' => e = .returned (.int .u32 (((Crc.on 0#32 (nats bs)).toNat : Nat) : Int)) ∧ Below w.heap.size w w' := by
  have HO := on_int 0 (by omega) (by omega) A n cap bs hn w hI
  change Calls Try.prog 11 #[.int .u32 0, .slice A n cap] w fun e w' => e = .returned (.int .u32 (((Crc.on 0#32 (nats bs)).toNat : Nat) : Int)) ∧ Below w.heap.size w w' at HO
  generalize Crc.on 0#32 (nats bs) = o at HO ⊢
  have H := Lib.hid HO
  clear HO hn hI
  go_enter Try.func9, Try.ntmps9
  go_wp2_with (go_at_call 11; refine H.out.mono ?_; rintro e w' ⟨rfl, hb⟩)
  go_ret
  exact ⟨rfl, by assumption⟩
end Go.Proofs.Ytobikkenfdhdcaa
