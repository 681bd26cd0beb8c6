/- The sum of any bytes, and of any behind any sum, is what the division of their bits leaves: the law's walk. -/
import Derived.Test.YtobikkenfdhdcaaLeft
namespace Go.Proofs.Ytobikkenfdhdcaa
open Go.RowKit Go.Shelf Go.Proofs.YtobikkenfdhdcaaW.PrintWords
theorem step_up (c : BitVec 32) (j : Nat) (hj : j < 32) (x z : Int) (hx : x = (((~~~ c).toNat / 2 ^ (j + 1) : Nat) : Int)) (hz : z = Crc.b2i (c.getLsbD j)) :
    2 * x % 4294967296 + (1 - z) = (((~~~ c).toNat / 2 ^ j : Nat) : Int) := by
  have h := Crc.sum_up c j hj
  have hlt : (~~~ c).toNat / 2 ^ j < 4294967296 := Nat.lt_of_le_of_lt (Nat.div_le_self _ _) (BitVec.isLt _)
  generalize (~~~ c).toNat / 2 ^ (j + 1) = p at h hx
  generalize (~~~ c).toNat / 2 ^ j = q at h hlt ⊢
  subst hx hz
  cases hc : c.getLsbD j
  · rw [hc] at h
    have h' : 2 * p + 1 = q := h
    show 2 * (p : Int) % 4294967296 + (1 - 0) = (q : Int)
    omega
  · rw [hc] at h
    have h' : 2 * p + 0 = q := h
    show 2 * (p : Int) % 4294967296 + (1 - 1) = (q : Int)
    omega
set_option maxHeartbeats 1000000 in
theorem on_ref (s : BitVec 32) (A : Option Addr) (n c : Nat) (bs : List UInt8) (hn : n = bs.length) (hb : n ≤ 3000) (w : World) (hI : Bytes w w.heap.size A bs) :
    Calls Try.prog 12 #[.int .u32 ((s.toNat : Nat) : Int), .slice A n c] w fun e w' => e = .returned (.int .u32 (((Crc.on s (nats bs)).toNat : Nat) : Int)) ∧ Below w.heap.size w w' := by
  have HL := Lib.hid (left_ref s A n c bs hn hb w hI)
  obtain ⟨r, hr⟩ : ∃ r, r = Crc.bytes (~~~ s) (nats bs) := ⟨_, rfl⟩
  have ho : Crc.on s (nats bs) = ~~~ r := by rw [hr]; rfl
  rw [ho]
  rw [← hr] at HL
  clear hI hn hr ho
  go_enter Try.func12, Try.ntmps12
  go_wp2_with fail
  refine HL.out.mono ?_
  rintro e w1 ⟨⟨v, rfl, A', c', hv, hrd⟩, hb1⟩
  have HRD := Lib.hid hrd
  have HB1 := Lib.hid hb1
  rw [hv]
  clear hrd hb1 hv
  go_wp2_with fail
  go_loop [6, 7] (fun x i => ∃ j : Nat, j ≤ 32 ∧ i = .int .i64 ((j : Int) - 1) ∧ x = .int .u32 (((~~~ r).toNat / 2 ^ j : Nat) : Int)) (fun _ i => ((intOf i) + 1).toNat)
  case atStart => exact ⟨32, by omega, rfl, by rw [Nat.div_eq_of_lt (BitVec.isLt _)]; rfl⟩
  case round =>
    obtain ⟨j, hj, rfl, rfl⟩ := hrel
    by_cases h0 : j = 0
    · subst h0
      go_wp2
      go_ret
      exact ⟨rfl, HB1.out⟩
    · obtain ⟨i, rfl⟩ : ∃ i, j = i + 1 := ⟨j - 1, by omega⟩
      have e1 : (((i + 1 : Nat) : Int) - 1) = (i : Int) := by omega
      rw [e1]
      obtain ⟨ad, eA, hcell⟩ := HRD.out.at_ (i : Int) (by omega) (by omega)
      subst eA
      rw [Int.toNat_natCast, rd_row _ _ _ (by omega)] at hcell
      obtain ⟨z, hz⟩ : ∃ z, z = Crc.b2i (r.getLsbD i) := ⟨_, rfl⟩
      have hzb := b2i_bounds (r.getLsbD i)
      rw [← hz] at hcell hzb
      obtain ⟨x, hx⟩ : ∃ x : Int, x = (((~~~ r).toNat / 2 ^ (i + 1) : Nat) : Int) := ⟨_, rfl⟩
      have hst := Lib.hid (step_up r i (by omega) x z hx hz)
      rw [← hx]
      clear hx hz e1
      go_wp2
      go_round
      case rel => exact ⟨i, by omega, by go_num, by rw [hst.out]⟩
      case measure => simp [intOf]
theorem on_ref_int (x : Int) (h0 : 0 ≤ x) (h1 : x ≤ 4294967295) (A : Option Addr) (n c : Nat) (bs : List UInt8) (hn : n = bs.length) (hb : n ≤ 3000) (w : World) (hI : Bytes w w.heap.size A bs) :
    Calls Try.prog 12 #[.int .u32 x, .slice A n c] w fun e w' => e = .returned (.int .u32 (((Crc.on (BitVec.ofNat 32 x.toNat) (nats bs)).toNat : Nat) : Int)) ∧ Below w.heap.size w w' := by
  have h := on_ref (BitVec.ofNat 32 x.toNat) A n c bs hn hb w hI
  have e : (((BitVec.ofNat 32 x.toNat).toNat : Nat) : Int) = x := by rw [BitVec.toNat_ofNat]; omega
  rw [e] at h
  exact h
theorem of_ref (A : Option Addr) (n c : Nat) (bs : List UInt8) (hn : n = bs.length) (hb : n ≤ 3000) (w : World) (hI : Bytes w w.heap.size A bs) :
    Calls Try.prog 10 #[.slice A n c] w fun e w' => e = .returned (.int .u32 (((Crc.on 0#32 (nats bs)).toNat : Nat) : Int)) ∧ Below w.heap.size w w' := by
  have HO := on_ref_int 0 (by omega) (by omega) A n c bs hn hb w hI
  change Calls Try.prog 12 #[.int .u32 0, .slice A n c] w fun e w' => e = .returned (.int .u32 (((Crc.on 0#32 (nats bs)).toNat : Nat) : Int)) ∧ Below w.heap.size w w' at HO
  generalize Crc.on 0#32 (nats bs) = o at HO ⊢
  have H := Lib.hid HO
  clear HO hn hI
  go_enter Try.func10, Try.ntmps10
  go_wp2_with (go_at_call 12; refine H.out.mono ?_; rintro e w' ⟨rfl, hb⟩)
  go_ret
  exact ⟨rfl, by assumption⟩
theorem Bytes.ofBlock {w : World} {B : Nat} {bs : List UInt8} (h : w.heap[B]? = some (.cells (nums .u8 (ints bs ++ [77])).toArray 5 (0, 0))) (hl : bs.length ≤ 100000) : Bytes w w.heap.size (some ⟨B, 0, none⟩) bs := by
  refine ⟨by omega, fun _ => ⟨B, 0, rfl, blk_lt h, fun j hj => ?_⟩⟩
  rw [Nat.zero_add, blk_nums h j (by rw [List.length_append, ints_length]; omega), rd_append _ _ _ (by rw [ints_length]; exact hj), ints_get _ _ hj]
set_option maxHeartbeats 1000000 in
theorem divided_walk (A : Option Addr) (n c : Nat) (zs : List Int) (s : Int) (w : World) (hr : IsRow .u8 w A n c zs) (hn : n * 1 ≤ 140737488351232) (hs : (Lit.int .u32 s).wf = true) :
    Calls Try.prog 3 #[.slice A n c, .int .u32 s] w fun e w' => e = .returned (.bool true) ∧ Below w.heap.size w w' := by
  obtain ⟨bs, hlen, hI, _⟩ := hr.bytes
  obtain ⟨s0, s1⟩ := bounds_u32 hs
  by_cases hg : n ≤ 3000
  · have HL := Lib.hid hlen.symm
    have HI := Lib.hid hI
    clear hlen hI hr hs
    go_enter Try.func3, Try.ntmps3
    go_wp2_with fail
    refine (twin_any A n c bs HL.out (by omega) w HI.out).mono ?_
    rintro e w1 ⟨⟨B, rfl, hB, hT⟩, hb1⟩
    have HT1 := Lib.hid hT
    have HB1 := Lib.hid hb1
    have O0 := fun w' (h : Bytes w' w'.heap.size (some ⟨B, 0, none⟩) bs) => of_any (some ⟨B, 0, none⟩) n (n + 1) bs HL.out w' h
    have R0 := fun w' (h : Bytes w' w'.heap.size A bs) => of_ref A n c bs HL.out (by omega) w' h
    have O1 := fun w' (h : Bytes w' w'.heap.size (some ⟨B, 0, none⟩) bs) => on_int s s0 s1 (some ⟨B, 0, none⟩) n (n + 1) bs HL.out w' h
    have R1 := fun w' (h : Bytes w' w'.heap.size A bs) => on_ref_int s s0 s1 A n c bs HL.out (by omega) w' h
    generalize Crc.on 0#32 (nats bs) = p at O0 R0
    generalize Crc.on (BitVec.ofNat 32 s.toNat) (nats bs) = q at O1 R1
    have K0 := Lib.hid O0
    have K1 := Lib.hid R0
    have K2 := Lib.hid O1
    have K3 := Lib.hid R1
    have e1 : (((p.toNat : Nat) : Int) == ((p.toNat : Nat) : Int)) = true := by simp
    have e2 : (((q.toNat : Nat) : Int) == ((q.toNat : Nat) : Int)) = true := by simp
    have BT := Lib.hid (Bytes.ofBlock hT (by have := HL.out; omega))
    clear O0 R0 O1 R1 hT hb1 hB
    go_wp2_with fail
    refine (K0.out _ BT.out).mono ?_
    rintro e w2 ⟨rfl, hb2⟩
    have HB2 := Lib.hid (HB1.out.trans (hb2.mono HB1.out.size))
    have HC2 := Lib.hid hb2
    clear hb2
    go_wp2_with fail
    refine (K1.out _ (HI.out.later HB2.out)).mono ?_
    rintro e w3 ⟨rfl, hb3⟩
    have HB3 := Lib.hid (HB2.out.trans (hb3.mono HB2.out.size))
    have HC3 := Lib.hid (HC2.out.trans (hb3.mono HC2.out.size))
    clear hb3
    go_wp2_with fail
    refine (K2.out _ (BT.out.later HC3.out)).mono ?_
    rintro e w4 ⟨rfl, hb4⟩
    have HB4 := Lib.hid (HB3.out.trans (hb4.mono HB3.out.size))
    have HC4 := Lib.hid (HC3.out.trans (hb4.mono HC3.out.size))
    clear hb4
    go_wp2_with fail
    refine (K3.out _ (HI.out.later HB4.out)).mono ?_
    rintro e w5 ⟨rfl, hb5⟩
    have HB5 := Lib.hid (HB4.out.trans (hb5.mono HB4.out.size))
    have HC5 := Lib.hid (HC4.out.trans (hb5.mono HC4.out.size))
    clear hb5
    go_wp2_with fail
    refine (left_any A n c B bs HL.out (by omega) _ (HI.out.later HB5.out) (blk_below HT1.out HC5.out)).mono ?_
    rintro e w6 ⟨rfl, hb6⟩
    go_wp2_with fail
    go_ret
    exact ⟨rfl, HB5.out.trans (hb6.mono HB5.out.size)⟩
  · have hd : decide (3000 < (n : Int)) = true := by simp; omega
    clear hlen hI hr hs
    go_enter Try.func3, Try.ntmps3
    go_wp2
    go_ret
    exact ⟨rfl, Below.refl _ _⟩
end Go.Proofs.Ytobikkenfdhdcaa
