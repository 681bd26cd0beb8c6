/- Noughts behind four bytes 255 change no sum: the law's walk. -/
import Derived.Test.YtobikkenfdhdcaaHit
import Derived.Test.YtobikkenfdhdcaaWZeros
import Derived.Test.YtobikkenfdhdcaaWGuard
namespace Go.Proofs.Ytobikkenfdhdcaa
open Go.RowKit Go.Shelf Go.Proofs.YtobikkenfdhdcaaW.PrintWords
def ffs : List UInt8 := [255, 255, 255, 255]
def noughts (k : Nat) : List UInt8 := List.replicate k 0
theorem ints_noughts (k : Nat) : ints (noughts k) = List.replicate k 0 := by simp [ints, noughts]
theorem nats_noughts (k : Nat) : nats (noughts k) = List.replicate k 0 := by simp [nats, noughts]
theorem nats_ffs : nats ffs = [255, 255, 255, 255] := rfl
theorem lost_one (k : Nat) : (((Crc.on 0#32 (nats (ffs ++ noughts k))).toNat : Nat) : Int) = 4294967295 := by
  rw [nats_append, nats_noughts, nats_ffs, Crc.on_more]; rfl
theorem lost_two (k : Nat) (bs : List UInt8) : Crc.on 0#32 (nats (ffs ++ noughts k ++ bs)) = Crc.on 0#32 (nats (ffs ++ bs)) := by
  rw [nats_append, nats_append, nats_noughts, nats_ffs, Crc.on_append, Crc.on_more, nats_append, nats_ffs, Crc.on_append, Crc.on_first]
theorem ff_reads (W : World) : ReadsInt (W.alloc (.cells #[.int .u8 255, .int .u8 255, .int .u8 255, .int .u8 255] 5)) .u8 (some ⟨W.heap.size, 0, none⟩) 4 [255, 255, 255, 255] := reads_lit W .u8 5 [255, 255, 255, 255] (by simp)
theorem ff_own (W : World) (base : Nat) (hb : base ≤ W.heap.size) : (W.alloc (.cells #[.int .u8 255, .int .u8 255, .int .u8 255, .int .u8 255] 5)).ownsRow base 5 1 (.slice (some ⟨W.heap.size, 0, none⟩) 4 4) 4 (nums .u8 [255, 255, 255, 255]) := own_lit W base 5 .u8 [255, 255, 255, 255] hb (by simp)
theorem next_block {v v' : Value} {B B' : Nat} (h : v'.ownBlock = v.ownBlock ∨ ∃ b, v'.ownBlock = some b ∧ B' ≤ b) (hv : ∀ k, v.ownBlock = some k → B ≤ k) (hB : B ≤ B') (k : Nat) (hk : v'.ownBlock = some k) : B ≤ k := by
  rcases h with h | ⟨b, hb, hl⟩
  · exact hv k (h ▸ hk)
  · rw [hb] at hk; cases hk; omega
set_option maxHeartbeats 1000000 in
theorem lost_walk (x : Int) (A : Option Addr) (n c : Nat) (zs : List Int) (w : World) (hx : (Lit.int .u16 x).wf = true) (hr : IsRow .u8 w A n c zs) (hn : n * 1 ≤ 140737488351232) :
    Calls Try.prog 7 #[.int .u16 x, .slice A n c] w fun e w' => e = .returned (.bool true) ∧ Below w.heap.size w w' := by
  obtain ⟨bs, hlen, hI, _⟩ := hr.bytes
  obtain ⟨x0, x1⟩ := bounds_u16 hx
  obtain ⟨m, rfl⟩ : ∃ m : Nat, x = ((m : Nat) : Int) := ⟨x.toNat, by omega⟩
  by_cases hg : n ≤ 50000
  · have hd : decide (50000 < (n : Int)) = false := by simp; omega
    have hbl : bs.length ≤ 50000 := by omega
    have hml : m % 5000 < 5000 := by omega
    have HL := Lib.hid hlen.symm
    have HI := Lib.hid hI
    have LEN := Lib.hid (ints_length bs)
    clear hlen hI hr hx
    go_enter Try.func7, Try.ntmps7
    go_wp2_with fail
    refine (great_one _ _ _ (by omega) _).mono ?_
    rintro e w1 ⟨rfl, rfl⟩
    have RD := Lib.hid (ff_reads (w.alloc (.cells #[.slice A n c] 22)))
    have OF := Lib.hid (ff_own (w.alloc (.cells #[.slice A n c] 22)) w.heap.size (by simp))
    have HB := Lib.hid (((Below.refl w.heap.size w).alloc (Nat.le_refl _) (.cells #[.slice A n c] 22)).alloc (by simp) (.cells #[.int .u8 255, .int .u8 255, .int .u8 255, .int .u8 255] 5))
    rw [World.size_alloc] at RD OF
    go_wp2_with (first
      | (at_builtin; refine print_append_row (w0 := w) w.heap.size rfl (.const (.slice none 0 0)) (.tmp 12) 22 5 .u8 1 rfl Try.underlying22 info5 (by decide) _ [] [255, 255, 255, 255] (some ⟨w.heap.size + 1, 0, none⟩) 4 4 rfl rfl (own_nil _ _ _ _) RD.out HB.out HB.out.size (by simp) ?_; intro v1 w3 ho1 hb1 hg1 hat1; rw [List.nil_append] at ho1; have HO1 := Lib.hid ho1; have HB1 := Lib.hid hb1; have OF1 := Lib.hid (own_other OF.out hg1 (.inr (fun e => absurd (show some (w.heap.size + 1) = (none : Option Nat) from e) (by simp)))); have HS1 := Lib.hid hg1.size; have HA1 := Lib.hid hat1; clear ho1 hb1 hg1 hat1)
      | (at_builtin; refine Kd.R_append_zeros (Kd.int .u8) (w0 := w) w.heap.size rfl (.tmp 13) (.tmp 16) 22 3 5 (.int .u8 0) 1 rfl Try.underlying22 Try.underlying3 info5 rfl (by decide) (by decide) v1 [255, 255, 255, 255] 0 ((m : Int) % 5000) (fun _ => True) rfl rfl rfl (fun _ _ => trivial) (Kd.R_of_own HO1.out (fun _ _ => trivial)) (by omega) HB1.out HB1.out.size (by simp; omega) ?_; intro v2 w4 ho2 hb2 hg2 hat2; have HO2 := Lib.hid (Kd.own_of_R ho2); have HB2 := Lib.hid hb2; have HG2 := Lib.hid hg2; have HA2 := Lib.hid hat2; clear ho2 hb2 hg2 hat2))
    have N1 := Lib.hid (fun k hk => new_block HA1.out k hk)
    have N2 := Lib.hid (next_block HA2.out N1.out (by have := HS1.out; simp only [World.size_alloc] at this ⊢; exact this))
    have OF2 := Lib.hid (own_other OF1.out HG2.out (.inr (fun e => by have := N1.out _ e.symm; simp only [World.size_alloc] at this; omega)))
    rw [show ((m : Int) % 5000).toNat = m % 5000 from by omega] at HO2
    clear HA1 HA2 HG2 N1 OF1 HO1 OF RD HS1
    refine (alive_any _).mono ?_
    rintro e w5 ⟨rfl, hb5⟩
    have C6 := of_own HO2.out (ffs ++ noughts (m % 5000)) (by rw [ints_append, ints_noughts]; rfl) hb5
    rw [lost_one] at C6
    have K6 := Lib.hid C6
    have HB5 := Lib.hid (HB2.out.trans (hb5.mono HB2.out.size))
    have HO5 := Lib.hid (pw_own_below HO2.out hb5)
    have OF5 := Lib.hid (pw_own_below OF2.out hb5)
    clear C6 hb5
    go_wp2_with fail
    refine K6.out.mono ?_
    rintro e w6 ⟨rfl, hb6⟩
    have HB6 := Lib.hid (HB5.out.trans (hb6.mono HB5.out.size))
    have HO6 := Lib.hid (pw_own_below HO5.out hb6)
    have OF6 := Lib.hid (pw_own_below OF5.out hb6)
    have hll : ([255, 255, 255, 255] ++ List.replicate (m % 5000) (0 : Int)).length ≤ 5004 := by simp; omega
    clear hb6
    go_wp2_with (first
      | (at_builtin; refine gate_guard (by rfl) ?_; refine print_append_row (w0 := w) w.heap.size rfl (.tmp 25) (.tmp 26) 22 5 .u8 1 rfl Try.underlying22 info5 (by decide) v2 ([255, 255, 255, 255] ++ List.replicate (m % 5000) 0) (ints bs) A n c rfl rfl HO6.out (by rw [HL.out]; exact (HI.out.below HB6.out).reads) HB6.out HB6.out.size (by omega) ?_; intro v7 w7 ho7 hb7 hg7 hat7; have HO7 := Lib.hid ho7; have HB7 := Lib.hid hb7; have OF7 := Lib.hid (own_other OF6.out hg7 (.inr (fun e => by have := N2.out _ e.symm; simp only [World.size_alloc] at this; omega))); clear ho7 hb7 hg7 hat7))
    have C8 := of_own HO7.out (ffs ++ noughts (m % 5000) ++ bs) (by rw [ints_append, ints_append, ints_noughts]; rfl) (Below.refl _ _)
    rw [lost_two] at C8
    obtain ⟨q, hq⟩ : ∃ q : BitVec 32, q = Crc.on 0#32 (nats (ffs ++ bs)) := ⟨_, rfl⟩
    rw [← hq] at C8
    have HQ := Lib.hid hq
    clear hq
    refine C8.mono ?_
    rintro e w8 ⟨rfl, hb8⟩
    have HB8 := Lib.hid (HB7.out.trans (hb8.mono HB7.out.size))
    have OF8 := Lib.hid (pw_own_below OF7.out hb8)
    clear hb8 hll
    go_wp2_with (first
      | (at_builtin; refine gate_guard (by rfl) ?_; refine print_append_row (w0 := w) w.heap.size rfl (.tmp 29) (.tmp 30) 22 5 .u8 1 rfl Try.underlying22 info5 (by decide) (.slice (some ⟨w.heap.size + 1, 0, none⟩) 4 4) [255, 255, 255, 255] (ints bs) A n c rfl rfl OF8.out (by rw [HL.out]; exact (HI.out.below HB8.out).reads) HB8.out HB8.out.size (by simp; omega) ?_; intro v9 w9 ho9 hb9 hg9 hat9; have HO9 := Lib.hid ho9; have HB9 := Lib.hid hb9; clear ho9 hb9 hg9 hat9))
    have C10 := of_own HO9.out (ffs ++ bs) (by rw [ints_append]; rfl) (Below.refl _ _)
    rw [← HQ.out] at C10
    refine C10.mono ?_
    rintro e w10 ⟨rfl, hb10⟩
    have hqq : (((q.toNat : Nat) : Int) == ((q.toNat : Nat) : Int)) = true := by simp
    go_wp2_with fail
    go_ret
    exact ⟨rfl, HB9.out.trans (hb10.mono HB9.out.size)⟩
  · have hd : decide (50000 < (n : Int)) = true := by simp; omega
    clear hlen hI hr hx
    go_enter Try.func7, Try.ntmps7
    go_wp2_with fail
    refine (great_one _ _ _ (by omega) _).mono ?_
    rintro e w1 ⟨rfl, rfl⟩
    go_wp2_with fail
    refine (alive_any _).mono ?_
    rintro e w2 ⟨rfl, hb2⟩
    go_wp2_with fail
    go_ret
    exact ⟨rfl, below_lit hb2⟩
end Go.Proofs.Ytobikkenfdhdcaa
