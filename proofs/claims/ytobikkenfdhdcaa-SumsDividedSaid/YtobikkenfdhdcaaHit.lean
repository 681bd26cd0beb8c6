/- Each sum is hit by four bytes behind whatever there is, and by no other four: the law's walk. -/
import Derived.Test.YtobikkenfdhdcaaApart
namespace Go.Proofs.Ytobikkenfdhdcaa
open Go.RowKit Go.Shelf Go.Proofs.YtobikkenfdhdcaaW.PrintWords
theorem add_of (b off j : Nat) : (⟨b, off, none⟩ : Addr).add j = ⟨b, off + j, none⟩ := by
  unfold Addr.add
  by_cases hj0 : j = 0
  · rw [if_pos hj0, hj0]; rfl
  · rw [if_neg hj0]
theorem ints_get (bs : List UInt8) (j : Nat) (hj : j < bs.length) : rd (ints bs) (j : Int) = ((bs[j].toNat : Nat) : Int) := by
  simp [rd, ints, hj]
theorem Bytes.reads {w : World} {n₀ : Nat} {A : Option Addr} {bs : List UInt8} (h : Bytes w n₀ A bs) : ReadsInt w .u8 A bs.length (ints bs) := by
  refine ⟨ints_length bs, h.1, fun hp => ?_⟩
  obtain ⟨b, off, rfl, _, hc⟩ := h.2 hp
  refine ⟨_, rfl, fun j hj => ?_⟩
  rw [add_of, hc j hj]
  simp [ints, hj]
theorem bytes_of_reads {w : World} {A : Option Addr} {n : Nat} {bs : List UInt8} (h : ReadsInt w .u8 A n (ints bs)) (hn : n = bs.length) : Bytes w w.heap.size A bs := by
  subst hn
  refine ⟨h.2.1, fun hp => ?_⟩
  obtain ⟨ad, rfl, hc⟩ := h.2.2 hp
  have h0 := hc 0 hp
  have hadd0 : ad.add 0 = ad := by simp [Addr.add]
  rw [hadd0] at h0
  obtain ⟨b, off, sp⟩ := ad
  obtain rfl : sp = none := congrArg Addr.spot (spot_none h0)
  refine ⟨b, off, rfl, World.block_lt_of_cell? w _ h0, fun j hj => ?_⟩
  have h1 := hc j hj
  rw [add_of] at h1
  rw [h1]
  simp [ints, hj]
theorem info5 : (Try.prog.info? 5).map (fun i => (i.zero, i.size, i.bytes)) = some (some (.int .u8 0), 1, 1) := by kernel_rfl
theorem top_bit (x : BitVec 32) : x.getLsbD 31 = decide (x.toNat / 2147483648 = 1) := by
  have hx := x.isLt
  rw [BitVec.getLsbD, Nat.testBit_eq_decide_div_mod_eq]
  congr 1
  have : x.toNat / 2 ^ 31 % 2 = x.toNat / 2147483648 := by omega
  rw [this]
theorem un_yes (x : BitVec 32) (h : (((x.toNat : Nat) : Int) / 2147483648 == 1) = true) : bits .or .u32 (bits .xor .u32 ((x.toNat : Nat) : Int) 3988292384 * 2 % 4294967296) 1 = (((Crc.un x).toNat : Nat) : Int) := by
  rw [beq_iff_eq] at h
  have hx := x.isLt
  have ht : x.getLsbD 31 = true := by rw [top_bit]; simp; omega
  have hlt : x.toNat ^^^ 3988292384 < 4294967296 := Nat.xor_lt_two_pow (n := 32) hx (by decide)
  have h1 := u32_xor_nat x.toNat 3988292384 hx (by decide)
  have h2 := u32_or_nat ((x.toNat ^^^ 3988292384) * 2 % 4294967296) 1 (by omega) (by decide)
  have e : bits .xor .u32 ((x.toNat : Nat) : Int) 3988292384 = (((x.toNat ^^^ 3988292384 : Nat)) : Int) := h1
  rw [e]
  have e2 : (((x.toNat ^^^ 3988292384 : Nat)) : Int) * 2 % 4294967296 = (((x.toNat ^^^ 3988292384) * 2 % 4294967296 : Nat) : Int) := by omega
  rw [e2]
  refine h2.trans ?_
  unfold Crc.un
  rw [ht]
  simp only [if_true]
  rw [BitVec.toNat_or, BitVec.toNat_shiftLeft, BitVec.toNat_xor, Nat.shiftLeft_eq]
  rfl
theorem un_no (x : BitVec 32) (h : (((x.toNat : Nat) : Int) / 2147483648 == 1) = false) : ((x.toNat : Nat) : Int) * 2 % 4294967296 = (((Crc.un x).toNat : Nat) : Int) := by
  rw [beq_eq_false_iff_ne] at h
  have hx := x.isLt
  have ht : x.getLsbD 31 = false := by rw [top_bit]; simp; omega
  unfold Crc.un
  rw [ht]
  simp only [Bool.false_eq_true, if_false]
  rw [BitVec.toNat_shiftLeft, Nat.shiftLeft_eq]
  omega
set_option maxHeartbeats 1000000 in
theorem ahead_any (y : BitVec 32) (w : World) : Calls Try.prog 16 #[.int .u32 ((y.toNat : Nat) : Int)] w fun e w' => e = .returned (.int .u32 (((Crc.uns 32 y).toNat : Nat) : Int)) ∧ w = w' := by
  go_enter Try.func16, Try.ntmps16
  go_wp2
  go_loop [0, 3] (fun x i => ∃ k : Nat, k ≤ 32 ∧ i = .int .i64 k ∧ x = .int .u32 (((Crc.uns k y).toNat : Nat) : Int)) (fun _ i => 32 - (intOf i).toNat)
  case atStart => exact ⟨0, by omega, rfl, rfl⟩
  case round =>
    obtain ⟨k, hk, rfl, rfl⟩ := hrel
    by_cases hlt : k < 32
    · go_wp2
      all_goals
        go_round
        case rel => exact ⟨k + 1, by omega, by go_num, by rw [Crc.uns_end]; first | rw [un_yes _ (by assumption)] | rw [un_no _ (by assumption)]⟩
        case measure => simp [intOf]; omega
    · obtain rfl : k = 32 := by omega
      go_wp2
      go_ret
      exact ⟨rfl, rfl⟩
def fourI (m : Nat) : List Int := [(m : Int) % 256, (m : Int) / 256 % 256, (m : Int) / 65536 % 256, (m : Int) / 16777216]
def fourB (m : BitVec 32) : List UInt8 := (Crc.four m).map UInt8.ofNat
theorem four_lt (m : BitVec 32) : m.toNat / 16777216 < 256 := by have := m.isLt; omega
theorem ints_four (m : BitVec 32) : ints (fourB m) = fourI m.toNat := by
  have := four_lt m
  simp only [ints, fourB, Crc.four, fourI, List.map_cons, List.map_nil, UInt8.toNat_ofNat']
  congr 1
  · omega
  congr 1
  · omega
  congr 1
  · omega
  congr 1
  omega
theorem nats_four (m : BitVec 32) : nats (fourB m) = Crc.four m := by
  have := four_lt m
  simp only [nats, fourB, Crc.four, List.map_cons, List.map_nil, UInt8.toNat_ofNat']
  congr 1
  · omega
  congr 1
  · omega
  congr 1
  · omega
  congr 1
  omega
theorem ints_append (a b : List UInt8) : ints (a ++ b) = ints a ++ ints b := by simp [ints]
theorem nats_append (a b : List UInt8) : nats (a ++ b) = nats a ++ nats b := by simp [nats]
theorem reads_lit (W : World) (k : IntKind) (e : TypeId) (xs : List Int) (hl : xs.length ≤ 9223372036854775807) : ReadsInt (W.alloc (.cells (nums k xs).toArray e)) k (some ⟨W.heap.size, 0, none⟩) xs.length xs := by
  refine ⟨rfl, hl, fun _ => ⟨_, rfl, fun j hj => ?_⟩⟩
  rw [add_of, Nat.zero_add, cell_of_row _ _ _ _ _ _ (heap_alloc_new W _)]
  simp [nums, hj]
theorem of_own {w w' : World} {base : Nat} {v : Value} {xs : List Int} (h : w.ownsRow base 5 1 v xs.length (nums .u8 xs)) (bs : List UInt8) (hx : xs = ints bs) (hb : Below w.heap.size w w') :
    Calls Try.prog 9 #[v] w' fun e w'' => e = .returned (.int .u32 (((Crc.on 0#32 (nats bs)).toNat : Nat) : Int)) ∧ Below w'.heap.size w' w'' := by
  obtain ⟨A, c, rfl, hr⟩ := own_reads h
  subst hx
  rw [ints_length] at hr
  rw [ints_length]
  exact of_any A _ c bs rfl w' ((bytes_of_reads hr rfl).later hb)
theorem hit_state {bs : List UInt8} {r q : BitVec 32} (hr : r = Crc.on 0#32 (nats bs)) (hq : q = ~~~ r) (m : BitVec 32) : Crc.on 0#32 (nats (bs ++ fourB m)) = ~~~ Crc.bytes q (Crc.four m) := by
  rw [nats_append, nats_four, Crc.on_append, ← hr, Crc.on, hq]
theorem hit_yes {bs : List UInt8} {r q y m : BitVec 32} {sn : Nat} {s : Int} (hr : r = Crc.on 0#32 (nats bs)) (hq : q = ~~~ r) (hy : y = ~~~ (BitVec.ofNat 32 sn)) (hm : m = q ^^^ Crc.uns 32 y) (hs : (sn : Int) = s ∧ sn < 4294967296) :
    (((Crc.on 0#32 (nats (bs ++ fourB m))).toNat : Nat) : Int) = s := by
  rw [hit_state hr hq, hm, Crc.hit, hy, BitVec.not_not, BitVec.toNat_ofNat]
  omega
theorem hit_no {bs : List UInt8} {r q y m om : BitVec 32} {sn : Nat} {s : Int} (hr : r = Crc.on 0#32 (nats bs)) (hq : q = ~~~ r) (hy : y = ~~~ (BitVec.ofNat 32 sn)) (hm : m = q ^^^ Crc.uns 32 y) (hs : (sn : Int) = s ∧ sn < 4294967296) :
    ((((Crc.on 0#32 (nats (bs ++ fourB om))).toNat : Nat) : Int) == s) = (m.toNat == om.toNat) := by
  have h1 := hit_yes hr hq hy hm hs
  rw [Bool.eq_iff_iff, beq_iff_eq, beq_iff_eq]
  constructor
  · intro h
    have h2 : Crc.on 0#32 (nats (bs ++ fourB om)) = Crc.on 0#32 (nats (bs ++ fourB m)) := BitVec.eq_of_toNat_eq (by omega)
    rw [hit_state hr hq, hit_state hr hq] at h2
    rw [Crc.hit_only q om m (Crc.not_inj h2)]
  · intro h
    have : m = om := BitVec.eq_of_toNat_eq h
    rw [← this]; exact h1
theorem new_block {v : Value} {B : Nat} (h : v.ownBlock = (Value.slice none 0 0).ownBlock ∨ ∃ b, v.ownBlock = some b ∧ B ≤ b) (k : Nat) (hk : v.ownBlock = some k) : B ≤ k := by
  rcases h with h | ⟨b, hb, hl⟩
  · rw [h] at hk; simp [Value.ownBlock] at hk
  · rw [hb] at hk; cases hk; exact hl
set_option maxHeartbeats 1000000 in
theorem hit_walk (A : Option Addr) (n c : Nat) (zs : List Int) (s o : Int) (w : World) (hr : IsRow .u8 w A n c zs) (hn : n * 1 ≤ 140737488351232) (hs : (Lit.int .u32 s).wf = true) (ho : (Lit.int .u32 o).wf = true) :
    Calls Try.prog 5 #[.slice A n c, .int .u32 s, .int .u32 o] w fun e w' => e = .returned (.bool true) ∧ Below w.heap.size w w' := by
  obtain ⟨bs, hlen, hI, _⟩ := hr.bytes
  obtain ⟨s0, s1⟩ := bounds_u32 hs
  obtain ⟨o0, o1⟩ := bounds_u32 ho
  obtain ⟨om, rfl⟩ : ∃ om : BitVec 32, o = ((om.toNat : Nat) : Int) := ⟨BitVec.ofNat 32 o.toNat, by rw [BitVec.toNat_ofNat]; omega⟩
  by_cases hg : n ≤ 50000
  · have hd : decide (50000 < (n : Int)) = false := by simp; omega
    have HL := Lib.hid hlen.symm
    have HI := Lib.hid hI
    clear hlen hI hr hs ho
    go_enter Try.func5, Try.ntmps5
    go_wp2_with fail
    refine (great_one _ _ _ (by omega) _).mono ?_
    rintro e w1 ⟨rfl, rfl⟩
    go_wp2_with fail
    refine (of_any A n c bs HL.out _ (HI.out.later ((Below.refl _ w).alloc (Nat.le_refl _) _))).mono ?_
    rintro e w2 ⟨rfl, hb2⟩
    have hbw : Below w.heap.size w w2 := below_lit hb2
    obtain ⟨r, hr⟩ : ∃ r : BitVec 32, r = Crc.on 0#32 (nats bs) := ⟨_, rfl⟩
    rw [← hr]
    obtain ⟨sn, hsn⟩ : ∃ sn : Nat, (sn : Int) = s := ⟨s.toNat, by omega⟩
    obtain ⟨y, hy⟩ : ∃ y : BitVec 32, y = ~~~ (BitVec.ofNat 32 sn) := ⟨_, rfl⟩
    obtain ⟨q, hq⟩ : ∃ q : BitVec 32, q = ~~~ r := ⟨_, rfl⟩
    have h1 := not_u32 r q hq
    have h2 := not_u32 (BitVec.ofNat 32 sn) y hy
    have e2 : (((BitVec.ofNat 32 sn).toNat : Nat) : Int) = s := by rw [BitVec.toNat_ofNat]; omega
    rw [e2] at h2
    obtain ⟨m, hm⟩ : ∃ m : BitVec 32, m = q ^^^ Crc.uns 32 y := ⟨_, rfl⟩
    have h3 : bits .xor .u32 ((q.toNat : Nat) : Int) (((Crc.uns 32 y).toNat : Nat) : Int) = ((m.toNat : Nat) : Int) := by rw [hm, BitVec.toNat_xor]; exact u32_xor_nat _ _ q.isLt (BitVec.isLt _)
    have HR := Lib.hid hr
    have HY := Lib.hid hy
    have HQ := Lib.hid hq
    have HM := Lib.hid hm
    have HS := Lib.hid hsn
    clear hr hy hq hm hsn e2
    go_wp2_with fail
    refine (ahead_any y _).mono ?_
    rintro e w3 ⟨rfl, rfl⟩
    generalize (Crc.uns 32 y).toNat = u at h3 ⊢
    have RD := Lib.hid (show ReadsInt w2 .u8 A n (ints bs) by rw [HL.out]; exact (HI.out.below hbw).reads)
    have HB := Lib.hid hbw
    have HZ := Lib.hid hbw.size
    have LEN := Lib.hid (ints_length bs)
    have hbl : bs.length ≤ 50000 := by have := HL.out; omega
    clear hbw hb2
    go_wp2_with (first
      | (at_builtin; refine print_append_row (w0 := w) w.heap.size rfl (.const (.slice none 0 0)) (.tmp 21) 22 5 .u8 1 rfl Try.underlying22 info5 (by decide) _ [] (ints bs) A n c rfl rfl (own_nil _ _ _ _) RD.out HB.out HZ.out (by simp; omega) ?_; intro v1 w3 ho1 hb1 hg1 hat1; rw [List.nil_append] at ho1; have HO1 := Lib.hid ho1; have HB1 := Lib.hid hb1; clear ho1 hb1 hg1 hat1)
      | (at_builtin; refine print_append_row (w0 := w) w.heap.size rfl (.tmp 22) (.tmp 34) 22 5 .u8 1 rfl Try.underlying22 info5 (by decide) v1 (ints bs) (fourI m.toNat) (some ⟨w3.heap.size, 0, none⟩) 4 4 rfl rfl (HO1.out.alloc _) (reads_lit w3 .u8 5 (fourI m.toNat) (by simp [fourI])) (HB1.out.alloc HB1.out.size _) (by have := HB1.out.size; simp; omega) (by rw [LEN.out]; omega) ?_; intro v2 w4 ho2 hb2 hg2 hat2; have HO2 := Lib.hid ho2; have HB2 := Lib.hid hb2; clear ho2 hb2 hg2 hat2)
      | (at_builtin; refine print_append_row (w0 := w) w.heap.size rfl (.const (.slice none 0 0)) (.tmp 36) 22 5 .u8 1 rfl Try.underlying22 info5 (by decide) _ [] (ints bs) A n c rfl rfl (own_nil _ _ _ _) (by rw [HL.out]; exact (HI.out.below HB2.out).reads) HB2.out HB2.out.size (by simp; omega) ?_; intro v3 w5 ho3 hb3 hg3 hat3; rw [List.nil_append] at ho3; have HO3 := Lib.hid ho3; have HB3 := Lib.hid hb3; have HB45 := Lib.hid ((Below.refl w4.heap.size w4).grown hg3 (Nat.le_refl _) (fun k hk => absurd (show (none : Option Nat) = some k from hk) (by simp))); have HA3 := Lib.hid hat3; clear ho3 hb3 hg3 hat3)
      | (at_builtin; refine print_append_row (w0 := w) w.heap.size rfl (.tmp 37) (.tmp 49) 22 5 .u8 1 rfl Try.underlying22 info5 (by decide) v3 (ints bs) (fourI om.toNat) (some ⟨w5.heap.size, 0, none⟩) 4 4 rfl rfl (HO3.out.alloc _) (reads_lit w5 .u8 5 (fourI om.toNat) (by simp [fourI])) (HB3.out.alloc HB3.out.size _) (by have := HB3.out.size; simp; omega) (by rw [LEN.out]; omega) ?_; intro v4 w6 ho4 hb4 hg4 hat4; have HO4 := Lib.hid ho4; have HB4 := Lib.hid hb4; have HB46 := Lib.hid ((HB45.out.alloc HB45.out.size _).grown hg4 (by have := HB45.out.size; simp; omega) (fun k hk => new_block HA3.out k hk)); clear ho4 hb4 hg4 hat4))
    refine (alive_any _).mono ?_
    rintro e w7 ⟨rfl, hb7⟩
    have C2 := of_own HO2.out (bs ++ fourB m) (by rw [ints_append, ints_four]) (HB46.out.trans (hb7.mono HB46.out.size))
    have C4 := fun w' (h : Below w7.heap.size w7 w') => of_own HO4.out (bs ++ fourB om) (by rw [ints_append, ints_four]) (hb7.trans (h.mono hb7.size))
    have E2 : (((Crc.on 0#32 (nats (bs ++ fourB m))).toNat : Nat) : Int) = s :=
      hit_yes HR.out HQ.out HY.out HM.out (by have := HS.out; omega)
    have E4 : ((((Crc.on 0#32 (nats (bs ++ fourB om))).toNat : Nat) : Int) == s) = (m.toNat == om.toNat) :=
      hit_no HR.out HQ.out HY.out HM.out (by have := HS.out; omega)
    rw [E2] at C2
    generalize Crc.on 0#32 (nats (bs ++ fourB om)) = x4 at C4 E4
    have K2 := Lib.hid C2
    have K4 := Lib.hid C4
    have KE := Lib.hid E4
    clear C2 C4 E2 E4
    go_wp2_with fail
    refine K2.out.mono ?_
    rintro e w8 ⟨rfl, hb8⟩
    have hss : (s == s) = true := by simp
    go_wp2_with fail
    refine (K4.out _ hb8).mono ?_
    rintro e w9 ⟨rfl, hb9⟩
    go_wp2_with fail
    go_ret
    have z4 := HB4.out.size; have z7 := hb7.size; have z8 := hb8.size
    refine ⟨ret_true ?_, HB4.out.trans ((hb7.mono z4).trans ((hb8.mono (by omega)).trans (hb9.mono (by omega))))⟩
    rw [KE.out, beq_iff_eq, Bool.eq_iff_iff, beq_iff_eq, beq_iff_eq]
    omega
  · have hd : decide (50000 < (n : Int)) = true := by simp; omega
    clear hlen hI hr hs ho
    go_enter Try.func5, Try.ntmps5
    go_wp2_with fail
    refine (great_one _ _ _ (by omega) _).mono ?_
    rintro e w1 ⟨rfl, rfl⟩
    go_wp2_with fail
    refine (alive_any _).mono ?_
    rintro e w2 ⟨rfl, hb2⟩
    go_wp2_with fail
    go_ret
    exact ⟨rfl, below_lit hb2⟩
end Go.Proofs.Ytobikkenfdhdcaa
