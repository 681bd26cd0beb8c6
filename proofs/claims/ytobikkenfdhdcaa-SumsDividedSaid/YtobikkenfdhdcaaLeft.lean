/- The document's division of bits (cartoucheref02.left, On, Of): what it leaves is the division's remainder. -/
import Derived.Test.YtobikkenfdhdcaaTwin
import Derived.Test.YtobikkenfdhdcaaDiv
namespace Go.Proofs.Ytobikkenfdhdcaa
open Go.RowKit Go.Shelf Go.Proofs.YtobikkenfdhdcaaW.PrintWords
theorem info3 : (Try.prog.info? 3).map (fun i => (i.zero, i.size, i.bytes)) = some (some (.int .i64 0), 1, 8) := by kernel_rfl
theorem own_len {w : World} {base n m : Nat} {e : TypeId} {v : Value} {xs : List Value} (h : w.ownsRow base e 1 v n xs) (hn : n = m) : w.ownsRow base e 1 v m xs := hn ▸ h
theorem bit_val (l : List Nat) (bs : List UInt8) (k m X : Nat) (hX : rd (ints bs) (k : Int) = (X : Int)) (hl : l = nats bs) (hk : k < bs.length) (hm : m < 8) : (wrap64 ((X : Int) / 2 ^ m)).tmod 2 = Crc.b2i (Crc.mbit l (8 * k + m)) := by
  have h1 := ints_get bs k hk
  rw [hX] at h1
  have hlt := bs[k].toNat_lt
  have hX256 : X < 256 := by omega
  have e1 : (8 * k + m) / 8 = k := by omega
  have e2 : (8 * k + m) % 8 = m := by omega
  have e3 : l.getD k 0 = X := by rw [hl]; simp [nats, hk]; omega
  unfold Crc.mbit
  rw [e1, e2, e3, Nat.testBit_eq_decide_div_mod_eq]
  have e4 : (X : Int) / 2 ^ m = ((X / 2 ^ m : Nat) : Int) := by rw [Int.natCast_ediv, Int.natCast_pow]; rfl
  have hq : X / 2 ^ m ≤ X := Nat.div_le_self _ _
  generalize X / 2 ^ m = q at e4 hq
  rw [e4]
  have e5 : wrap64 (q : Int) = (q : Int) := IntWalk.wrap64_in _ (by omega)
  rw [e5]
  have e6 : (q : Int).tmod 2 = ((q % 2 : Nat) : Int) := by rw [Int.tmod_eq_emod_of_nonneg (Int.natCast_nonneg q)]; rfl
  rw [e6]
  rcases Nat.mod_two_eq_zero_or_one q with h | h
  · rw [h]; rfl
  · rw [h]; rfl
theorem row_after {w : World} {base n N : Nat} {v : Value} {l : List Nat} (h : w.ownsRow base 3 1 v (Crc.row (Crc.mbit l) N ++ List.replicate (Int.toNat 32) 0).length (encs (Value.int .i64) (Crc.row (Crc.mbit l) N ++ List.replicate (Int.toNat 32) 0))) (hN : N = 8 * n) (hl : l.length = n) :
    ∃ g cap, v = .slice (some ⟨g, 0, none⟩) (N + 32) cap ∧ base ≤ g ∧ N + 32 ≤ cap ∧ w.ownsRow base 3 1 (.slice (some ⟨g, 0, none⟩) (N + 32) cap) (N + 32) (nums .i64 (Crc.row (Crc.mbit l) (N + 32))) := by
  have e : Crc.row (Crc.mbit l) N ++ List.replicate (Int.toNat 32) 0 = Crc.row (Crc.mbit l) (N + 32) := by
    apply List.ext_getElem
    · simp [Crc.row]
    · intro i h1 h2
      simp only [Crc.row, List.length_map, List.length_range] at h2
      by_cases hi : i < N
      · rw [List.getElem_append_left (by simpa [Crc.row] using hi)]; simp [Crc.row]
      · rw [List.getElem_append_right (by simpa [Crc.row] using hi)]
        simp only [List.getElem_replicate, Crc.row, List.getElem_map, List.getElem_range]
        rw [Crc.mbit_out l i (by omega)]; rfl
  rw [e, Crc.row_length] at h
  obtain ⟨g, cap, hv, hgb, _⟩ := h.form (by omega)
  rw [hv] at h
  exact ⟨g, cap, hv, hgb, own_le h, h⟩
theorem sum_bit (s : BitVec 32) (j : Nat) (_hj : j < 32) : ((((s.toNat : Nat) : Int) / 2 ^ j).tmod 2 == 0) = !(s.getLsbD j) := by
  have e : s.getLsbD j = decide (s.toNat / 2 ^ j % 2 = 1) := by rw [BitVec.getLsbD, Nat.testBit_eq_decide_div_mod_eq]
  have e4 : ((s.toNat : Nat) : Int) / 2 ^ j = ((s.toNat / 2 ^ j : Nat) : Int) := by rw [Int.natCast_ediv, Int.natCast_pow]; rfl
  rw [e, e4]
  generalize s.toNat / 2 ^ j = q
  rcases Nat.mod_two_eq_zero_or_one q with h | h
  · have : (q : Int).tmod 2 = 0 := by rw [Int.tmod_eq_emod_of_nonneg (Int.natCast_nonneg q)]; omega
    rw [this, h]; rfl
  · have : (q : Int).tmod 2 = 1 := by rw [Int.tmod_eq_emod_of_nonneg (Int.natCast_nonneg q)]; omega
    rw [this, h]; rfl
theorem rd_row (f : Nat → Bool) (n j : Nat) (h : j < n) : rd (Crc.row f n) (j : Int) = Crc.b2i (f j) := Crc.row_get f n j h
theorem b2i_bounds (b : Bool) : 0 ≤ Crc.b2i b ∧ Crc.b2i b ≤ 1 := by cases b <;> simp [Crc.b2i]
theorem b2i_eq (b : Bool) : (Crc.b2i b == 1) = b := by cases b <;> rfl
theorem own_first {w : World} {base g N cap : Nat} {s : BitVec 32} {l : List Nat} (h : w.ownsRow base 3 1 (.slice (some ⟨g, 0, none⟩) (N + 32) cap) (N + 32) (nums .i64 (Crc.row (Crc.turn (fun q => !(s.getLsbD q)) 32 (Crc.mbit l)) (N + 32)))) :
    w.ownsRow base 3 1 (.slice (some ⟨g, 0, none⟩) (N + 32) cap) (N + 32) (nums .i64 (Crc.row (Crc.dsteps 0 (Crc.first (~~~ s) l)) (N + 32))) := by
  have e : Crc.turn (fun q => !(s.getLsbD q)) 32 (Crc.mbit l) = Crc.first (~~~ s) l := by
    funext j
    unfold Crc.turn Crc.first
    by_cases hj : j < 32
    · rw [BitVec.getLsbD_not]; simp [hj]
    · simp [hj]
  rw [e] at h
  exact h
theorem dchar (d : Nat) (hd : d < 32) : bt (⟨#[48, 48, 48, 48, 48, 49, 48, 48, 49, 49, 48, 48, 48, 48, 48, 49, 48, 48, 48, 49, 49, 49, 48, 49, 49, 48, 49, 49, 48, 49, 49, 49]⟩ : ByteArray) (d : Int) = if Crc.D.getLsbD d then 49 else 48 := by
  have h : ∀ i : Fin 32, bt (⟨#[48, 48, 48, 48, 48, 49, 48, 48, 49, 49, 48, 48, 48, 48, 48, 49, 48, 48, 48, 49, 49, 49, 48, 49, 49, 48, 49, 49, 48, 49, 49, 49]⟩ : ByteArray) (i.val : Int) = if Crc.D.getLsbD i.val then 49 else 48 := by decide +kernel
  exact h ⟨d, hd⟩
theorem dchar_yes (d : Nat) (hd : d < 32) (hb : Crc.D.getLsbD d = true) : ∀ h : d < (⟨#[48, 48, 48, 48, 48, 49, 48, 48, 49, 49, 48, 48, 48, 48, 48, 49, 48, 48, 48, 49, 49, 49, 48, 49, 49, 48, 49, 49, 48, 49, 49, 49]⟩ : ByteArray).size, (((⟨#[48, 48, 48, 48, 48, 49, 48, 48, 49, 49, 48, 48, 48, 48, 48, 49, 48, 48, 48, 49, 49, 49, 48, 49, 49, 48, 49, 49, 48, 49, 49, 49]⟩ : ByteArray)[d]'h).toNat : Int) = 49 := fun h =>
  (bt_at _ (d : Int) h).trans (by rw [dchar d hd, hb]; rfl)
theorem dchar_no (d : Nat) (hd : d < 32) (hb : Crc.D.getLsbD d = false) : ∀ h : d < (⟨#[48, 48, 48, 48, 48, 49, 48, 48, 49, 49, 48, 48, 48, 48, 48, 49, 48, 48, 48, 49, 49, 49, 48, 49, 49, 48, 49, 49, 48, 49, 49, 49]⟩ : ByteArray).size, (((⟨#[48, 48, 48, 48, 48, 49, 48, 48, 49, 49, 48, 48, 48, 48, 48, 49, 48, 48, 48, 49, 49, 49, 48, 49, 49, 48, 49, 49, 48, 49, 49, 49]⟩ : ByteArray)[d]'h).toNat : Int) = 48 := fun h =>
  (bt_at _ (d : Int) h).trans (by rw [dchar d hd, hb]; rfl)
theorem pD_at (a d : Nat) : Crc.pD a (a + 1 + d) = Crc.D.getLsbD d := by
  unfold Crc.pD
  rw [Nat.add_sub_cancel_left]; simp
theorem left_reads {w : World} {base g N cap k : Nat} {s : BitVec 32} {l : List Nat} {bs : List UInt8} (h : w.ownsRow base 3 1 (.slice (some ⟨g, 0, none⟩) (N + 32) cap) (N + 32) (nums .i64 (Crc.row (Crc.dsteps N (Crc.first (~~~ s) l)) (N + 32)))) (_hc : N + 32 ≤ cap) (hN : N = 8 * k) (hk : l.length = k) (hl : l = nats bs) :
    ReadsInt w .i64 (some ⟨g, N, none⟩) 32 (Crc.row (fun i => (Crc.bytes (~~~ s) l).getLsbD i) 32) := by
  refine ⟨Crc.row_length _ _, by omega, fun _ => ⟨_, rfl, fun j hj => ?_⟩⟩
  obtain ⟨c, _⟩ := own_at h ((N + j : Nat) : Int) (by omega) (by omega)
  rw [Int.toNat_natCast, rd_row _ _ _ (by omega)] at c
  rw [add_of, c, Crc.row_get _ _ _ hj, hN, ← hk, Crc.left_bits (~~~ s) l (by rw [hl]; intro x hx; simp only [nats, List.mem_map] at hx; obtain ⟨b, _, rfl⟩ := hx; exact b.toNat_lt) j hj]
set_option maxHeartbeats 4000000 in
theorem left_ref (s : BitVec 32) (A : Option Addr) (n c : Nat) (bs : List UInt8) (hn : n = bs.length) (hb : n ≤ 3000) (w : World) (hI : Bytes w w.heap.size A bs) :
    Calls Try.prog 19 #[.int .u32 ((s.toNat : Nat) : Int), .slice A n c] w fun e w' => (∃ v, e = .returned v ∧ ∃ A' c', v = .slice A' 32 c' ∧ ReadsInt w' .i64 A' 32 (Crc.row (fun i => (Crc.bytes (~~~ s) (nats bs)).getLsbD i) 32)) ∧ Below w.heap.size w w' := by
  have HI := Lib.hid hI.reads
  have HN := Lib.hid hn
  obtain ⟨l, hl⟩ : ∃ l, l = nats bs := ⟨_, rfl⟩
  have hll : l.length = n := by rw [hl, hn]; simp [nats]
  have HLL := Lib.hid hll
  have HL := Lib.hid hl
  rw [← hl]
  clear hI hn hl hll
  go_enter Try.func19, Try.ntmps19
  go_wp2
  go_loopw [5, 6] (fun t i wr => ∃ k : Nat, k ≤ n ∧ i = .int .i64 k ∧ Hid (wr.ownsRow w.heap.size 3 1 t (8 * k) (nums .i64 (Crc.row (Crc.mbit l) (8 * k)))) ∧ Hid (Below w.heap.size w wr)) (fun _ i _ => n - (intOf i).toNat)
  case atStart => exact ⟨0, by omega, rfl, own_nil _ _ _ _, Below.refl _ w⟩
  case round =>
    obtain ⟨k, hk, rfl, HO, HB⟩ := hrel
    by_cases hlt : k < n
    · obtain ⟨ad, eA, hcell⟩ := HI.out.at_ (k : Int) (by omega) (by rw [← HN.out]; omega)
      subst eA
      rw [Int.toNat_natCast] at hcell
      obtain ⟨X, hX⟩ : ∃ X : Nat, rd (ints bs) (k : Int) = (X : Int) := ⟨l.getD k 0, by
        rw [ints_get bs k (by rw [← HN.out]; omega), HL.out]; simp [nats, show k < bs.length from by rw [← HN.out]; omega]⟩
      rw [hX] at hcell
      have HX := Lib.hid hX
      clear hX
      have dk : ((k : Int) < (n : Int)) := by omega
      go_wp2
      go_loopw [5, 7] (fun t j wr => ∃ m : Nat, m ≤ 8 ∧ j = .int .i64 m ∧ Hid (wr.ownsRow w.heap.size 3 1 t (8 * k + m) (nums .i64 (Crc.row (Crc.mbit l) (8 * k + m)))) ∧ Hid (Below w.heap.size w wr)) (fun _ j _ => 8 - (intOf j).toNat)
      case atStart => exact ⟨0, by omega, rfl, HO.out, HB.out⟩
      case round =>
        clear HO HB
        obtain ⟨m, hm, rfl, HO, HB⟩ := hrel
        by_cases hm8 : m < 8
        · have hcell2 := (HB.out.cell (World.block_lt_of_cell? w _ hcell)).trans hcell
          have hbit := bit_val l bs k m X HX.out HL.out (by rw [← HN.out]; omega) hm8
          obtain ⟨bit, hbv⟩ : ∃ bit, bit = Crc.b2i (Crc.mbit l (8 * k + m)) := ⟨_, rfl⟩
          rw [← hbv] at hbit
          have HV := Lib.hid hbv
          clear hbv
          have HO' := Lib.hid (own_len HO.out (Crc.row_length (Crc.mbit l) (8 * k + m)).symm)
          go_wp2_with (first
            | (at_builtin; refine print_append_num (w0 := w) w.heap.size rfl (.tmp 21) (.tmp 31) 44 3 .i64 8 rfl Try.underlying44 info3 (by decide) u5 (Crc.row (Crc.mbit l) (8 * k + m)) bit rfl rfl HO'.out HB.out HB.out.size (by rw [Crc.row_length]; omega) ?_; intro v1 w1 ho1 hb1 hg1 hat1; have HO1 := Lib.hid ho1; have HB1 := Lib.hid hb1; clear ho1 hb1 hg1 hat1))
          go_roundw
          case rel => exact ⟨m + 1, by omega, by go_num, by rw [show 8 * k + (m + 1) = (8 * k + m) + 1 from by omega, Crc.row_succ, ← HV.out]; exact own_len HO1.out (by rw [List.length_append, Crc.row_length]; rfl), HB1.out⟩
          case measure => simp [intOf]; omega
        · obtain rfl : m = 8 := by omega
          go_wp2
          go_roundw
          case rel => exact ⟨k + 1, by omega, by go_num, HO.out, HB.out⟩
          case measure => simp [intOf]; omega
    · obtain rfl : k = n := by omega
      obtain ⟨N, hN⟩ : ∃ N, N = 8 * k := ⟨_, rfl⟩
      have HNN := Lib.hid hN
      have HO' := Lib.hid (own_len HO.out (Crc.row_length (Crc.mbit l) (8 * k)).symm)
      have hNl : N ≤ 24000 := by omega
      rw [← hN] at HO'
      clear HO hN
      go_wp2_with (first
        | (at_builtin; refine Kd.R_append_zeros (Kd.int .i64) (w0 := w) w.heap.size rfl (.tmp 33) (.const (.int .i64 32)) 44 3 3 (.int .i64 0) 8 rfl Try.underlying44 Try.underlying3 info3 rfl (by decide) (by decide) u5 (Crc.row (Crc.mbit l) N) 0 32 (fun _ => True) rfl rfl rfl (fun _ _ => trivial) (Kd.R_of_own HO'.out (fun _ _ => trivial)) (by omega) HB.out HB.out.size (by rw [Crc.row_length]; simp; omega) ?_; intro v2 w2 ho2 hb2 hg2 hat2; have HO2 := Lib.hid (Kd.own_of_R ho2); have HB2 := Lib.hid hb2; clear ho2 hb2 hg2 hat2))
      obtain ⟨g, cap, hv, hgb, hcap, ho3⟩ := row_after HO2.out HNN.out (by rw [HLL.out])
      have HO3 := Lib.hid ho3
      have HOr := Lib.hid hv
      rw [hv]
      clear ho3 HO' HO2
      go_loopw [8] (fun i wr => ∃ j : Nat, j ≤ 32 ∧ i = .int .i64 j ∧ Hid (wr.ownsRow w.heap.size 3 1 (.slice (some ⟨g, 0, none⟩) (N + 32) cap) (N + 32) (nums .i64 (Crc.row (Crc.turn (fun q => !(s.getLsbD q)) j (Crc.mbit l)) (N + 32)))) ∧ Hid (Below w.heap.size w wr)) (fun i _ => 32 - (intOf i).toNat)
      case atStart => exact ⟨0, by omega, rfl, by rw [Crc.turn_zero _ _ 0 (by omega)]; exact HO3.out, HB2.out⟩
      case round =>
        obtain ⟨j, hj, rfl, HO4, HB4⟩ := hrel
        by_cases hj32 : j < 32
        · have HS1 := Lib.hid (sum_bit s j hj32)
          obtain ⟨c4, f4⟩ := own_at HO4.out (j : Int) (by omega) (by omega)
          obtain ⟨Z, hZ⟩ : ∃ Z, Z = Crc.turn (fun q => !(s.getLsbD q)) j (Crc.mbit l) j := ⟨_, rfl⟩
          rw [Int.toNat_natCast] at c4 f4
          rw [rd_row _ _ _ (by omega), ← hZ] at c4
          have hZb := b2i_bounds Z
          have HZ := Lib.hid hZ
          clear hZ
          generalize hzz : Crc.b2i Z = z at c4 hZb
          have HZZ := Lib.hid hzz
          clear hzz
          by_cases hb : s.getLsbD j = true
          · have hs1 := HS1.out.trans (show (!(s.getLsbD j)) = false by rw [hb]; rfl)
            have HP := Lib.hid (show (fun q => !(s.getLsbD q)) j = false by simp [hb])
            clear hb HS1
            go_wp2
            go_roundw
            case rel => exact ⟨j + 1, by omega, by go_num, by rw [Crc.turn_no _ _ _ HP.out]; exact HO4.out, HB4.out⟩
            case measure => simp [intOf]; omega
          · have hb' : s.getLsbD j = false := by simpa using hb
            have hs1 := HS1.out.trans (show (!(s.getLsbD j)) = true by rw [hb']; rfl)
            have HP := Lib.hid (show (fun q => !(s.getLsbD q)) j = true by simp [hb'])
            clear hb hb' HS1
            have hst := own_store HO4.out (j : Int) (1 - z)
            rw [Int.toNat_natCast] at hst
            have HST := Lib.hid hst
            clear hst
            go_wp2
            go_roundw
            case rel => exact ⟨j + 1, by omega, by go_num, by rw [← Crc.turn_yes _ _ _ _ HP.out, ← HZ.out, ← Crc.b2i_not, HZZ.out]; exact HST.out.1, HB4.out.setCell (p := ⟨g, j, none⟩) hgb _⟩
            case measure => simp [intOf]; omega
        · obtain rfl : j = 32 := by omega
          have HO5 := Lib.hid (own_first HO4.out)
          clear HO4 HO3
          go_wp2
          go_loopw [9] (fun i wr => ∃ a : Nat, a ≤ N ∧ i = .int .i64 a ∧ Hid (wr.ownsRow w.heap.size 3 1 (.slice (some ⟨g, 0, none⟩) (N + 32) cap) (N + 32) (nums .i64 (Crc.row (Crc.dsteps a (Crc.first (~~~ s) l)) (N + 32)))) ∧ Hid (Below w.heap.size w wr)) (fun i _ => N - (intOf i).toNat)
          case atStart => exact ⟨0, by omega, rfl, HO5.out, HB4.out⟩
          case round =>
            clear HO5 HB4
            obtain ⟨a, ha, rfl, HO6, HB6⟩ := hrel
            by_cases haN : a < N
            · obtain ⟨c6, f6⟩ := own_at HO6.out (a : Int) (by omega) (by omega)
              rw [Int.toNat_natCast] at c6 f6
              rw [rd_row _ _ _ (by omega)] at c6
              have hfa := Lib.hid (b2i_eq (Crc.dsteps a (Crc.first (~~~ s) l) a))
              generalize hzz : Crc.b2i (Crc.dsteps a (Crc.first (~~~ s) l) a) = z at c6 hfa
              clear hzz
              by_cases hb : Crc.dsteps a (Crc.first (~~~ s) l) a = true
              · have hz1 := hfa.out.trans hb
                have HBB := Lib.hid hb
                clear hb
                go_wp2
                go_loopw [10] (fun i wr => ∃ d : Nat, d ≤ 32 ∧ i = .int .i64 d ∧ Hid (wr.ownsRow w.heap.size 3 1 (.slice (some ⟨g, 0, none⟩) (N + 32) cap) (N + 32) (nums .i64 (Crc.row (Crc.turn (Crc.pD a) (a + 1 + d) (Crc.dsteps a (Crc.first (~~~ s) l))) (N + 32)))) ∧ Hid (Below w.heap.size w wr)) (fun i _ => 32 - (intOf i).toNat)
                case atStart => exact ⟨0, by omega, rfl, by rw [Nat.add_zero, Crc.turn_start]; exact HO6.out, HB6.out⟩
                case round =>
                  clear HO6 HB6 c6 f6
                  obtain ⟨d, hd, rfl, HO7, HB7⟩ := hrel
                  by_cases hd32 : d < 32
                  · obtain ⟨c7, f7⟩ := own_at HO7.out (((a + 1 + d : Nat)) : Int) (by omega) (by omega)
                    rw [Int.toNat_natCast] at c7 f7
                    rw [rd_row _ _ _ (by omega)] at c7
                    obtain ⟨Z, hZ⟩ : ∃ Z, Z = Crc.turn (Crc.pD a) (a + 1 + d) (Crc.dsteps a (Crc.first (~~~ s) l)) (a + 1 + d) := ⟨_, rfl⟩
                    rw [← hZ] at c7
                    have hZb := b2i_bounds Z
                    have HZ := Lib.hid hZ
                    clear hZ
                    generalize hzz : Crc.b2i Z = y at c7 hZb
                    have HZZ := Lib.hid hzz
                    clear hzz
                    have hd0 : (0 : Int) ≤ (d : Int) := by omega
                    have hd1 : (d : Int) < 32 := by omega
                    by_cases hb : Crc.D.getLsbD d = true
                    · have hx := dchar_yes d hd32 hb
                      have HP := Lib.hid (show Crc.pD a (a + 1 + d) = true by rw [pD_at, hb])
                      have hst := own_store HO7.out (((a + 1 + d : Nat)) : Int) (1 - y)
                      rw [Int.toNat_natCast] at hst
                      have HST := Lib.hid hst
                      clear hst hb
                      go_wp2
                      go_roundw
                      case rel => exact ⟨d + 1, by omega, by go_num, by rw [show a + 1 + (d + 1) = (a + 1 + d) + 1 from rfl, ← Crc.turn_yes _ _ _ _ HP.out, ← HZ.out, ← Crc.b2i_not, HZZ.out]; exact HST.out.1, HB7.out.setCell (p := ⟨g, a + 1 + d, none⟩) hgb _⟩
                      case measure => simp [intOf]; omega
                    · have hb' : Crc.D.getLsbD d = false := by simpa using hb
                      have hx := dchar_no d hd32 hb'
                      have HP := Lib.hid (show Crc.pD a (a + 1 + d) = false by rw [pD_at, hb'])
                      clear hb hb'
                      go_wp2
                      go_roundw
                      case rel => exact ⟨d + 1, by omega, by go_num, by rw [show a + 1 + (d + 1) = (a + 1 + d) + 1 from rfl, Crc.turn_no _ _ _ HP.out]; exact HO7.out, HB7.out⟩
                      case measure => simp [intOf]; omega
                  · obtain rfl : d = 32 := by omega
                    go_wp2
                    go_roundw
                    case rel => exact ⟨a + 1, by omega, by go_num, by rw [Crc.dstep_yes HBB.out]; exact HO7.out, HB7.out⟩
                    case measure => simp [intOf]; omega
              · have hb' : Crc.dsteps a (Crc.first (~~~ s) l) a = false := by simpa using hb
                have hz1 := hfa.out.trans hb'
                have HBB := Lib.hid hb'
                clear hb hb'
                go_wp2
                go_roundw
                case rel => exact ⟨a + 1, by omega, by go_num, by rw [show Crc.dsteps (a + 1) (Crc.first (~~~ s) l) = Crc.dsteps a (Crc.first (~~~ s) l) from Crc.dstep_no HBB.out]; exact HO6.out, HB6.out⟩
                case measure => simp [intOf]; omega
            · obtain rfl : a = N := by omega
              go_wp2
              go_ret
              exact ⟨⟨_, rfl, _, _, rfl, left_reads HO6.out hcap HNN.out HLL.out HL.out⟩, HB6.out⟩
end Go.Proofs.Ytobikkenfdhdcaa
