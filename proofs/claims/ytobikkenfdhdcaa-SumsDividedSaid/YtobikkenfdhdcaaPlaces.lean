/- Two neighbours that change their places make another sum, unless they are the same: the law's walk. -/
import Derived.Test.YtobikkenfdhdcaaLost
import Derived.RegionTactic
import Derived.IntWalk
import Derived.BigRegion
import Derived.Deep.RegionHeld3
import Derived.ChangeAlike
namespace Go.Proofs.Ytobikkenfdhdcaa
open Go.RowKit Go.Shelf Go.Proofs.YtobikkenfdhdcaaW.PrintWords
theorem swap_own {w w4 : World} {base g n cap k : Nat} {xs : List Int} {X Y : Int} (h : w.ownsRow base 5 1 (.slice (some ⟨g, 0, none⟩) n cap) n (nums .u8 xs)) (hw : w4 = ((w.setCell ⟨g, k, none⟩ (.int .u8 Y)).setCell ⟨g, k + 1, none⟩ (.int .u8 X)).drew) :
    w4.ownsRow base 5 1 (.slice (some ⟨g, 0, none⟩) n cap) n (nums .u8 ((xs.set k Y).set (k + 1) X)) := by
  have h1 := (own_store h (k : Int) Y).1
  have h2 := (own_store h1 ((k : Int) + 1) X).1
  simp only [Int.toNat_natCast, show ((k : Int) + 1).toNat = k + 1 from by omega] at h2
  rw [hw]
  exact h2.drew
theorem swap_below {w0 w w4 : World} {base g k : Nat} {X Y : Int} (h : Below base w0 w) (hg : base ≤ g) (hw : w4 = ((w.setCell ⟨g, k, none⟩ (.int .u8 Y)).setCell ⟨g, k + 1, none⟩ (.int .u8 X)).drew) : Below base w0 w4 := by
  rw [hw]
  exact ((h.setCell (p := ⟨g, k, none⟩) hg _).setCell (p := ⟨g, k + 1, none⟩) hg _).drew
theorem swap_law (bs : List UInt8) (k : Nat) (h : k + 1 < bs.length) (X Y : Int) (hX : X = ((bs[k].toNat : Nat) : Int)) (hY : Y = ((bs[k + 1].toNat : Nat) : Int)) :
    ∃ cs : List UInt8, ints cs = ((ints bs).set k Y).set (k + 1) X ∧ cs.length = bs.length ∧ (Crc.on 0#32 (nats bs) = Crc.on 0#32 (nats cs) ↔ X = Y) := by
  subst hX hY
  obtain ⟨p, x, y, r, e, hp⟩ : ∃ p x y r, bs = p ++ x :: y :: r ∧ p.length = k := by
    refine ⟨bs.take k, bs[k], bs[k + 1], bs.drop (k + 2), ?_, by rw [List.length_take]; omega⟩
    rw [← List.drop_eq_getElem_cons h, ← List.drop_eq_getElem_cons (by omega), List.take_append_drop]
  subst hp
  subst e
  have e1 : (p ++ x :: y :: r)[p.length]'(by simp) = x := by simp
  have e2 : (p ++ x :: y :: r)[p.length + 1]'(by simp) = y := by simp [List.getElem_append_right]
  rw [e1, e2]
  refine ⟨p ++ y :: x :: r, ?_, by simp, ?_⟩
  · simp only [ints, List.map_append, List.map_cons]
    rw [List.set_append_right _ _ (by simp), List.set_append_right _ _ (by simp)]
    simp
  · have hx := x.toNat_lt
    have hy := y.toNat_lt
    have n1 : nats (p ++ x :: y :: r) = nats p ++ ([x.toNat, y.toNat] ++ nats r) := by simp [nats]
    have n2 : nats (p ++ y :: x :: r) = nats p ++ ([y.toNat, x.toNat] ++ nats r) := by simp [nats]
    rw [n1, n2]
    constructor
    · intro h
      have h1 := Crc.not_inj h
      rw [Crc.bytes_append, Crc.bytes_append, Crc.bytes_append, Crc.bytes_append] at h1
      have h2 := Crc.bytes_inj _ h1
      have := Crc.swap_two _ x.toNat y.toNat (by omega) (by omega) h2
      omega
    · intro h
      have : x.toNat = y.toNat := by omega
      rw [this]
theorem held_on {w0 w4 w' w'' : World} {b o1 o2 : Nat} {X Y : Value} (h : w'.cell? ⟨b, o1, none⟩ = some X ∧ w'.cell? ⟨b, o2, none⟩ = some Y ∧ Below w4.heap.size w4 w') (hb : b < w0.heap.size) (h0 : Below w0.heap.size w0 w4) (hk : Below w'.heap.size w' w'') :
    w''.cell? ⟨b, o1, none⟩ = some X ∧ w''.cell? ⟨b, o2, none⟩ = some Y ∧ Below w4.heap.size w4 w'' := by
  obtain ⟨h1, h2, h3⟩ := h
  have hlt : b < w'.heap.size := Nat.lt_of_lt_of_le hb (Nat.le_trans h0.size h3.size)
  exact ⟨(hk.cell (p := ⟨b, o1, none⟩) hlt).trans h1, (hk.cell (p := ⟨b, o2, none⟩) hlt).trans h2, h3.trans (hk.mono h3.size)⟩
theorem of_own' {w w' : World} {base n : Nat} {v : Value} {bs : List UInt8} (h : w.ownsRow base 5 1 v n (nums .u8 (ints bs))) (hn : bs.length = n) (hb : Below w.heap.size w w') :
    Calls Try.prog 9 #[v] w' fun e w'' => e = .returned (.int .u32 (((Crc.on 0#32 (nats bs)).toNat : Nat) : Int)) ∧ Below w'.heap.size w' w'' :=
  of_own (xs := ints bs) (by rw [ints_length, hn]; exact h) bs rfl hb
set_option maxHeartbeats 1000000 in
theorem places_walk (A : Option Addr) (n c : Nat) (zs : List Int) (x : Int) (w : World) (hr : IsRow .u8 w A n c zs) (hn : n * 1 ≤ 140737488351232) (hx : (Lit.int .u16 x).wf = true) :
    Calls Try.prog 6 #[.slice A n c, .int .u16 x] w fun e w' => e = .returned (.bool true) ∧ Below w.heap.size w w' := by
  obtain ⟨bs, hlen, hI, _⟩ := hr.bytes
  obtain ⟨x0, x1⟩ := bounds_u16 hx
  obtain ⟨m, rfl⟩ : ∃ m : Nat, x = ((m : Nat) : Int) := ⟨x.toNat, by omega⟩
  by_cases hg : n ≤ 50000 ∧ 2 ≤ n
  · obtain ⟨hg, h2⟩ := hg
    have hd : decide (50000 < (n : Int)) = false := by simp; omega
    have hd2 : decide ((n : Int) < 2) = false := by simp; omega
    obtain ⟨k, hk, hk1⟩ : ∃ k : Nat, (m : Int) % ((n : Int) - 1) = (k : Int) ∧ k + 1 < n := by
      refine ⟨m % (n - 1), ?_, ?_⟩
      · rw [Int.natCast_emod]; congr 1; omega
      · have := Nat.mod_lt m (show 0 < n - 1 by omega); omega
    have hbl : bs.length ≤ 50000 := by omega
    obtain ⟨b, off, rfl, hb, hc⟩ := hI.2 (by omega)
    have HL := Lib.hid hlen.symm
    have HI := Lib.hid hI
    have HC := Lib.hid hc
    have LEN := Lib.hid (ints_length bs)
    clear hlen hI hr hx hc
    go_enter Try.func6, Try.ntmps6
    go_wp2_with fail
    refine (great_one _ _ _ (by omega) _).mono ?_
    rintro e w1 ⟨rfl, rfl⟩
    have HB := Lib.hid ((Below.refl w.heap.size w).alloc (Nat.le_refl _) (.cells #[.slice (some ⟨b, off, none⟩) n c] 22))
    have RD := Lib.hid (show ReadsInt (w.alloc (.cells #[.slice (some ⟨b, off, none⟩) n c] 22)) .u8 (some ⟨b, off, none⟩) n (ints bs) from by have h := (HI.out.below HB.out).reads; rwa [← HL.out] at h)
    go_wp2_with (first
      | (at_builtin; refine print_append_row (w0 := w) w.heap.size rfl (.const (.slice none 0 0)) (.tmp 22) 22 5 .u8 1 rfl Try.underlying22 info5 (by decide) _ [] (ints bs) (some ⟨b, off, none⟩) n c rfl rfl (own_nil _ _ _ _) RD.out HB.out HB.out.size (by simp; omega) ?_; intro v1 w3 ho1 hb1 hg1 hat1; rw [List.nil_append] at ho1; have HO1 := Lib.hid ho1; have HB1 := Lib.hid hb1; have HA1 := Lib.hid hat1; clear ho1 hb1 hg1 hat1))
    obtain ⟨g, cap, hv, hgb, hgl⟩ := HO1.out.form (by rw [LEN.out]; have := HL.out; omega)
    have hlc : (ints bs).length = n := by rw [LEN.out, ← HL.out]
    rw [hlc] at hv
    have ho := HO1.out
    rw [hv, hlc] at ho
    rw [hv]
    obtain ⟨ck, fk⟩ := own_at ho (k : Int) (by omega) (by omega)
    obtain ⟨ck1, fk1⟩ := own_at ho ((k : Int) + 1) (by omega) (by omega)
    have HO := Lib.hid ho
    obtain ⟨X, hX⟩ : ∃ X, X = rd (ints bs) (k : Int) := ⟨_, rfl⟩
    obtain ⟨Y, hY⟩ : ∃ Y, Y = rd (ints bs) ((k : Int) + 1) := ⟨_, rfl⟩
    rw [← hX] at ck
    rw [← hY] at ck1
    simp only [Int.toNat_natCast, show ((k : Int) + 1).toNat = k + 1 from by omega] at ck ck1 fk fk1
    have HX := Lib.hid hX
    have HY := Lib.hid hY
    have HV := Lib.hid hv
    have HLC := Lib.hid hlc
    clear hX hY ho hlc hv
    go_region
    obtain ⟨w4, hw4⟩ : ∃ w4, w4 = ((w3.setCell ⟨g, k, none⟩ (.int .u8 Y)).setCell ⟨g, k + 1, none⟩ (.int .u8 X)).drew := ⟨_, rfl⟩
    rw [← hw4]
    have HO4 := Lib.hid (swap_own HO.out hw4)
    have HB4 := Lib.hid (swap_below HB1.out hgb hw4)
    have c1 := Lib.hid ((HB4.out.cell (p := ⟨b, off + k, none⟩) hb).trans ((HC.out k (by have := HL.out; omega)).trans (by rw [HX.out, ints_get _ _ (by have := HL.out; omega)] : _ = some (Value.int .u8 X))))
    have c2 := Lib.hid ((HB4.out.cell (p := ⟨b, off + (k + 1), none⟩) hb).trans ((HC.out (k + 1) (by have := HL.out; omega)).trans (by rw [HY.out, show (k : Int) + 1 = ((k + 1 : Nat) : Int) from by omega, ints_get _ _ (by have := HL.out; omega)] : _ = some (Value.int .u8 Y))))
    clear hw4
    go_wp2_with fail
    obtain ⟨cs, hcs, hcl, hns⟩ := swap_law bs k (by have := HL.out; omega) X Y (by rw [HX.out, ints_get _ _ (by have := HL.out; omega)]) (by rw [HY.out, show (k : Int) + 1 = ((k + 1 : Nat) : Int) from by omega, ints_get _ _ (by have := HL.out; omega)])
    rw [← HL.out] at hcl
    rw [← hcs] at HO4
    obtain ⟨p, hp⟩ : ∃ p : BitVec 32, p = Crc.on 0#32 (nats bs) := ⟨_, rfl⟩
    obtain ⟨q, hq⟩ : ∃ q : BitVec 32, q = Crc.on 0#32 (nats cs) := ⟨_, rfl⟩
    have KA := Lib.hid (fun w' (h : w'.cell? ⟨b, off + k, none⟩ = some (.int .u8 X) ∧ w'.cell? ⟨b, off + (k + 1), none⟩ = some (.int .u8 Y) ∧ Below w4.heap.size w4 w') => (alive_any w').mono fun e w'' h' => (⟨h'.1, held_on h hb HB4.out h'.2⟩ : e = .returned (.bool true) ∧ w''.cell? ⟨b, off + k, none⟩ = some (.int .u8 X) ∧ w''.cell? ⟨b, off + (k + 1), none⟩ = some (.int .u8 Y) ∧ Below w4.heap.size w4 w''))
    have KB := Lib.hid (fun w' (h : w'.cell? ⟨b, off + k, none⟩ = some (.int .u8 X) ∧ w'.cell? ⟨b, off + (k + 1), none⟩ = some (.int .u8 Y) ∧ Below w4.heap.size w4 w') => (of_any (some ⟨b, off, none⟩) n c bs HL.out w' ((HI.out.later HB4.out).later h.2.2)).mono fun e w'' h' => (⟨by rw [hp]; exact h'.1, held_on h hb HB4.out h'.2⟩ : e = .returned (.int .u32 ((p.toNat : Nat) : Int)) ∧ w''.cell? ⟨b, off + k, none⟩ = some (.int .u8 X) ∧ w''.cell? ⟨b, off + (k + 1), none⟩ = some (.int .u8 Y) ∧ Below w4.heap.size w4 w''))
    have KC := Lib.hid (fun w' (h : w'.cell? ⟨b, off + k, none⟩ = some (.int .u8 X) ∧ w'.cell? ⟨b, off + (k + 1), none⟩ = some (.int .u8 Y) ∧ Below w4.heap.size w4 w') => (of_own' HO4.out hcl h.2.2).mono fun e w'' h' => (⟨by rw [hq]; exact h'.1, held_on h hb HB4.out h'.2⟩ : e = .returned (.int .u32 ((q.toNat : Nat) : Int)) ∧ w''.cell? ⟨b, off + k, none⟩ = some (.int .u8 X) ∧ w''.cell? ⟨b, off + (k + 1), none⟩ = some (.int .u8 Y) ∧ Below w4.heap.size w4 w''))
    have HP := Lib.hid hp
    have HQ := Lib.hid hq
    have HN := Lib.hid hns
    have C1 := c1.out
    have C2 := c2.out
    have RF := Below.refl w4.heap.size w4
    have i0 : (0 : Int) ≤ (k : Int) := by omega
    have i1 : (k : Int) < (n : Int) := by omega
    have i2 : (0 : Int) ≤ (k : Int) + 1 := by omega
    have i3 : (k : Int) + 1 < (n : Int) := by omega
    have i4 : IntKind.i64.wrap ((k : Int) + 1) = (k : Int) + 1 := IntWalk.i64_in _ (by omega)
    have i5 : ((k : Int) + 1).toNat = k + 1 := by omega
    have i6 : ((k : Int)).toNat = k := by omega
    clear hp hq hns hcs hcl ck ck1 fk fk1 hk
    go_region_held3 (fun w' => w'.cell? ⟨b, off + k, none⟩ = some (.int .u8 X) ∧ w'.cell? ⟨b, off + (k + 1), none⟩ = some (.int .u8 Y) ∧ Below w4.heap.size w4 w') (first | exact ⟨by assumption, by assumption, by first | assumption | exact Below.drew (by assumption)⟩)
      (first
        | (go_at_call 15; refine (KA.out _ ⟨by assumption, by assumption, by first | assumption | exact Below.drew (by assumption)⟩).mono ?_; rintro e w' ⟨rfl, h1, h2, h3⟩)
        | (go_at_call 9; with_reducible refine (KB.out _ ⟨by assumption, by assumption, by first | assumption | exact Below.drew (by assumption)⟩).mono ?_; rintro e w' ⟨rfl, h1, h2, h3⟩)
        | (go_at_call 9; with_reducible refine (KC.out _ ⟨by assumption, by assumption, by first | assumption | exact Below.drew (by assumption)⟩).mono ?_; rintro e w' ⟨rfl, h1, h2, h3⟩))
    go_wp2
    go_ret
    refine ⟨ret_true ?_, HB4.out.trans (Below.mono (by assumption) HB4.out.size)⟩
    have h := HN.out
    rw [← HP.out, ← HQ.out] at h
    rw [beq_iff_eq, Bool.eq_iff_iff, beq_iff_eq, beq_iff_eq, ← h]
    constructor
    · intro e; exact BitVec.eq_of_toNat_eq (by omega)
    · intro e; rw [e]
  · clear hI hr hx
    by_cases hg5 : n ≤ 50000
    · have hd : decide (50000 < (n : Int)) = false := by simp; omega
      have hd2 : decide ((n : Int) < 2) = true := by simp; omega
      clear hlen
      go_enter Try.func6, Try.ntmps6
      go_wp2_with fail
      refine (great_one _ _ _ (by omega) _).mono ?_
      rintro e w1 ⟨rfl, rfl⟩
      go_wp2_with fail
      refine (alive_any _).mono ?_
      rintro e w2 ⟨rfl, hb2⟩
      go_wp2_with fail
      go_ret
      exact ⟨rfl, below_lit hb2⟩
    · have hd : decide (50000 < (n : Int)) = true := by simp; omega
      clear hlen
      go_enter Try.func6, Try.ntmps6
      go_wp2_with fail
      refine (great_one _ _ _ (by omega) _).mono ?_
      rintro e w1 ⟨rfl, rfl⟩
      go_wp2_with fail
      refine (alive_any _).mono ?_
      rintro e w2 ⟨rfl, hb2⟩
      go_wp2_with fail
      go_ret
      exact ⟨rfl, below_lit hb2⟩
end Go.Proofs.Ytobikkenfdhdcaa
