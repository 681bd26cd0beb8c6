/- Plain laws on CRC-32's division: the state of 32 bits, one bit, four bits and a byte at a time. No program in sight. -/
namespace Crc
def D : BitVec 32 := 0xEDB88320#32
def st1 (x : BitVec 32) : BitVec 32 := if x.getLsbD 0 then (x >>> 1) ^^^ D else x >>> 1
def st : Nat → BitVec 32 → BitVec 32
  | 0, x => x
  | n + 1, x => st n (st1 x)
theorem st_zero (x : BitVec 32) : st 0 x = x := rfl
theorem st_succ (n : Nat) (x : BitVec 32) : st (n + 1) x = st n (st1 x) := rfl
theorem xor4 (a b d : BitVec 32) : a ^^^ b = (a ^^^ d) ^^^ (b ^^^ d) := by
  apply BitVec.eq_of_getLsbD_eq; intro i _; simp only [BitVec.getLsbD_xor]
  cases a.getLsbD i <;> cases b.getLsbD i <;> cases d.getLsbD i <;> rfl
theorem xor3 (a b d : BitVec 32) : a ^^^ b ^^^ d = (a ^^^ d) ^^^ b := by
  apply BitVec.eq_of_getLsbD_eq; intro i _; simp only [BitVec.getLsbD_xor]
  cases a.getLsbD i <;> cases b.getLsbD i <;> cases d.getLsbD i <;> rfl
theorem st1_xor (x y : BitVec 32) : st1 (x ^^^ y) = st1 x ^^^ st1 y := by
  have hs : (x ^^^ y) >>> 1 = (x >>> 1) ^^^ (y >>> 1) := BitVec.ushiftRight_xor_distrib x y 1
  unfold st1
  rw [BitVec.getLsbD_xor, hs]
  cases hx : x.getLsbD 0 <;> cases hy : y.getLsbD 0
  · simp
  · simp [BitVec.xor_assoc]
  · simp [xor3]
  · simp only [Bool.xor_self, Bool.false_eq_true, if_false, if_true]; exact xor4 _ _ _
theorem st_xor (n : Nat) : ∀ x y : BitVec 32, st n (x ^^^ y) = st n x ^^^ st n y := by
  induction n with
  | zero => intro x y; rfl
  | succ n ih => intro x y; rw [st_succ, st_succ, st_succ, st1_xor, ih]
theorem st_add (m n : Nat) : ∀ x : BitVec 32, st (m + n) x = st n (st m x) := by
  induction m with
  | zero => intro x; rw [Nat.zero_add]; rfl
  | succ m ih => intro x; rw [Nat.succ_add, st_succ, st_succ, ih]
/-- low bits nought: a shift alone. -/
theorem st_shift (n : Nat) : ∀ x : BitVec 32, (∀ i, i < n → x.getLsbD i = false) → st n x = x >>> n := by
  induction n with
  | zero => intro x _; simp [st_zero]
  | succ n ih =>
    intro x h
    have h1 : st1 x = x >>> 1 := by unfold st1; rw [h 0 (by omega)]; simp
    rw [st_succ, h1, ih]
    · rw [← BitVec.shiftRight_add, Nat.add_comm]
    · intro i hi; rw [BitVec.getLsbD_ushiftRight, Nat.add_comm]; exact h (i + 1) (by omega)
/-- back: what came ahead. -/
def un (y : BitVec 32) : BitVec 32 := if y.getLsbD 31 then ((y ^^^ D) <<< 1) ||| 1#32 else y <<< 1
theorem D31 : D.getLsbD 31 = true := by decide
theorem un_st1 (x : BitVec 32) : un (st1 x) = x := by
  have ht : (st1 x).getLsbD 31 = x.getLsbD 0 := by
    unfold st1
    cases hx : x.getLsbD 0
    · simp
    · rw [show D = 0xEDB88320#32 from rfl]; simp
  unfold un
  rw [ht]
  cases hx : x.getLsbD 0
  · have e : st1 x = x >>> 1 := by unfold st1; rw [hx]; simp
    rw [e]
    apply BitVec.eq_of_getLsbD_eq; intro i hi
    simp only [Bool.false_eq_true, if_false, BitVec.getLsbD_shiftLeft, BitVec.getLsbD_ushiftRight]
    by_cases h0 : i = 0
    · subst h0; rw [hx]; simp
    · have : 1 + (i - 1) = i := by omega
      rw [this]; simp [hi]; omega
  · have e : st1 x = (x >>> 1) ^^^ D := by unfold st1; rw [hx]; simp
    have e2 : (st1 x) ^^^ D = x >>> 1 := by rw [e, BitVec.xor_assoc, BitVec.xor_self, BitVec.xor_zero]
    rw [e2]
    apply BitVec.eq_of_getLsbD_eq; intro i hi
    simp only [if_true, BitVec.getLsbD_or, BitVec.getLsbD_shiftLeft, BitVec.getLsbD_ushiftRight]
    by_cases h0 : i = 0
    · subst h0; simp [hx]
    · have h1 : 1 + (i - 1) = i := by omega
      have h2 : (1#32).getLsbD i = false := by simp [BitVec.getLsbD_one]; omega
      rw [h1, h2]; simp [hi]; omega
theorem st1_un (y : BitVec 32) : st1 (un y) = y := by
  unfold un
  cases hy : y.getLsbD 31
  · have h0 : (y <<< 1).getLsbD 0 = false := by simp
    have e : st1 (y <<< 1) = (y <<< 1) >>> 1 := by unfold st1; rw [h0]; simp
    simp only [Bool.false_eq_true, if_false]
    rw [e]
    apply BitVec.eq_of_getLsbD_eq; intro i hi
    simp only [BitVec.getLsbD_shiftLeft, BitVec.getLsbD_ushiftRight]
    by_cases h31 : i = 31
    · subst h31; rw [hy]; simp
    · have h1 : 1 + i - 1 = i := by omega
      rw [h1]; simp; omega
  · simp only [if_true]
    have h0 : (((y ^^^ D) <<< 1) ||| 1#32).getLsbD 0 = true := by simp
    have e : st1 (((y ^^^ D) <<< 1) ||| 1#32) = ((((y ^^^ D) <<< 1) ||| 1#32) >>> 1) ^^^ D := by unfold st1; rw [h0]; simp
    rw [e]
    have e2 : (((y ^^^ D) <<< 1) ||| 1#32) >>> 1 = y ^^^ D := by
      apply BitVec.eq_of_getLsbD_eq; intro i hi
      simp only [BitVec.getLsbD_ushiftRight, BitVec.getLsbD_or, BitVec.getLsbD_shiftLeft]
      have h2 : (1#32).getLsbD (1 + i) = false := by simp [BitVec.getLsbD_one]
      rw [h2]
      by_cases h31 : i = 31
      · subst h31; rw [BitVec.getLsbD_xor, hy, D31]; simp
      · have h1 : 1 + i - 1 = i := by omega
        rw [h1]; simp; omega
    rw [e2, BitVec.xor_assoc, BitVec.xor_self, BitVec.xor_zero]
def uns : Nat → BitVec 32 → BitVec 32
  | 0, x => x
  | n + 1, x => uns n (un x)
theorem uns_end (n : Nat) : ∀ x, uns (n + 1) x = un (uns n x) := by
  induction n with
  | zero => intro x; rfl
  | succ n ih => intro x; show uns (n + 1) (un x) = _; rw [ih]; rfl
theorem st_uns (n : Nat) : ∀ x, st n (uns n x) = x := by
  induction n with
  | zero => intro x; rfl
  | succ n ih => intro x; rw [uns_end, st_succ, st1_un, ih]
theorem st1_inj {x y : BitVec 32} (h : st1 x = st1 y) : x = y := by rw [← un_st1 x, h, un_st1]
theorem st_inj (n : Nat) : ∀ {x y : BitVec 32}, st n x = st n y → x = y := by
  induction n with
  | zero => intro x y h; exact h
  | succ n ih => intro x y h; exact st1_inj (ih h)
theorem st1_zero : st1 0#32 = 0#32 := by decide
theorem st_of_zero (n : Nat) : st n 0#32 = 0#32 := by
  induction n with
  | zero => rfl
  | succ n ih => rw [st_succ, st1_zero, ih]
/-- four bits at once: by the table. -/
theorem nib (r n : BitVec 32) (hn : ∀ i, 4 ≤ i → n.getLsbD i = false) : (r >>> 4) ^^^ st 4 ((r ^^^ n) &&& 15#32) = st 4 (r ^^^ n) := by
  have h15 : ∀ i, (15#32).getLsbD i = decide (i < 4) := by
    intro i
    by_cases h : i < 32
    · have : ∀ j : Fin 32, (15#32).getLsbD j = decide (j.1 < 4) := by decide
      exact this ⟨i, h⟩
    · rw [BitVec.getLsbD_of_ge _ _ (by omega)]; simp; omega
  have hz : r ^^^ n = ((r ^^^ n) &&& 15#32) ^^^ ((r >>> 4) <<< 4) := by
    apply BitVec.eq_of_getLsbD_eq; intro i hi
    simp only [BitVec.getLsbD_xor, BitVec.getLsbD_and, BitVec.getLsbD_shiftLeft, BitVec.getLsbD_ushiftRight, h15]
    by_cases h4 : i < 4
    · simp [h4]
    · have h1 : 4 + (i - 4) = i := by omega
      rw [h1, hn i (by omega)]; simp [h4, hi]
  have hs : st 4 ((r >>> 4) <<< 4) = r >>> 4 := by
    rw [st_shift]
    · apply BitVec.eq_of_getLsbD_eq; intro i hi
      simp only [BitVec.getLsbD_shiftLeft, BitVec.getLsbD_ushiftRight]
      by_cases h28 : 4 + i < 32
      · have h1 : 4 + (4 + i - 4) = 4 + i := by omega
        rw [h1]; simp [h28]
      · have : r.getLsbD (4 + i) = false := BitVec.getLsbD_of_ge _ _ (by omega)
        simp [h28, this]
    · intro i hi; simp only [BitVec.getLsbD_shiftLeft]; simp [hi]
  rw [hz, st_xor, ← hz, hs, BitVec.xor_comm]
/-- a byte at once. -/
def byte (r : BitVec 32) (c : Nat) : BitVec 32 := st 8 (r ^^^ BitVec.ofNat 32 c)
theorem byte_halves (r : BitVec 32) (c : Nat) (hc : c < 256) :
    st 4 (st 4 (r ^^^ BitVec.ofNat 32 (c % 16)) ^^^ BitVec.ofNat 32 (c / 16)) = byte r c := by
  have hsp : ∀ c : Fin 256, BitVec.ofNat 32 c.1 = BitVec.ofNat 32 (c.1 % 16) ^^^ (BitVec.ofNat 32 (c.1 / 16) <<< 4) := by decide +kernel
  have hsh : ∀ d : Fin 16, st 4 (BitVec.ofNat 32 d.1 <<< 4) = BitVec.ofNat 32 d.1 := by decide +kernel
  have h1 := hsp ⟨c, hc⟩
  have h2 := hsh ⟨c / 16, by omega⟩
  simp only at h1 h2
  unfold byte
  rw [show (8 : Nat) = 4 + 4 from rfl, st_add, h1, ← BitVec.xor_assoc, st_xor 4 (r ^^^ _), h2]
/-- bytes, one behind the other. -/
def bytes (r : BitVec 32) (l : List Nat) : BitVec 32 := l.foldl byte r
theorem bytes_nil (r : BitVec 32) : bytes r [] = r := rfl
theorem bytes_append (r : BitVec 32) (l m : List Nat) : bytes r (l ++ m) = bytes (bytes r l) m := List.foldl_append
theorem bytes_snoc (r : BitVec 32) (l : List Nat) (c : Nat) : bytes r (l ++ [c]) = byte (bytes r l) c := by rw [bytes_append]; rfl
theorem xor_cancel {a b c : BitVec 32} (h : a ^^^ c = b ^^^ c) : a = b := by
  have := congrArg (· ^^^ c) h
  simpa [BitVec.xor_assoc] using this
theorem xor_cancel' {a b c : BitVec 32} (h : c ^^^ a = c ^^^ b) : a = b := by
  rw [BitVec.xor_comm c a, BitVec.xor_comm c b] at h; exact xor_cancel h
theorem byte_inj {r s : BitVec 32} {c : Nat} (h : byte r c = byte s c) : r = s := xor_cancel (st_inj 8 h)
theorem bytes_inj (l : List Nat) : ∀ {r s : BitVec 32}, bytes r l = bytes s l → r = s := by
  induction l with
  | nil => intro r s h; exact h
  | cons c l ih => intro r s h; exact byte_inj (ih h)
/-- On: of a sum, and bytes. -/
def on (s : BitVec 32) (l : List Nat) : BitVec 32 := ~~~ bytes (~~~ s) l
theorem not_inj {a b : BitVec 32} (h : ~~~ a = ~~~ b) : a = b := by rw [← BitVec.not_not (b := a), h, BitVec.not_not]
theorem on_inj (l : List Nat) {r s : BitVec 32} (h : on r l = on s l) : r = s := not_inj (bytes_inj l (not_inj h))
theorem on_append (s : BitVec 32) (l m : List Nat) : on s (l ++ m) = on (on s l) m := by unfold on; rw [bytes_append, BitVec.not_not]
/-- four bytes, the lowest first. -/
def four (n : BitVec 32) : List Nat := [n.toNat % 256, n.toNat / 256 % 256, n.toNat / 65536 % 256, n.toNat / 16777216]
theorem st8_low (r n : BitVec 32) : st 8 (r ^^^ n) = byte r (n.toNat % 256) ^^^ (n >>> 8) := by
  have h255 : ∀ i, (BitVec.ofNat 32 (n.toNat % 256)).getLsbD i = (decide (i < 8) && n.getLsbD i) := by
    intro i
    rw [BitVec.getLsbD_ofNat, show (256 : Nat) = 2 ^ 8 from rfl, Nat.testBit_mod_two_pow]
    by_cases h : i < 32
    · simp [h, BitVec.getLsbD]
    · have h8 : ¬ i < 8 := by omega
      simp [h, h8]
  have hz : n = BitVec.ofNat 32 (n.toNat % 256) ^^^ ((n >>> 8) <<< 8) := by
    apply BitVec.eq_of_getLsbD_eq; intro i hi
    rw [BitVec.getLsbD_xor, h255]
    simp only [BitVec.getLsbD_shiftLeft, BitVec.getLsbD_ushiftRight]
    by_cases h8 : i < 8
    · simp [h8]
    · have h1 : 8 + (i - 8) = i := by omega
      rw [h1]; simp [h8, hi]
  have hs : st 8 ((n >>> 8) <<< 8) = n >>> 8 := by
    rw [st_shift]
    · apply BitVec.eq_of_getLsbD_eq; intro i hi
      simp only [BitVec.getLsbD_shiftLeft, BitVec.getLsbD_ushiftRight]
      by_cases h28 : 8 + i < 32
      · have h1 : 8 + (8 + i - 8) = 8 + i := by omega
        rw [h1]; simp [h28]
      · have : n.getLsbD (8 + i) = false := BitVec.getLsbD_of_ge _ _ (by omega)
        simp [h28, this]
    · intro i hi; simp only [BitVec.getLsbD_shiftLeft]; simp [hi]
  have h := congrArg (fun m => st 8 (r ^^^ m)) hz
  rw [h, ← BitVec.xor_assoc, st_xor, hs]; rfl
theorem two_bytes (r : BitVec 32) (x y : Nat) (hx : x < 256) (hy : y < 256) : byte (byte r x) y = st 16 (r ^^^ BitVec.ofNat 32 (x + 256 * y)) := by
  have hn : (BitVec.ofNat 32 (x + 256 * y)).toNat = x + 256 * y := by rw [BitVec.toNat_ofNat]; omega
  rw [show (16 : Nat) = 8 + 8 from rfl, st_add, st8_low, hn]
  have h1 : (x + 256 * y) % 256 = x := by omega
  have h2 : BitVec.ofNat 32 (x + 256 * y) >>> 8 = BitVec.ofNat 32 y := by
    apply BitVec.eq_of_toNat_eq
    rw [BitVec.toNat_ushiftRight, hn, BitVec.toNat_ofNat, Nat.shiftRight_eq_div_pow]; omega
  rw [h1, h2]; rfl
theorem swap_two (r : BitVec 32) (x y : Nat) (hx : x < 256) (hy : y < 256) (h : byte (byte r x) y = byte (byte r y) x) : x = y := by
  rw [two_bytes r x y hx hy, two_bytes r y x hy hx] at h
  have := congrArg BitVec.toNat (xor_cancel' (st_inj 16 h))
  rw [BitVec.toNat_ofNat, BitVec.toNat_ofNat] at this
  omega
theorem four_bytes (r n : BitVec 32) : bytes r (four n) = st 32 (r ^^^ n) := by
  have d8 : (n >>> 8).toNat = n.toNat / 256 := by rw [BitVec.toNat_ushiftRight, Nat.shiftRight_eq_div_pow]
  have d16 : (n >>> 8 >>> 8).toNat = n.toNat / 65536 := by rw [BitVec.toNat_ushiftRight, Nat.shiftRight_eq_div_pow, d8, Nat.div_div_eq_div_mul]
  have d24 : (n >>> 8 >>> 8 >>> 8).toNat = n.toNat / 16777216 := by rw [BitVec.toNat_ushiftRight, Nat.shiftRight_eq_div_pow, d16, Nat.div_div_eq_div_mul]
  have d32 : n >>> 8 >>> 8 >>> 8 >>> 8 = 0#32 := by
    apply BitVec.eq_of_toNat_eq
    rw [BitVec.toNat_ushiftRight, Nat.shiftRight_eq_div_pow, d24]
    have := n.isLt
    simp; omega
  have hl : n.toNat / 16777216 % 256 = n.toNat / 16777216 := by have := n.isLt; omega
  have e : st 32 (r ^^^ n) = st (8 + (8 + (8 + 8))) (r ^^^ n) := rfl
  rw [e, st_add, st8_low, st_add, st8_low, st_add, st8_low, st8_low, d8, d16, d24, d32, hl, BitVec.xor_zero]
  rfl
/-- what leads to a state in 32 steps. -/
theorem hit (r y : BitVec 32) : bytes r (four (r ^^^ uns 32 y)) = y := by
  rw [four_bytes, ← BitVec.xor_assoc, BitVec.xor_self, BitVec.zero_xor, st_uns]
theorem hit_only (r m n : BitVec 32) (h : bytes r (four m) = bytes r (four n)) : m = n := by
  rw [four_bytes, four_bytes] at h; exact xor_cancel' (st_inj 32 h)
theorem bytes_zeros (k : Nat) : bytes 0#32 (List.replicate k 0) = 0#32 := by
  induction k with
  | zero => rfl
  | succ k ih =>
    rw [List.replicate_succ]
    have e : byte 0#32 0 = 0#32 := by decide
    show bytes (byte 0#32 0) (List.replicate k 0) = 0#32; rw [e, ih]
theorem on_first : on 0#32 [255, 255, 255, 255] = 4294967295#32 := by decide +kernel
theorem on_more (k : Nat) : on 0#32 ([255, 255, 255, 255] ++ List.replicate k 0) = 4294967295#32 := by
  have h : bytes (~~~ 0#32) [255, 255, 255, 255] = 0#32 := by decide +kernel
  unfold on; rw [bytes_append, h, bytes_zeros]; decide
end Crc
namespace Crc
theorem st_last (n : Nat) : ∀ x, st (n + 1) x = st1 (st n x) := by
  induction n with
  | zero => intro x; rfl
  | succ n ih => intro x; rw [st_succ, ih, st_succ]
theorem toNat_lt (x : BitVec 32) : x.toNat < 4294967296 := x.isLt
theorem st1_yes (x : BitVec 32) (h : x.toNat % 2 = 1) : (st1 x).toNat = x.toNat / 2 ^^^ 3988292384 := by
  have h0 : x.getLsbD 0 = true := by simp [BitVec.getLsbD, Nat.testBit_zero, h]
  unfold st1; rw [h0]; simp only [if_true]
  rw [BitVec.toNat_xor, BitVec.toNat_ushiftRight, Nat.shiftRight_eq_div_pow]; rfl
theorem st1_no (x : BitVec 32) (h : ¬ x.toNat % 2 = 1) : (st1 x).toNat = x.toNat / 2 := by
  have h0 : x.getLsbD 0 = false := by simp [BitVec.getLsbD, Nat.testBit_zero]; omega
  unfold st1; rw [h0]; simp only [Bool.false_eq_true, if_false]
  rw [BitVec.toNat_ushiftRight, Nat.shiftRight_eq_div_pow]
end Crc
