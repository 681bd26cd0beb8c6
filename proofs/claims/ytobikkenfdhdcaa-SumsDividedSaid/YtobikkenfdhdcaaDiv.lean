/- Plain laws: the division of a row of bits, as the document's reference carries it out, leaves what the states leave. No program in sight. -/
import Derived.Test.YtobikkenfdhdcaaCrc
namespace Crc
def b2i (b : Bool) : Int := if b then 1 else 0
/-- a row of bits as whole numbers. -/
def row (f : Nat → Bool) (n : Nat) : List Int := (List.range n).map fun j => b2i (f j)
theorem row_length (f : Nat → Bool) (n : Nat) : (row f n).length = n := by simp [row]
theorem row_get (f : Nat → Bool) (n j : Nat) (h : j < n) : (row f n).getD j 0 = b2i (f j) := by simp [row, h]
theorem row_ext {f g : Nat → Bool} {n : Nat} (h : ∀ j, j < n → f j = g j) : row f n = row g n := by
  unfold row
  apply List.map_congr_left
  intro j hj
  rw [h j (by simpa using hj)]
theorem row_succ (f : Nat → Bool) (n : Nat) : row f (n + 1) = row f n ++ [b2i (f n)] := by simp [row, List.range_succ]
theorem b2i_not (b : Bool) : 1 - b2i b = b2i (!b) := by cases b <;> rfl
theorem b2i_one (b : Bool) : b2i b = 1 ↔ b = true := by cases b <;> simp [b2i]
/-- the first i places turned where p says so. -/
def turn (p : Nat → Bool) (i : Nat) (f : Nat → Bool) : Nat → Bool := fun j => f j ^^ (decide (j < i) && p j)
theorem turn_zero (p : Nat → Bool) (f : Nat → Bool) (i : Nat) (h : ∀ j, j < i → p j = false) : turn p i f = f := by
  funext j
  unfold turn
  by_cases hj : j < i
  · rw [h j hj]; simp
  · simp [hj]
theorem turn_no (p : Nat → Bool) (f : Nat → Bool) (i : Nat) (h : p i = false) : turn p (i + 1) f = turn p i f := by
  funext j
  unfold turn
  by_cases hj : j = i
  · subst hj; rw [h]; simp
  · have : decide (j < i + 1) = decide (j < i) := by
      by_cases h2 : j < i
      · simp [h2]; omega
      · simp [h2]; omega
    rw [this]
theorem turn_yes (p : Nat → Bool) (f : Nat → Bool) (i n : Nat) (h : p i = true) : (row (turn p i f) n).set i (b2i (!(turn p i f i))) = row (turn p (i + 1) f) n := by
  apply List.ext_getElem
  · simp [row]
  · intro j h1 h2
    simp [row] at h2
    rw [List.getElem_set]
    simp only [row, List.getElem_map, List.getElem_range]
    by_cases hj : i = j
    · subst hj
      rw [if_pos rfl]
      congr 1
      unfold turn; rw [h]; simp
    · rw [if_neg hj]
      congr 1
      unfold turn
      have : decide (j < i + 1) = decide (j < i) := by
        by_cases h3 : j < i
        · simp [h3]; omega
        · simp [h3]; omega
      rw [this]
/-- the divisor's bits behind place a. -/
def pD (a : Nat) : Nat → Bool := fun j => decide (a + 1 ≤ j) && D.getLsbD (j - (a + 1))
/-- a step of the division at place a; the first a steps. -/
def dstep (a : Nat) (f : Nat → Bool) : Nat → Bool := if f a then turn (pD a) (a + 33) f else f
def dsteps : Nat → (Nat → Bool) → Nat → Bool
  | 0, f => f
  | a + 1, f => dstep a (dsteps a f)
/-- the state as the bits come in from below. -/
def feed (c : BitVec 32) (b : Bool) : BitVec 32 := st1 (c ^^^ BitVec.ofNat 32 b.toNat)
def feeds (m : Nat → Bool) : Nat → BitVec 32 → BitVec 32
  | 0, c => c
  | a + 1, c => feed (feeds m a c) (m a)
theorem bit0 (b : Bool) (i : Nat) : (BitVec.ofNat 32 b.toNat).getLsbD i = (decide (i = 0) && b) := by
  cases b
  · simp
  · have : (BitVec.ofNat 32 true.toNat) = 1#32 := rfl
    rw [this, BitVec.getLsbD_one]
    simp
theorem feed_bit (c : BitVec 32) (b : Bool) (i : Nat) (hi : i < 32) : (feed c b).getLsbD i = ((decide (i + 1 < 32) && c.getLsbD (i + 1)) ^^ (D.getLsbD i && (c.getLsbD 0 ^^ b))) := by
  have h0 : (c ^^^ BitVec.ofNat 32 b.toNat).getLsbD 0 = (c.getLsbD 0 ^^ b) := by rw [BitVec.getLsbD_xor, bit0]; simp
  have h1 : ((c ^^^ BitVec.ofNat 32 b.toNat) >>> 1).getLsbD i = (decide (i + 1 < 32) && c.getLsbD (i + 1)) := by
    rw [BitVec.getLsbD_ushiftRight, BitVec.getLsbD_xor, bit0, Nat.add_comm 1 i]
    by_cases h : i + 1 < 32
    · simp [h]
    · have : c.getLsbD (i + 1) = false := BitVec.getLsbD_of_ge _ _ (by omega)
      simp [this]
  unfold feed st1
  rw [h0]
  cases (c.getLsbD 0 ^^ b)
  · simp only [Bool.false_eq_true, if_false, h1]; simp
  · simp only [if_true, BitVec.getLsbD_xor, h1]; simp
theorem dsteps_states (m : Nat → Bool) (c : BitVec 32) (f : Nat → Bool) (hf : ∀ j, f j = (m j ^^ (decide (j < 32) && c.getLsbD j))) (a : Nat) :
    ∀ j, a ≤ j → dsteps a f j = (m j ^^ (decide (j < a + 32) && (feeds m a c).getLsbD (j - a))) := by
  induction a with
  | zero => intro j _; simp only [dsteps, feeds, Nat.zero_add, Nat.sub_zero]; exact hf j
  | succ a ih =>
    intro j hj
    have ha := ih a (Nat.le_refl _)
    have h00 : dsteps a f a = (m a ^^ (feeds m a c).getLsbD 0) := by rw [ha]; simp
    have hjj := ih j (by omega)
    show dstep a (dsteps a f) j = _
    show _ = (m j ^^ (decide (j < a + 1 + 32) && (feed (feeds m a c) (m a)).getLsbD (j - (a + 1))))
    obtain ⟨i, rfl⟩ : ∃ i, j = a + 1 + i := ⟨j - (a + 1), by omega⟩
    have e1 : a + 1 + i - (a + 1) = i := by omega
    have e2 : a + 1 + i - a = i + 1 := by omega
    rw [e1]
    rw [e2] at hjj
    have hd : dstep a (dsteps a f) (a + 1 + i) = (dsteps a f (a + 1 + i) ^^ (dsteps a f a && (decide (i < 32) && D.getLsbD i))) := by
      unfold dstep
      cases h : dsteps a f a
      · simp
      · simp only [if_true, turn, pD, e1]
        have : decide (a + 1 ≤ a + 1 + i) = true := by simp
        rw [this]
        have : decide (a + 1 + i < a + 33) = decide (i < 32) := by
          by_cases h3 : i < 32
          · simp [h3]; omega
          · simp [h3]; omega
        rw [this]; simp
    rw [hd, hjj, h00]
    by_cases hi : i < 32
    · rw [feed_bit _ _ _ hi]
      have t1 : decide (a + 1 + i < a + 1 + 32) = true := by simp; omega
      have t2 : decide (a + 1 + i < a + 32) = decide (i + 1 < 32) := by
        by_cases h3 : i + 1 < 32
        · simp [h3]; omega
        · simp [h3]; omega
      rw [t1, t2]
      simp only [hi, decide_true, Bool.true_and]
      cases m (a + 1 + i) <;> cases m a <;> cases (feeds m a c).getLsbD 0 <;> cases (feeds m a c).getLsbD (i + 1) <;> cases D.getLsbD i <;> cases decide (i + 1 < 32) <;> rfl
    · have t1 : decide (a + 1 + i < a + 1 + 32) = false := by simp; omega
      have t2 : decide (a + 1 + i < a + 32) = false := by simp; omega
      have t3 : decide (i < 32) = false := by simp; omega
      rw [t1, t2, t3]; simp
/-- eight bits of a byte. -/
theorem feed_byte (m : Nat → Bool) (c : BitVec 32) (x : Nat) (hm : ∀ k, k < 8 → m k = x.testBit k) (k : Nat) (hk : k ≤ 8) : feeds m k c = st k (c ^^^ BitVec.ofNat 32 (x % 2 ^ k)) := by
  induction k with
  | zero => simp [feeds, st, Nat.mod_one]
  | succ k ih =>
    show feed (feeds m k c) (m k) = _
    rw [ih (by omega), feed, hm k (by omega), st_last]
    congr 1
    have hs : st k (BitVec.ofNat 32 ((x.testBit k).toNat * 2 ^ k)) = BitVec.ofNat 32 (x.testBit k).toNat := by
      have hlt : (x.testBit k).toNat * 2 ^ k < 2 ^ 32 := by
        have h1 : 2 ^ k ≤ 2 ^ 7 := Nat.pow_le_pow_right (by omega) (by omega)
        cases x.testBit k <;> simp; omega
      rw [st_shift]
      · apply BitVec.eq_of_toNat_eq
        rw [BitVec.toNat_ushiftRight, BitVec.toNat_ofNat, Nat.mod_eq_of_lt hlt, Nat.shiftRight_eq_div_pow, Nat.mul_div_cancel _ (Nat.two_pow_pos k), BitVec.toNat_ofNat]
        cases x.testBit k <;> rfl
      · intro i hi
        rw [BitVec.getLsbD_ofNat, Nat.mul_comm, Nat.testBit_two_pow_mul]
        simp; intro _ h2; omega
    rw [← hs, ← st_xor]
    congr 1
    rw [BitVec.xor_assoc]
    congr 1
    apply BitVec.eq_of_getLsbD_eq
    intro i hi
    rw [BitVec.getLsbD_xor, BitVec.getLsbD_ofNat, BitVec.getLsbD_ofNat, BitVec.getLsbD_ofNat, Nat.testBit_mod_two_pow, Nat.testBit_mod_two_pow, Nat.mul_comm, Nat.testBit_two_pow_mul]
    by_cases h1 : i < k
    · have : ¬ i ≥ k := by omega
      simp [h1, hi, this]; omega
    · by_cases h2 : i = k
      · subst h2
        simp [hi]
        cases x.testBit i <;> simp
      · have h3 : ¬ i < k + 1 := by omega
        have h4 : (x.testBit k).toNat.testBit (i - k) = false := by
          apply Nat.testBit_lt_two_pow
          have : 2 ^ 1 ≤ 2 ^ (i - k) := Nat.pow_le_pow_right (by omega) (by omega)
          cases x.testBit k <;> simp <;> omega
        simp [h1, h3, h4]
theorem feeds_more (m : Nat → Bool) (a b : Nat) (c : BitVec 32) : feeds m (a + b) c = feeds (fun j => m (a + j)) b (feeds m a c) := by
  induction b with
  | zero => rfl
  | succ b ih => show feed (feeds m (a + b) c) (m (a + b)) = _; rw [ih]; rfl
/-- the bits of bytes; noughts behind them. -/
def mbit (l : List Nat) (j : Nat) : Bool := (l.getD (j / 8) 0).testBit (j % 8)
theorem mbit_out (l : List Nat) (j : Nat) (h : 8 * l.length ≤ j) : mbit l j = false := by
  unfold mbit
  have : l.getD (j / 8) 0 = 0 := by simp [List.getElem?_eq_none (show l.length ≤ j / 8 by omega)]
  rw [this]; simp
theorem feeds_bytes (l : List Nat) (hl : ∀ x ∈ l, x < 256) (c : BitVec 32) (n : Nat) (hn : n ≤ l.length) : feeds (mbit l) (8 * n) c = bytes c (l.take n) := by
  induction n with
  | zero => rfl
  | succ n ih =>
    have hlt : n < l.length := by omega
    rw [show 8 * (n + 1) = 8 * n + 8 from by omega, feeds_more, ih (by omega), List.take_succ_eq_append_getElem hlt, bytes_snoc]
    have hx := hl l[n] (List.getElem_mem hlt)
    rw [feed_byte _ _ l[n] _ 8 (Nat.le_refl _)]
    · unfold byte
      rw [Nat.mod_eq_of_lt (by omega)]
    · intro k hk
      unfold mbit
      have e1 : (8 * n + k) / 8 = n := by omega
      have e2 : (8 * n + k) % 8 = k := by omega
      rw [e1, e2]; simp [hlt]
/-- the row ahead of the division. -/
def first (c : BitVec 32) (l : List Nat) : Nat → Bool := fun j => mbit l j ^^ (decide (j < 32) && c.getLsbD j)
theorem left_bits (c : BitVec 32) (l : List Nat) (hl : ∀ x ∈ l, x < 256) (i : Nat) (hi : i < 32) :
    dsteps (8 * l.length) (first c l) (8 * l.length + i) = (bytes c l).getLsbD i := by
  rw [dsteps_states (mbit l) c (first c l) (fun _ => rfl) _ _ (by omega), mbit_out _ _ (by omega), feeds_bytes l hl c l.length (Nat.le_refl _), List.take_length]
  have : decide (8 * l.length + i < 8 * l.length + 32) = true := by simp; omega
  rw [this, Nat.add_sub_cancel_left]; simp
theorem bit_up (x i : Nat) : 2 * (x / 2 ^ (i + 1)) + (x.testBit i).toNat = x / 2 ^ i := by
  rw [Nat.testBit_eq_decide_div_mod_eq, Nat.pow_succ, ← Nat.div_div_eq_div_mul]
  by_cases h : x / 2 ^ i % 2 = 1
  · simp [h]; omega
  · simp [h]; omega
theorem sum_up (c : BitVec 32) (i : Nat) (hi : i < 32) : 2 * ((~~~ c).toNat / 2 ^ (i + 1)) + (!(c.getLsbD i)).toNat = (~~~ c).toNat / 2 ^ i := by
  have h : (~~~ c).toNat.testBit i = !(c.getLsbD i) := by
    have : (~~~ c).getLsbD i = !(c.getLsbD i) := by rw [BitVec.getLsbD_not]; simp [hi]
    rw [← this]; rfl
  rw [← h]; exact bit_up _ _
theorem dstep_no {a : Nat} {f : Nat → Bool} (h : dsteps a f a = false) : dsteps (a + 1) f = dsteps a f := by
  show dstep a (dsteps a f) = _
  unfold dstep; rw [h]; rfl
theorem dstep_yes {a : Nat} {f : Nat → Bool} (h : dsteps a f a = true) : dsteps (a + 1) f = turn (pD a) (a + 33) (dsteps a f) := by
  show dstep a (dsteps a f) = _
  unfold dstep; rw [h]; rfl
theorem turn_start (a : Nat) (f : Nat → Bool) : turn (pD a) (a + 1) f = f := turn_zero _ _ _ (fun j hj => by unfold pD; simp; omega)
end Crc
