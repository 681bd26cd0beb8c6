/- nums.GetFour. -/
import Derived.Test.YtmfmampcgadjhaaBack
namespace Go.Proofs.Ytmfmampcgadjhaa
open Go.RowKit Go.Shelf Go.Proofs.YtmfmampcgadjhaaW.PrintWords
attribute [local go_sem] Oper.semAt_some
/-- four bytes as a number, the lowest first. -/
def fourN (f : Nat → Nat) : Nat := ((f 3 * 256 + f 2) * 256 + f 1) * 256 + f 0
def four (bs : List UInt8) : Nat × Nat := if bs.length < 4 then (0, 5) else (fourN (fun i => (bs.getD i 0).toNat), 0)
def tup2 (r : Nat × Nat) : Value := .tuple #[.int .u32 (r.1 : Int), .int .i64 (r.2 : Int)]
def acc (f : Nat → Nat) (pre : List Nat) : Nat := pre.foldl (fun n x => n * 256 + f x) 0
theorem acc_snoc (f : Nat → Nat) (pre : List Nat) (x : Nat) : acc f (pre ++ [x]) = acc f pre * 256 + f x := by simp [acc]
theorem acc_down (f : Nat → Nat) : acc f (down 0) = fourN f := by
  have hd : down 0 = [3, 2, 1, 0] := by decide
  rw [hd]
  simp [acc, fourN]
theorem acc_gen (f : Nat → Nat) (hf : ∀ x, f x < 256) : ∀ (l : List Nat) (n k : Nat), n < 256 ^ k → l.foldl (fun n x => n * 256 + f x) n < 256 ^ (k + l.length)
  | [], n, k, h => by simpa using h
  | x :: l, n, k, h => by
    have hx := hf x
    have h1 : n * 256 + f x < 256 ^ (k + 1) := by rw [Nat.pow_succ]; omega
    have := acc_gen f hf l _ _ h1
    rw [List.foldl_cons, List.length_cons, show k + (l.length + 1) = k + 1 + l.length by omega]
    exact this
theorem acc_lt (f : Nat → Nat) (hf : ∀ x, f x < 256) (pre : List Nat) : acc f pre < 256 ^ pre.length := by
  have := acc_gen f hf pre 0 0 (by simp)
  simpa [acc] using this
theorem acc_small {f : Nat → Nat} (hf : ∀ x, f x < 256) {pre : List Nat} (h : pre.length < 4) : acc f pre < 16777216 := by
  have h1 := acc_lt f hf pre
  have h2 : 256 ^ pre.length ≤ 256 ^ 3 := Nat.pow_le_pow_right (by omega) (by omega)
  have e : (256 : Nat) ^ 3 = 16777216 := by decide
  omega
theorem or_byte {n c : Nat} (hn : n < 16777216) (hc : c < 256) : bits .or .u32 ((n : Int) * 256) (c : Int) = ((n * 256 + c : Nat) : Int) := by
  rw [show (n : Int) * 256 = ((n * 256 : Nat) : Int) from (Int.natCast_mul n 256).symm, u32_or_nat (n * 256) c (by omega) (by omega)]
  have h := Nat.two_pow_add_eq_or_of_lt (i := 8) (b := c) (by omega) n
  rw [show (2 : Nat) ^ 8 = 256 from rfl] at h
  rw [Nat.mul_comm n 256, ← h]
theorem back21_any (A : Option Addr) (len cap : Nat) (w : World) :
    Calls Try.prog 21 #[.slice A len cap] w fun e w' => e = .returned (.func (.func 23) #[] #[.pointer (some ⟨w.heap.size, 0, none⟩)]) ∧ w' = w.alloc (.cells #[.slice A len cap] 22) := by
  go_enter Try.func21, Try.ntmps21
  go_wp2
  go_ret
  exact ⟨rfl, rfl⟩
theorem back_stops (F : Fence) (n : Nat) (h23 : F.fn 23) (hro : F.round = none) (hn : 1 ≤ n) (Bs n₀ b off cap : Nat) (f : Nat → Nat) (w : World) (hb : b < n₀) (hBs : Bs < w.heap.size) (hn₀ : n₀ ≤ w.heap.size)
    (hc : w.cell? ⟨Bs, 0, none⟩ = some (.slice (some ⟨b, off, none⟩) 4 cap)) (hI : ∀ j, j < 4 → w.cell? ⟨b, off + j, none⟩ = some (.int .u8 (f j : Int))) :
    SeqStopsK F n Try.prog 23 #[.pointer (some ⟨Bs, 0, none⟩)] (encB f) (Kq n₀ Bs) (fun ys => ys = down 0) (fun pre => pre <+: down 0) 4 w := fun l J Jx W hW _ _ hY h0 =>
  back_in F n h23 hro hn l Bs n₀ b off cap f hb J Jx hY W ((hW.cell (p := ⟨Bs, 0, none⟩) hBs).trans hc) (fun j hj => (hW.cell (p := ⟨b, off + j, none⟩) (Nat.lt_of_lt_of_le hb hn₀)).trans (hI j hj)) h0
theorem res_four (tmps : Array Value) (w : World) (g : Nat) (v : Value) (hp : tmps.getD 2 undef = .pointer (some ⟨g, 0, none⟩)) (hc : w.cell? ⟨g, 0, none⟩ = some v) : (results Try.f11 tmps).run Try.prog w = .ok (.tuple #[v, tmps.getD 3 undef]) w := by
  rw [results_cell_tmp (p := 2) (u := 3) (ty := 28) rfl, hp]
  simp [asAddr, loadVar, isAgg, go_sem, hc]
set_option maxRecDepth 100000 in
set_option maxHeartbeats 2000000 in
theorem four_in (b off n cap : Nat) (f : Nat → Nat) (hf : ∀ x, f x < 256) (h4 : 4 ≤ n) (hcap : n ≤ cap) (hmax : n ≤ 9223372036854775807) (w : World) (hb : b < w.heap.size) (hI : ∀ j, j < 4 → w.cell? ⟨b, off + j, none⟩ = some (.int .u8 (f j : Int))) :
    CallsIn Fence.wide 4 Try.prog 11 #[.slice (some ⟨b, off, none⟩) n cap] w fun e w' => e = .returned (tup2 (fourN f, 0)) ∧ Below w.heap.size w w' := by
  have h1 : 1 ≤ 4 := by omega
  have d1 : decide ((n : Int) < 4) = false := by simp; omega
  refine callsIn_of_wp_marks Try.func11 rfl trivial ?_ rfl
  simp only [Try.ntmps11, List.size_toArray, List.length_cons, List.length_nil, Nat.reduceAdd, Nat.reduceSub, Array.replicate_succ, Array.replicate_zero, List.push_toArray, List.append_toArray, List.nil_append, List.cons_append]
  gi_wp2_with (first | (refine ⟨trivial, ?_⟩; gi_at_call 21; refine (callsIn_wide.2 (back21_any _ _ _ _)).mono ?_; rintro e w' ⟨rfl, rfl⟩))
  have bN := Boxed.new w 28 (.int .u32 0)
  have bS := Boxed.new (w.alloc (.cells #[.int .u32 0] 28)) 22 (.slice (some ⟨b, off, none⟩) 4 cap)
  simp only [World.size_alloc] at bN bS
  have hB0 : Below w.heap.size w ((w.alloc (.cells #[.int .u32 0] 28)).alloc (.cells #[.slice (some ⟨b, off, none⟩) 4 cap] 22)) :=
    ((Below.refl _ w).alloc (Nat.le_refl _) _).alloc (by simp) _
  refine wpIn_rangeFunc_ownG rfl h1 (gf := 23) (lb := #[.pointer (some ⟨w.heap.size + 1, 0, none⟩)]) rfl trivial (enters_of Try.func23 (by kernel_rfl) rfl)
    (back_stops Fence.wide (4 - 1) trivial rfl (by omega) (w.heap.size + 1) w.heap.size b off cap f _ hb (by simp) (by simp; omega) bS.cell (fun j hj => (hB0.cell (p := ⟨b, off + j, none⟩) hb).trans (hI j hj))) kq_t (kq_b (by simp; omega) (by simp)) (Below.refl _ _) (fun _ => rfl)
    (fun pre W => (W.cell? ⟨w.heap.size, 0, none⟩ = some (.int .u32 ((acc f pre : Nat) : Int)) ∧ W.frozen? ⟨w.heap.size, 0, none⟩ = false) ∧ Below w.heap.size w W)
    (fun _ _ _ => False)
    (OwnFrom.and (Own.from (fun s A B row hs hg hr => ⟨cell_kept hs.1 hg hr, (frozen_kept hs.1 hg hr).trans hs.2⟩) _) (ownFrom_below (Nat.le_refl _) (by simp; omega)))
    (fun _ _ _ _ _ hs _ _ => hs)
    ⟨⟨(bN.alloc _).cell, (bN.alloc _).frozen⟩, hB0⟩
    (fun x => { tmps := #[.slice (some ⟨b, off, none⟩) n cap, undef, .pointer (some ⟨w.heap.size, 0, none⟩), .int .i64 0, undef, .int .u8 (f x : Int), .slice (some ⟨b, off, none⟩) n cap, .int .i64 n, .bool false, .slice (some ⟨b, off, none⟩) n cap, .slice (some ⟨b, off, none⟩) 4 cap, .func (.func 23) #[] #[.pointer (some ⟨w.heap.size + 1, 0, none⟩)], .int .i64 (x : Int), .int .u8 (f x : Int), undef, undef, undef, undef, undef, undef], defers := [] }) ?assign ?body ?done ?stop
  case assign =>
    intro l x W K hK
    simp only [encB]
    gi_wp2
    exact hK
  case body =>
    clear bN bS
    rintro l pre x W ⟨⟨hc, hfz⟩, hB⟩ hpl
    have hlt := acc_small hf hpl
    have hs := acc_snoc f pre x
    generalize acc f pre = m at hc hlt hs
    have hfx := hf x
    have ho := or_byte hlt hfx
    have HS := Lib.hid hs
    have HO := Lib.hid ho
    clear hs ho hpl
    generalize f x = c at *
    gi_wp2
    refine ⟨(KeepsOthers.setCell _ _ _).from _, ⟨(Below.refl _ W).setCell (p := ⟨w.heap.size, 0, none⟩) (by simp) _, Below.heap_setCell _ _ _ _ (by simp)⟩, ⟨⟨?_, (World.frozen?_setCell W _ _ _).trans hfz⟩, hB.setCell (p := ⟨w.heap.size, 0, none⟩) (by simp) _⟩⟩
    rw [HS.out, ← HO.out]
    exact World.cell?_setCell_same' W _ _ (by rw [hc]; rfl)
  case done =>
    rintro D ys W hD rfl ⟨⟨hc, hfz⟩, hB⟩ hK
    rw [acc_down] at hc
    obtain ⟨m, hm⟩ : ∃ m, m = fourN f := ⟨_, rfl⟩
    rw [← hm] at hc
    have HM := Lib.hid hm
    clear hm
    gi_wp2
    have hD' : w.heap.size + 1 + 1 ≤ D := by simpa using hD
    have hK' : (W.setCell ⟨w.heap.size, 0, none⟩ (.int .u32 (m : Int))).heap[D]? = some (.deferred (some [])) := (Below.heap_setCell _ _ _ _ (by simp; omega)).trans hK
    refine ⟨by simp, .inl ⟨_, _, rfl, run_takeDeferred hK', ?_⟩⟩
    have hB2 : Below w.heap.size w (W.setCell ⟨w.heap.size, 0, none⟩ (.int .u32 (m : Int))) := hB.setCell (p := ⟨w.heap.size, 0, none⟩) (by simp) _
    have hc2 : (W.setCell ⟨w.heap.size, 0, none⟩ (.int .u32 (m : Int))).cell? ⟨w.heap.size, 0, none⟩ = some (.int .u32 (m : Int)) := World.cell?_setCell_same' W _ _ (by rw [hc]; rfl)
    have hlt2 : D < (W.setCell ⟨w.heap.size, 0, none⟩ (.int .u32 (m : Int))).heap.size := (Array.getElem?_eq_some_iff.1 hK').1
    have hc3 : ((W.setCell ⟨w.heap.size, 0, none⟩ (.int .u32 (m : Int))).putObj D (.deferred none)).cell? ⟨w.heap.size, 0, none⟩ = some (.int .u32 (m : Int)) :=
      (World.cell?_of_block ((grownBy_putObj' _ D _).block w.heap.size (by omega) (by simp; omega))).trans hc2
    exact ⟨_, res_four _ _ w.heap.size _ rfl hc3, by rw [← HM.out]; rfl, hB2.trans (belowK_b (w := w) (Nat.le_refl _) _ D _ _ (by omega) hK' rfl rfl)⟩
  case stop =>
    rintro D c pre W _ _ h _
    exact h.elim
theorem four_short (A : Option Addr) (n cap : Nat) (h4 : n < 4) (w : World) : Calls Try.prog 11 #[.slice A n cap] w fun e w' => e = .returned (tup2 (0, 5)) ∧ Below w.heap.size w w' := by
  have d1 : decide ((n : Int) < 4) = true := by simp; omega
  have hc := (Boxed.new w 28 (.int .u32 0)).cell
  have HB := Lib.hid ((Below.refl _ w).alloc (Nat.le_refl _) (.cells #[.int .u32 0] 28))
  have HC := Lib.hid hc
  clear hc
  go_enter Try.func11, Try.ntmps11
  go_wp2
  exact bodyPost_ret (res_four _ _ w.heap.size _ rfl HC.out) rfl ⟨rfl, HB.out⟩
theorem four_any (A : Option Addr) (n cap : Nat) (bs : List UInt8) (hn : n = bs.length) (hcap : n ≤ cap) (w : World) (hI : Bytes w w.heap.size A bs) : Calls Try.prog 11 #[.slice A n cap] w fun e w' => e = .returned (tup2 (four bs)) ∧ Below w.heap.size w w' := by
  unfold four
  by_cases h : bs.length < 4
  · rw [if_pos h]
    exact four_short A n cap (by omega) w
  · rw [if_neg h]
    obtain ⟨b, off, rfl, hb, hc⟩ := hI.2 (by omega)
    have hmax := hI.1
    exact callsIn_wide.1 (four_in b off n cap (fun i => (bs.getD i 0).toNat) (fun x => (bs.getD x 0).toNat_lt) (by omega) hcap (by omega) w hb (fun j hj => by
      rw [hc j (by omega)]
      simp [List.getD, List.getElem?_eq_getElem (show j < bs.length by omega)]))
end Go.Proofs.Ytmfmampcgadjhaa
