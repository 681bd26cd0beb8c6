/- The program's sum of bytes (sums.On, sums.Of): its answer is the division's remainder. -/
import Derived.Test.YtobikkenfdhdcaaHalves
import Derived.Shelf.RegionOpen
import Derived.BigRegionIn
namespace Go.Proofs.Ytobikkenfdhdcaa
open Go.RowKit Go.Shelf Go.Proofs.YtobikkenfdhdcaaW.PrintWords
attribute [local go_sem] Oper.semAt_some
/-- four bits more. -/
def nib (r : BitVec 32) (n : Fin 16) : BitVec 32 := Crc.st 4 (r ^^^ BitVec.ofNat 32 n.val)
def run (r : BitVec 32) (l : List (Fin 16)) : BitVec 32 := l.foldl nib r
theorem run_snoc (r : BitVec 32) (l : List (Fin 16)) (n : Fin 16) : run r (l ++ [n]) = nib (run r l) n := by simp [run]
theorem run_nibs (bs : List UInt8) : ∀ r, run r (nibs bs) = Crc.bytes r (nats bs) := by
  induction bs with
  | nil => intro r; rfl
  | cons b bs ih =>
    intro r
    have hb := b.toNat_lt
    have h2 : nibs (b :: bs) = halves2 b ++ nibs bs := by simp [nibs]
    rw [h2, run, List.foldl_append]
    show run (run r (halves2 b)) (nibs bs) = Crc.bytes (Crc.byte r b.toNat) (nats bs)
    rw [ih, ← Crc.byte_halves r b.toNat (by omega)]
    rfl
theorem store_tab (W : World) (old : Array Value) (hsz : old.size = 16) : Sem.run Try.prog (storeCells ⟨W.heap.size, 0, none⟩ (tabCells 16).toList) (W.alloc (.cells old 39)) = .ok () (W.alloc (.cells (tabCells 16) 39)) := by
  have h := run_storeCells_from (P := Try.prog) W.heap.size 39 (tabCells 16).toList 0 old (W.alloc (.cells old 39)) (heap_alloc_new W _) (by rw [Array.length_toList, tab_size]; omega) (by intro v hv; simp [tabCells] at hv; obtain ⟨a, _, rfl⟩ := hv; rfl)
  rw [h, List.take_zero, List.nil_append, Array.toArray_toList]
  congr 1
  unfold World.setRow World.alloc
  congr 1
  apply Array.ext
  · simp
  · intro k h1 h2
    simp only [Array.getElem_modify]
    simp at h1
    by_cases e : W.heap.size = k
    · subst e; simp
    · have hk : k < W.heap.size := by omega
      simp [e, Array.getElem_push, hk]
theorem not_u32 (s r : BitVec 32) (h : r = ~~~ s) : bits .xor .u32 IntKind.u32.max ((s.toNat : Nat) : Int) = ((r.toNat : Nat) : Int) := by
  have e : IntKind.u32.max = ((4294967295 : Nat) : Int) := rfl
  rw [e, u32_xor_nat _ _ (by decide) s.isLt, h, ← BitVec.allOnes_xor, BitVec.toNat_xor]; rfl
theorem nib_facts (r : BitVec 32) (x : Fin 16) : ∃ m, m < 16 ∧ bits .xor .u32 ((r.toNat : Nat) : Int) ((x.val : Nat) : Int) = (((r ^^^ BitVec.ofNat 32 x.val).toNat : Nat) : Int) ∧
    bits .and .u32 (((r ^^^ BitVec.ofNat 32 x.val).toNat : Nat) : Int) 15 = ((m : Nat) : Int) ∧ bits .xor .u32 (((r.toNat : Nat) : Int) / 16) (((Crc.st 4 (BitVec.ofNat 32 m)).toNat : Nat) : Int) = (((nib r x).toNat : Nat) : Int) := by
  have hx := x.isLt
  have hxn : (BitVec.ofNat 32 x.val).toNat = x.val := by rw [BitVec.toNat_ofNat]; omega
  refine ⟨(r ^^^ BitVec.ofNat 32 x.val).toNat % 16, by omega, ?_, ?_, ?_⟩
  · rw [BitVec.toNat_xor, hxn]; exact u32_xor_nat _ _ r.isLt (by omega)
  · have h := u32_and_nat (r ^^^ BitVec.ofNat 32 x.val).toNat 15 (BitVec.isLt _) (by decide)
    rw [nat_mask4] at h; exact h
  · have hn := Crc.nib r (BitVec.ofNat 32 x.val) (by intro i hi; rw [BitVec.getLsbD_ofNat, Nat.testBit_lt_two_pow (i := i) (by have : 2 ^ 4 ≤ 2 ^ i := Nat.pow_le_pow_right (by omega) hi; omega)]; simp)
    have e : BitVec.ofNat 32 ((r ^^^ BitVec.ofNat 32 x.val).toNat % 16) = (r ^^^ BitVec.ofNat 32 x.val) &&& 15#32 := by
      apply BitVec.eq_of_toNat_eq
      rw [BitVec.toNat_ofNat, BitVec.toNat_and, show (15#32).toNat = 15 from rfl, nat_mask4]; omega
    have h := u32_xor_nat (r.toNat / 16) (Crc.st 4 (BitVec.ofNat 32 ((r ^^^ BitVec.ofNat 32 x.val).toNat % 16))).toNat (by have := r.isLt; omega) (BitVec.isLt _)
    rw [show (((r.toNat : Nat) : Int) / 16) = ((r.toNat / 16 : Nat) : Int) from by omega, h]
    unfold nib
    rw [← hn, e, BitVec.toNat_xor, BitVec.toNat_ushiftRight, Nat.shiftRight_eq_div_pow]
theorem body_end {w W : World} {B r' : Nat} {r0 r : BitVec 32} {pre : List (Fin 16)} {x : Fin 16}
    (hT : ∀ i, i < 16 → W.cell? ⟨w.heap.size + 1 + 1, i, none⟩ = some (.int .u32 (((Crc.st 4 (BitVec.ofNat 32 i)).toNat : Nat) : Int)))
    (hs : run r0 (pre ++ [x]) = nib r x) (hr : r' = (nib r x).toNat) (hc : W.cell? ⟨w.heap.size + 1, 0, none⟩ = some (.int .u32 ((r.toNat : Nat) : Int))) (hf : W.frozen? ⟨w.heap.size + 1, 0, none⟩ = false) (hB : Below w.heap.size w W) :
    KeepsFrom B W (W.setCell ⟨w.heap.size + 1, 0, none⟩ (.int .u32 ((r' : Nat) : Int))).drew ∧ Below w.heap.size W (W.setCell ⟨w.heap.size + 1, 0, none⟩ (.int .u32 ((r' : Nat) : Int))).drew ∧
      ((((W.setCell ⟨w.heap.size + 1, 0, none⟩ (.int .u32 ((r' : Nat) : Int))).drew.cell? ⟨w.heap.size + 1, 0, none⟩ = some (.int .u32 (((run r0 (pre ++ [x])).toNat : Nat) : Int)) ∧ (W.setCell ⟨w.heap.size + 1, 0, none⟩ (.int .u32 ((r' : Nat) : Int))).drew.frozen? ⟨w.heap.size + 1, 0, none⟩ = false) ∧
        ∀ i, i < 16 → (W.setCell ⟨w.heap.size + 1, 0, none⟩ (.int .u32 ((r' : Nat) : Int))).drew.cell? ⟨w.heap.size + 1 + 1, i, none⟩ = some (.int .u32 (((Crc.st 4 (BitVec.ofNat 32 i)).toNat : Nat) : Int))) ∧ Below w.heap.size w (W.setCell ⟨w.heap.size + 1, 0, none⟩ (.int .u32 ((r' : Nat) : Int))).drew) := by
  refine ⟨((KeepsOthers.setCell _ _ _).trans (KeepsOthers.drew _)).from _, ((Below.refl _ W).setCell (p := ⟨w.heap.size + 1, 0, none⟩) (by simp) _).drew, ⟨⟨?_, ?_⟩, fun i hi => ?_⟩, (hB.setCell (p := ⟨w.heap.size + 1, 0, none⟩) (by simp) _).drew⟩
  · rw [hs, ← hr]; exact World.cell?_setCell_same' W _ _ (by rw [hc]; rfl)
  · exact (World.frozen?_setCell W _ _ _).trans hf
  · exact (World.cell?_setCell_other W _ _ _ (by intro e; simp at e)).trans (hT i hi)
set_option maxRecDepth 100000 in
set_option maxHeartbeats 2000000 in
theorem on_in (s : BitVec 32) (A : Option Addr) (cap : Nat) (bs : List UInt8) (w : World) (hI : Bytes w w.heap.size A bs) :
    CallsIn Fence.wide 4 Try.prog 11 #[.int .u32 ((s.toNat : Nat) : Int), .slice A bs.length cap] w fun e w' => e = .returned (.int .u32 (((Crc.on s (nats bs)).toNat : Nat) : Int)) ∧ Below w.heap.size w w' := by
  have h1 : 1 ≤ 4 := by omega
  obtain ⟨r0, hr0⟩ : ∃ r0, r0 = ~~~ s := ⟨_, rfl⟩
  obtain ⟨o, ho⟩ : ∃ o, o = Crc.on s (nats bs) := ⟨_, rfl⟩
  have ho' : o = ~~~ run r0 (nibs bs) := by rw [ho, hr0, run_nibs]; rfl
  have HO := Lib.hid ho'
  have hn0 := not_u32 s r0 hr0
  rw [← ho]
  clear ho hr0 ho'
  have hsz := tab_size 16
  have hst := store_tab ((w.alloc (.cells (tabCells 16) 39)).alloc (.cells #[.int .u32 ((r0.toNat : Nat) : Int)] 23)) #[.int .u32 0, .int .u32 0, .int .u32 0, .int .u32 0, .int .u32 0, .int .u32 0, .int .u32 0, .int .u32 0, .int .u32 0, .int .u32 0, .int .u32 0, .int .u32 0, .int .u32 0, .int .u32 0, .int .u32 0, .int .u32 0] rfl
  simp only [World.size_alloc] at hst
  refine callsIn_of_wp_marks Try.func11 rfl trivial ?_ rfl
  simp only [Try.ntmps11, List.size_toArray, List.length_cons, List.length_nil, Nat.reduceAdd, Nat.reduceSub, Array.replicate_succ, Array.replicate_zero, List.push_toArray, List.append_toArray, List.nil_append, List.cons_append]
  gi_wp2_with (first | (refine ⟨trivial, ?_⟩; gi_at_call 17; refine (callsIn_wide.2 (made_any _)).mono ?_; rintro e w' ⟨rfl, rfl⟩) | (refine ⟨trivial, ?_⟩; gi_at_call 18; refine (callsIn_wide.2 (halves_any _ _ _ _)).mono ?_; rintro e w' ⟨rfl, rfl⟩))
  have bR := (Boxed.new (w.alloc (.cells (tabCells 16) 39)) 23 (.int .u32 ((r0.toNat : Nat) : Int)))
  have bT : ((w.alloc (.cells (tabCells 16) 39)).alloc (.cells #[.int .u32 ((r0.toNat : Nat) : Int)] 23)).alloc (.cells (tabCells 16) 39) = ((w.alloc (.cells (tabCells 16) 39)).alloc (.cells #[.int .u32 ((r0.toNat : Nat) : Int)] 23)).alloc (.cells (tabCells 16) 39) := rfl
  have hT : ∀ i, i < 16 → ((((w.alloc (.cells (tabCells 16) 39)).alloc (.cells #[.int .u32 ((r0.toNat : Nat) : Int)] 23)).alloc (.cells (tabCells 16) 39)).alloc (.cells #[.slice A bs.length cap] 22)).cell? ⟨w.heap.size + 1 + 1, i, none⟩ = some (.int .u32 (((Crc.st 4 (BitVec.ofNat 32 i)).toNat : Nat) : Int)) := by
    intro i hi
    refine (World.cell?_alloc_lt _ _ _ (by simp)).trans ?_
    have h := tab_cell ((w.alloc (.cells (tabCells 16) 39)).alloc (.cells #[.int .u32 ((r0.toNat : Nat) : Int)] 23)) 16 i hi
    rw [if_pos hi] at h
    simpa using h
  have bN := Boxed.new (((w.alloc (.cells (tabCells 16) 39)).alloc (.cells #[.int .u32 ((r0.toNat : Nat) : Int)] 23)).alloc (.cells (tabCells 16) 39)) 22 (.slice A bs.length cap)
  simp only [World.size_alloc] at bR bN
  have hB0 : Below w.heap.size w ((((w.alloc (.cells (tabCells 16) 39)).alloc (.cells #[.int .u32 ((r0.toNat : Nat) : Int)] 23)).alloc (.cells (tabCells 16) 39)).alloc (.cells #[.slice A bs.length cap] 22)) :=
    ((((Below.refl _ w).alloc (Nat.le_refl _) _).alloc (by simp) _).alloc (by simp; omega) _).alloc (by simp; omega) _
  refine wpIn_rangeFunc_ownG rfl h1 (gf := 20) (lb := #[.pointer (some ⟨w.heap.size + 1 + 1 + 1, 0, none⟩)]) rfl trivial (enters_of Try.func20 (by kernel_rfl) rfl)
    (halves_stops Fence.wide (4 - 1) trivial rfl (by omega) (w.heap.size + 1 + 1 + 1) w.heap.size A cap bs _ (by simp) (by simp; omega) bN.cell (hI.below hB0)) belowK_t (belowK_b (by simp; omega)) (Below.refl _ _) (fun _ => rfl)
    (fun pre W => ((W.cell? ⟨w.heap.size + 1, 0, none⟩ = some (.int .u32 (((run r0 pre).toNat : Nat) : Int)) ∧ W.frozen? ⟨w.heap.size + 1, 0, none⟩ = false) ∧ ∀ i, i < 16 → W.cell? ⟨w.heap.size + 1 + 1, i, none⟩ = some (.int .u32 (((Crc.st 4 (BitVec.ofNat 32 i)).toNat : Nat) : Int))) ∧ Below w.heap.size w W)
    (fun _ _ _ => False)
    (OwnFrom.and (Own.from (fun s A B row hs hg hr => ⟨⟨cell_kept hs.1.1 hg hr, (frozen_kept hs.1.1 hg hr).trans hs.1.2⟩, fun i hi => cell_kept (hs.2 i hi) hg hr⟩) _) (ownFrom_below (Nat.le_refl _) (by simp; omega)))
    (fun _ _ _ _ _ hs _ _ => hs)
    ⟨⟨⟨((bR.alloc _).alloc _).cell, ((bR.alloc _).alloc _).frozen⟩, hT⟩, hB0⟩
    (fun x => { tmps := #[.int .u32 ((s.toNat : Nat) : Int), .slice A bs.length cap, undef, undef, .int .u32 0, .pointer (some ⟨w.heap.size + 1, 0, none⟩), .pointer (some ⟨w.heap.size + 1 + 1, 0, none⟩), .int .u32 ((x.val : Nat) : Int), .int .u32 ((s.toNat : Nat) : Int), .int .u32 ((r0.toNat : Nat) : Int), .agg (tabCells 16), .slice A bs.length cap, .func (.func 20) #[] #[.pointer (some ⟨w.heap.size + 1 + 1 + 1, 0, none⟩)], .int .u32 ((x.val : Nat) : Int), undef, undef, undef, undef, undef, undef, undef, undef, undef, undef, undef], defers := [] }) ?assign ?body ?done ?stop
  case assign =>
    intro l x W K hK
    simp only [encN]
    gi_wp2
    exact hK
  case body =>
    clear hst hT bT bR bN
    rintro l pre x W ⟨⟨⟨hc, hf⟩, hT⟩, hB⟩ _
    obtain ⟨r, hr⟩ : ∃ r, r = run r0 pre := ⟨_, rfl⟩
    have hsn : run r0 (pre ++ [x]) = nib r x := by rw [run_snoc, hr]
    rw [← hr] at hc
    obtain ⟨m, hm, h1, h2, h3⟩ := nib_facts r x
    have hTm := hT m hm
    have HR := Lib.hid hr
    have HSn := Lib.hid hsn
    clear hr hsn
    generalize ((r ^^^ BitVec.ofNat 32 x.val).toNat : Nat) = y at h1 h2
    obtain ⟨r', hr'⟩ : ∃ r', r' = (nib r x).toNat := ⟨_, rfl⟩
    rw [← hr'] at h3
    have HR' := Lib.hid hr'
    clear hr'
    generalize (Crc.st 4 (BitVec.ofNat 32 m)).toNat = t at hTm h3
    generalize x.val = xv at h1 ⊢
    have HT := Lib.hid hT
    clear hT
    gi_wp2
    gi_region
    all_goals
      gi_wp2
      exact body_end HT.out HSn.out HR'.out hc hf hB
  case done =>
    rintro D ys W hD rfl ⟨⟨⟨hc, _⟩, _⟩, hB⟩ hK
    have hno := not_u32 _ _ HO.out
    generalize run r0 (nibs bs) = r at hc hno
    gi_wp2
    refine ⟨by simp, .inl ⟨_, _, rfl, run_takeDeferred hK, ?_⟩⟩
    exact ⟨_, results_tmp rfl _ _ _, rfl, hB.trans (belowK_b (w := w) (Nat.le_refl _) W D _ _ (by simp at hD; omega) hK rfl rfl)⟩
  case stop =>
    rintro D c pre W _ _ h _
    exact h.elim
end Go.Proofs.Ytobikkenfdhdcaa
