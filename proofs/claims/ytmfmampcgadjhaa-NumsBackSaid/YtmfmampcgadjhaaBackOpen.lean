/- NumsBack over whatever came in. -/
import Derived.Test.YtmfmampcgadjhaaBackWalk
import Derived.Deep.Slices
import Derived.ChangeSame
import Derived.ProofKit
namespace Go.Proofs.Ytmfmampcgadjhaa
open Go.RowKit Go.ChangeShapes Go.WideShapes Go.Deep
theorem nat_of_u64r' {a : Int} (h : (Lit.int .u64 a).wf = true) : ∃ x : Nat, a = (x : Int) ∧ x < 18446744073709551616 := by
  simp [Lit.wf, IntKind.min, IntKind.max, IntKind.signed, IntKind.bits] at h
  exact ⟨a.toNat, by omega, by omega⟩
theorem bytes_zs {w : World} {x : Addr} {len : Nat} {zs : List Int} (hz : len ≤ zs.length) (hm : len ≤ maxLen) (hc : ∀ i, i < zs.length → w.cell? (x.add i) = some (.int .u8 (zs.getD i 0))) (hw : ∀ n ∈ zs, (Lit.int .u8 n).wf = true) : ∃ bs : List UInt8, bs.length = len ∧ Bytes w w.heap.size (some x) bs := by
  have hlen : ((zs.take len).map fun z => UInt8.ofNat z.toNat).length = len := by rw [List.length_map, List.length_take]; exact Nat.min_eq_left hz
  refine ⟨(zs.take len).map fun z => UInt8.ofNat z.toNat, hlen, ⟨?_, fun hp => ?_⟩⟩
  · show _ ≤ _
    rw [hlen]; unfold maxLen at hm; omega
  · rw [hlen] at hp
    have h0 := hc 0 (by omega)
    have hadd0 : x.add 0 = x := by simp [Addr.add]
    rw [hadd0] at h0
    obtain ⟨b, off, sp⟩ := x
    obtain rfl : sp = none := congrArg Addr.spot (spot_none h0)
    refine ⟨b, off, rfl, World.block_lt_of_cell? w _ h0, fun j hj => ?_⟩
    rw [hlen] at hj
    have h1 := hc j (by omega)
    rw [add_of] at h1
    rw [h1]
    have hjz : j < zs.length := by omega
    have hb := bounds_u8 (hw zs[j] (List.getElem_mem hjz))
    have e : zs.getD j 0 = zs[j] := by simp [hjz]
    rw [e]
    simp only [List.getElem_map, List.getElem_take]
    congr 2
    rw [UInt8.toNat_ofNat']
    omega
section
variable {H : Type} {enc : TypeId × Value → H} {w : World} {base : Nat} {spare : Nat → Bool} {held : Bool}
theorem open_one {fuel : Nat} {c0 : Value} {x : DataW H × List MemPlace} (h : DataW.trod enc Try.prog w base spare held fuel 22 [c0] = some x) : ∃ A n c bs, c0 = .slice A n c ∧ n = bs.length ∧ Bytes w w.heap.size A bs := by
  rcases open_ints under22 under5 (by kernel_rfl) h with ⟨hcs, _⟩ | ⟨a, len, cap, zs, hcs, _, hl, hm, hz, _, hcell, hwz⟩
  · simp at hcs
    exact ⟨none, 0, 0, [], hcs, rfl, bytes_none _ _⟩
  · simp at hcs
    obtain ⟨bs, hb, hB⟩ := bytes_zs (len := len) (by rw [hz]; split <;> omega) (by omega) hcell hwz
    exact ⟨some a, len, cap, bs, hcs, hb.symm, hB⟩
theorem open_around {v : Value} {d : DataW H} {p : List MemPlace} {r : Reach} {b0 : Nat} (ho : Value.okWide Try.prog w r b0 36 v) (h : DataW.Trod enc Try.prog w base spare held 36 v d p) :
    ∃ A1 n1 c1 A2 n2 c2 ah be, v = .agg #[.slice A1 n1 c1, .slice A2 n2 c2] ∧ n1 = List.length ah ∧ n2 = List.length be ∧ Bytes w w.heap.size A1 ah ∧ Bytes w w.heap.size A2 be := by
  obtain ⟨cs, rfl, hs⟩ := okWide_struct Try.underlying36 ho
  have e4 : Try.prog.cellsOf 36 = 2 := by kernel_rfl
  rw [e4] at hs
  obtain ⟨fuel, hf⟩ := h
  obtain ⟨l⟩ := cs
  match l, hs with
  | [v0, v1], _ =>
    obtain ⟨y0, y1, n, _, _, h0, h1⟩ := trod_struct2 Try.underlying36 hf
    have e0 : Try.prog.cellsOf 22 = 1 := by kernel_rfl
    simp [e0] at h0 h1
    obtain ⟨A1, n1, c1, ah, rfl, k1, B1⟩ := open_one h0
    obtain ⟨A2, n2, c2, be, rfl, k2, B2⟩ := open_one h1
    exact ⟨A1, n1, c1, A2, n2, c2, ah, be, rfl, k1, k2, B1, B2⟩
end
set_option maxRecDepth 20000 in
set_option maxHeartbeats 1000000 in
theorem back_long (x : Int) (l : List UInt8) (A1 A2 : Option Addr) (n1 c1 n2 c2 : Nat) (h : 20000 < l.length ∨ 20000 < n1 ∨ 20000 < n2) (w : World) :
    Calls Try.prog 4 #[.int .u64 x, .string ⟨l.toArray⟩, .agg #[.slice A1 n1 c1, .slice A2 n2 c2]] w fun e w' => e = .returned (.bool true) ∧ Below w.heap.size w w' := by
  have hbox := heap_alloc_new w (.cells #[.slice A1 n1 c1, .slice A2 n2 c2] 36)
  have hba : Below w.heap.size w (w.alloc (.cells #[.slice A1 n1 c1, .slice A2 n2 c2] 36)) := (Below.refl _ w).alloc (Nat.le_refl _) _
  obtain ⟨B, hB⟩ : ∃ B, B = w.heap.size := ⟨_, rfl⟩
  have HC : Hid ((w.alloc (.cells #[.slice A1 n1 c1, .slice A2 n2 c2] 36)).cell? ⟨B, 0, none⟩ = some (.slice A1 n1 c1) ∧ (w.alloc (.cells #[.slice A1 n1 c1, .slice A2 n2 c2] 36)).cell? ⟨B, 1, none⟩ = some (.slice A2 n2 c2)) := Lib.hid (by
    rw [hB, cell_of_row _ _ _ _ _ _ hbox, cell_of_row _ _ _ _ _ _ hbox]
    exact ⟨rfl, rfl⟩)
  have HB := Lib.hid hba
  have HH := Lib.hid h
  clear hbox hba h
  go_enter Try.func4, Try.ntmps4
  go_wp2_with fail
  rw [← hB]
  generalize w.alloc (.cells #[.slice A1 n1 c1, .slice A2 n2 c2] 36) = wa at *
  have HBB := Lib.hid hB
  clear hB
  refine (alive_any _).mono ?_
  rintro e w1 ⟨rfl, hb⟩
  replace HB := Lib.hid (on HB.out hb)
  obtain ⟨q0, q1⟩ := two_cells HC.out hb
  clear hb HC
  by_cases h1 : 20000 < l.length
  · have g1 : decide (20000 < (l.length : Int)) = true := by simp; omega
    clear h1
    go_wp2_with fail
    refine (alive_any _).mono ?_
    rintro e w2 ⟨rfl, hb2⟩
    have HB2 := Lib.hid (on HB.out hb2)
    clear hb2
    go_wp2
    go_ret
    exact ⟨rfl, HB2.out⟩
  · have g1 : decide (20000 < (l.length : Int)) = false := by simp; omega
    by_cases h2 : 20000 < n1
    · have g2 : decide (20000 < (n1 : Int)) = true := by simp; omega
      clear h1 h2
      go_wp2_with fail
      refine (alive_any _).mono ?_
      rintro e w2 ⟨rfl, hb2⟩
      have HB2 := Lib.hid (on HB.out hb2)
      clear hb2
      go_wp2
      go_ret
      exact ⟨rfl, HB2.out⟩
    · have g2 : decide (20000 < (n1 : Int)) = false := by simp; omega
      have g3 : decide (20000 < (n2 : Int)) = true := by have := HH.out; simp; omega
      clear h1 h2
      go_wp2_with fail
      refine (alive_any _).mono ?_
      rintro e w2 ⟨rfl, hb2⟩
      have HB2 := Lib.hid (on HB.out hb2)
      clear hb2
      go_wp2
      go_ret
      exact ⟨rfl, HB2.out⟩
theorem back_walk {H : Type} {enc : TypeId × Value → H} {base : Nat} {r : Reach} {b0 : Nat} {sp : Nat → Bool} {held : Bool} {P : Prop} (x : Int) (s : ByteArray) (v : Value) (d : DataW H) (p : List MemPlace) (W : World) (hx : (Lit.int .u64 x).wf = true) (_hs : s.size ≤ 140737488351232) (ho : Value.okWide Try.prog W r b0 36 v) (ht : DataW.Trod enc Try.prog W base sp held 36 v d p) (_ : P) :
    Calls Try.prog 4 #[.int .u64 x, .string s, v] W fun e w' => e = .returned (.bool true) ∧ Below W.heap.size W w' := by
  obtain ⟨A1, n1, c1, A2, n2, c2, ah, be, rfl, k1, k2, B1, B2⟩ := open_around ho ht
  clear ho ht
  obtain ⟨⟨l⟩⟩ := s
  by_cases h : 20000 < l.length ∨ 20000 < n1 ∨ 20000 < n2
  · exact back_long x l A1 A2 n1 c1 n2 c2 h W
  · obtain ⟨y, rfl, hy⟩ := nat_of_u64r' hx
    exact back_ok y hy l (by omega) A1 A2 n1 c1 n2 c2 ah be k1 k2 (by omega) (by omega) W B1 B2
end Go.Proofs.Ytmfmampcgadjhaa
