/- nums.put: bytes behind bytes. -/
import Derived.Test.YtajilghlcfheiaaGreatDoorNumTwin
import Derived.Laws.CopyOwn
namespace Go.Proofs.YtajilghlcfheiaaGreatDoor.Num
open Go.RowKit Go.Proofs.YtajilghlcfheiaaGreatDoorW.PrintWords
/-- a row of bytes that the call made. -/
theorem under22 : Tryz.prog.underlying 65 = some (.slice 5) := by kernel_rfl
theorem under9 : Tryz.prog.underlying 9 = some .string := by kernel_rfl
theorem under5 : Tryz.prog.underlying 5 = some (.int .u8) := by kernel_rfl
theorem on {a b c : World} (h : Below a.heap.size a b) (k : Below b.heap.size b c) : Below a.heap.size a c := h.trans (k.mono h.size)
def Row (w : World) (base : Nat) (v : Value) (bs : List UInt8) : Prop := w.ownsRow base 5 1 v (ints bs).length (nums .u8 (ints bs))
theorem Row.bytes {w : World} {base : Nat} {v : Value} {bs : List UInt8} (h : Row w base v bs) : ∃ A c, v = .slice A bs.length c ∧ bs.length ≤ c ∧ Bytes w w.heap.size A bs := by
  obtain ⟨A, c, rfl, hr⟩ := own_reads h
  rw [ints_length] at hr
  refine ⟨A, c, by rw [ints_length], ?_, bytes_of_reads hr rfl⟩
  rcases h.2 with ⟨e, h0⟩ | ⟨g, cap, cur, e, _, _, hle, _⟩
  · rw [ints_length] at h0
    omega
  · cases e
    rw [ints_length] at hle
    exact hle
theorem Row.below {w w' : World} {base : Nat} {v : Value} {bs : List UInt8} (h : Row w base v bs) (hb : Below w.heap.size w w') : Row w' base v bs :=
  World.ownsRow.kept (row := none) h ⟨hb.os, hb.tape, hb.output, hb.size, fun k hk _ => hb.block k hk⟩ (by cases v.ownBlock <;> simp)
theorem made_rep (N : Nat) : madeCells (Value.int .u8 0).cells N = (List.replicate N (Value.int .u8 0)).toArray := by
  have e : (Value.int .u8 0).cells = #[.int .u8 0] := rfl
  rw [e]
  apply Array.ext
  · simp [madeCells]
  · intro i h1 h2
    simp [madeCells, Nat.mod_one]
theorem wpList_make_len (w : World) {ops : Array Oper} {rest : List Oper} {o : Oper} {a : Act} {Q : Exit → Act → World → Prop}
    (hg : o.guard = none) (l c : Operand) (hop : o.op = Op.makeSlice 65 l c) (n N : Nat) (hl : a.eval l = .int .i64 (n : Int)) (hc : a.eval c = .int .i64 (N : Int)) (hn : n ≤ N) (hN : N ≤ 1000000)
    (hK : ∀ w', w'.heap[w.heap.size]? = some (.cells (List.replicate N (Value.int .u8 0)).toArray 5 (0, 0)) → Below w.heap.size w w' → wpList Tryz.prog ops Q rest (a.put o.dst (.slice (some ⟨w.heap.size, 0, none⟩) n N)) w') :
    wpList Tryz.prog ops Q (o :: rest) a w := by
  obtain ⟨i0, hi, hz0, hz1, hz2⟩ := info_parts info5
  have hr := run_make (P := Tryz.prog) w 65 5 i0 (.int .u8 0) under22 hi hz0 .i64 .i64 n N (by omega) (by omega) (by rw [hz2]; omega) (by omega)
  simp only [Int.toNat_natCast, hz1, Nat.mul_one] at hr
  refine wpList_plain hg fun K hK' => ?_
  unfold Oper.wp
  simp [execOp, hop, hl, hc, hr, Result.andThen]
  refine hK' _ _ (hK _ ?_ ((Below.refl _ w).alloc (Nat.le_refl _) _))
  rw [heap_alloc_new, made_rep]
theorem size5 : (Tryz.prog.info? 5).map (·.size) = some 1 := by kernel_rfl
theorem nums_length (xs : List Int) : (nums .u8 xs).length = xs.length := by simp [nums]
theorem splice_row {w : World} {g n m : Nat} {bs : List UInt8} (hn : n = bs.length) (hm : n + m ≤ 1000000) (h : w.heap[g]? = some (.cells (splice (List.replicate (n + m) (Value.int .u8 0)) 0 (nums .u8 (ints bs))).toArray 5 (0, 0))) :
    Row w g (.slice (some ⟨g, 0, none⟩) n (n + m)) bs := by
  have hl : (nums .u8 (ints bs)).length = n := by rw [nums_length, ints_length, hn]
  refine ⟨by rw [hl, ints_length]; omega, .inr ⟨g, n + m, _, by rw [ints_length, ← hn], Nat.le_refl _, h, by rw [ints_length]; omega, by unfold maxLen; omega, ?_, ?_⟩⟩
  · simp [splice, hl]
  · rw [List.toList_toArray, ints_length, ← hn, Nat.mul_one]
    simp only [splice, List.take_zero, List.nil_append]
    rw [List.take_append_of_le_length (by rw [hl]; exact Nat.le_refl _), List.take_of_length_le (by rw [hl]; exact Nat.le_refl _)]
theorem bytes_src {w : World} {n₀ : Nat} {A : Option Addr} {bs : List UInt8} (h : Bytes w n₀ A bs) (hp : 0 < (nums .u8 (ints bs)).length) : ∃ ad, A = some ad ∧ ∀ j v, (nums .u8 (ints bs))[j]? = some v → w.cell? (ad.add j) = some v := by
  rw [nums_length, ints_length] at hp
  obtain ⟨b, off, rfl, _, hc⟩ := h.2 hp
  refine ⟨_, rfl, fun j v hv => ?_⟩
  have hj : j < bs.length := by have := (List.getElem?_eq_some_iff.1 hv).1; rwa [nums_length, ints_length] at this
  rw [add_of, hc j hj]
  simp [nums, ints, hj] at hv
  rw [← hv]
theorem nums_one (bs : List UInt8) : ∀ v ∈ nums .u8 (ints bs), v.oneCell' = true := by
  intro v hv
  simp only [nums, List.mem_map] at hv
  obtain ⟨a, _, rfl⟩ := hv
  rfl
set_option maxRecDepth 20000 in
set_option maxHeartbeats 1000000 in
theorem put_any (A : Option Addr) (n c : Nat) (bs : List UInt8) (hn : n = bs.length) (A2 : Option Addr) (m c2 : Nat) (cs : List UInt8) (hm : m = cs.length) (hs : n + m ≤ 1000000) (w : World) (hI : Bytes w w.heap.size A bs) (hJ : Bytes w w.heap.size A2 cs) :
    Calls Tryz.prog 110 #[.slice A n c, .slice A2 m c2] w fun e w' => (∃ v, e = .returned v ∧ Row w' w.heap.size v (bs ++ cs)) ∧ Below w.heap.size w w' := by
  have HI := Lib.hid hI
  have HJ := Lib.hid hJ
  have HN := Lib.hid hn
  have HM := Lib.hid hm
  have hr1 : IntKind.i64.wrap ((n : Int) + (m : Int)) = ((n + m : Nat) : Int) := by rw [IntKind.wrap_i64]; omega
  have HR1 := Lib.hid hr1
  clear hI hJ hn hm hr1
  go_enter Tryz.func110, Tryz.ntmps110
  go_wp2_with (first
    | (refine wpList_make_len _ rfl (.tmp 7) (.tmp 12) rfl n (n + m) rfl rfl (by omega) hs ?_; intro w1 hg1 hb1; have HG1 := Lib.hid hg1; have HB1 := Lib.hid hb1; clear hg1 hb1)
    | (refine wpList_copy_splice rfl (.tmp 14) (.tmp 15) 65 65 rfl 5 under22 size5 _ A n (n + m) n c rfl rfl w.heap.size 0 _ 5 HG1.out (nums .u8 (ints bs)) (by rw [nums_length, ints_length, ← HN.out]; exact (Nat.min_self _).symm) (fun h => ⟨rfl, bytes_src (HI.out.below HB1.out) h⟩) (by rw [nums_length, ints_length, List.length_replicate, ← HN.out]; omega) (nums_one bs) w.heap.size w HB1.out (Nat.le_refl _) ?_; intro w2 hg2 hb2; have HB2 := Lib.hid hb2; have HR2 := Lib.hid (splice_row HN.out hs hg2.out); clear hg2 hb2)
    | (at_builtin; refine print_append_row (w0 := w) w.heap.size rfl (.tmp 17) (.tmp 18) 65 5 .u8 1 rfl under22 info5 (by decide) _ (ints bs) (ints cs) A2 m c2 rfl rfl HR2.out (by rw [HM.out]; exact (HJ.out.below HB2.out).reads) HB2.out HB2.out.size (by rw [ints_length, ← HN.out]; omega) ?_; intro v7 w7 ho7 hb7 hg7 hat7; have HO7 := Lib.hid ho7; have HB7 := Lib.hid hb7; clear ho7 hb7 hg7 hat7))
  go_ret
  refine ⟨⟨_, rfl, ?_⟩, HB7.out⟩
  unfold Row
  rw [ints_append]
  exact HO7.out
end Go.Proofs.YtajilghlcfheiaaGreatDoor.Num
