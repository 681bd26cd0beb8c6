/- Terms: lists of them, and whether one is among them. -/
import Derived.Test.YtajilghlcfheiaaGreatDoorEqB
import Derived.Deep.QuietTactic
import Derived.BigQuiet
import Derived.Maps.AppendAt
namespace Go.Proofs.YtajilghlcfheiaaGreatDoor.Trm
open Go.RowKit Go.Proofs.YtajilghlcfheiaaGreatDoorW.PrintWords
open Rea (Bd Bds on)
set_option maxRecDepth 20000
abbrev Tm := Bool × Nat
def tcells (t : Tm) : List Value := [.bool t.1, .int .u64 (t.2 : Int)]
def tflat (T : List Tm) : List Value := T.flatMap tcells
def TFit (T : List Tm) : Prop := ∀ t ∈ T, t.2 < 18446744073709551616
theorem tflat_length (T : List Tm) : (tflat T).length = T.length * 2 := by
  induction T with
  | nil => rfl
  | cons b T ih => simp [tflat, tcells] at ih ⊢; omega
theorem tflat_append (T K : List Tm) : tflat (T ++ K) = tflat T ++ tflat K := by simp [tflat]
theorem tflat_one (T : List Tm) : ∀ u ∈ tflat T, u.oneCell' = true := by
  intro u hu
  simp only [tflat, List.mem_flatMap, tcells] at hu
  obtain ⟨t, _, h⟩ := hu
  simp at h
  rcases h with rfl | rfl <;> rfl
theorem tflat_get (T : List Tm) : ∀ k (hk : k < T.length), (tflat T)[k * 2]? = some (.bool T[k].1) ∧ (tflat T)[k * 2 + 1]? = some (.int .u64 (T[k].2 : Int)) := by
  induction T with
  | nil => intro k hk; simp at hk
  | cons b T ih =>
    intro k hk
    have e : tflat (b :: T) = [.bool b.1, .int .u64 (b.2 : Int)] ++ tflat T := rfl
    cases k with
    | zero => rw [e]; exact ⟨rfl, rfl⟩
    | succ k =>
      obtain ⟨h1, h2⟩ := ih k (by simpa using hk)
      rw [e]
      constructor
      · rw [List.getElem?_append_right (by simp; omega)]
        have : (k + 1) * 2 - [Value.bool b.1, .int .u64 (b.2 : Int)].length = k * 2 := by simp; omega
        rw [this]
        simpa using h1
      · rw [List.getElem?_append_right (by simp; omega)]
        have : (k + 1) * 2 + 1 - [Value.bool b.1, .int .u64 (b.2 : Int)].length = k * 2 + 1 := by simp; omega
        rw [this]
        simpa using h2
/-- the terms of a list, where they lie. -/
def Tms (w : World) (a : Option Addr) (T : List Tm) : Prop :=
  ∀ k (hk : k < T.length), ∃ b o, a = some ⟨b, o, none⟩ ∧ w.cell? ⟨b, o + k * 2, none⟩ = some (.bool T[k].1) ∧ w.cell? ⟨b, o + k * 2 + 1, none⟩ = some (.int .u64 (T[k].2 : Int)) ∧ T[k].2 < 18446744073709551616
theorem Tms.below {w w' : World} {a : Option Addr} {T : List Tm} (h : Tms w a T) (hb : Below w.heap.size w w') : Tms w' a T := by
  intro k hk
  obtain ⟨b, o, e, c0, c1, l⟩ := h k hk
  have hlt := World.block_lt_of_cell? w _ c0
  exact ⟨b, o, e, (hb.cell (p := ⟨b, o + k * 2, none⟩) hlt).trans c0, (hb.cell (p := ⟨b, o + k * 2 + 1, none⟩) hlt).trans c1, l⟩
def OwnT (base : Nat) (w : World) (v : Value) (T : List Tm) : Prop := w.ownsRow base 97 2 v T.length (tflat T) ∧ TFit T
theorem OwnT.nil (base : Nat) (w : World) : OwnT base w (.slice none 0 0) [] := ⟨World.ownsRow_nil w base 97 2, fun b hb => by simp at hb⟩
theorem OwnT.below {base : Nat} {w w' : World} {v : Value} {T : List Tm} (h : OwnT base w v T) (hb : Below w.heap.size w w') : OwnT base w' v T :=
  ⟨pw_own_below h.1 hb, h.2⟩
theorem OwnT.tms {base : Nat} {w : World} {v : Value} {T : List Tm} (h : OwnT base w v T) : ∃ a cap, v = .slice a T.length cap ∧ Tms w a T := by
  obtain ⟨h1, h2⟩ := h
  rcases h1.2 with ⟨rfl, h0⟩ | ⟨g, cap, cur, rfl, _⟩
  · exact ⟨none, 0, by rw [h0], fun k hk => by omega⟩
  · refine ⟨some ⟨g, 0, none⟩, cap, rfl, fun k hk => ?_⟩
    obtain ⟨g0, g1⟩ := tflat_get T k hk
    have hc : ∀ j u, (tflat T)[j]? = some u → w.cell? ⟨g, 0 + j, none⟩ = some u := fun j u hu => by
      have := h1.cells (g := g) rfl j u hu
      rwa [add_plain, ← Nat.zero_add j] at this
    exact ⟨g, 0, rfl, hc _ _ g0, by rw [Nat.add_assoc]; exact hc _ _ g1, h2 _ (List.getElem_mem hk)⟩
theorem underT : Tryz.prog.underlying 107 = some (.slice 97) := by kernel_rfl
theorem infoT : (Tryz.prog.info? 97).map (fun i => (i.zero, i.size, i.bytes)) = some (some (.agg #[.bool false, .int .u64 0]), 2, 16) := by kernel_rfl
/-- one term is appended: behind 'at_builtin'. -/
theorem wp_term {ops : Array Oper} {rest : List Oper} {o : Oper} {a : Act} {Q : Exit → Act → World → Prop} {w0 W : World} (base : Nat) (hgd : o.guard = none) (s x : Operand)
    (ho : o.op = .call { callee := .builtin .append, args := #[s, x], argTypes := #[107, 107] }) (v : Value) (T : List Tm) (t : Tm) (hs : a.eval s = v) (hx : a.eval x = .slice (some ⟨W.heap.size, 0, none⟩) 1 1)
    (HO : OwnT base W v T) (ht : t.2 < 18446744073709551616) (HB : Below base w0 W) (hbase : base ≤ W.heap.size) (hl : T.length ≤ 100000)
    (h : ∀ v1 w1, OwnT base w1 v1 (T ++ [t]) → Below base w0 w1 → wpList Tryz.prog ops Q rest (a.put o.dst v1) w1) :
    wpList Tryz.prog ops Q (o :: rest) a (W.alloc (.cells #[.bool t.1, .int .u64 (t.2 : Int)] 97)) := by
  obtain ⟨i0, hi, hzz⟩ := Option.map_eq_some_iff.1 infoT
  simp only [Prod.mk.injEq] at hzz
  obtain ⟨hz0, hz1, hz2⟩ := hzz
  refine wpList_append_own_at (W.alloc (.cells #[.bool t.1, .int .u64 (t.2 : Int)] 97)) hgd s x 107 ho base 97 i0 _ 2 16 underT hi hz0 hz1 hz2 rfl (by omega) v T.length (tflat T) hs (HO.1.alloc _) ⟨W.heap.size, 0, none⟩ 1 1 (tcells t) hx rfl
    (World.news_of_block (cs := #[.bool t.1, .int .u64 (t.2 : Int)]) (t := 97) (fr := (0, 0)) (heap_alloc_new W _)) (by simp [tcells]; exact ⟨rfl, rfl⟩) (by simp only [maxLen]; omega) (by omega) (by simp; omega) ?_
  intro v1 w1 hown hg _ _
  refine h v1 w1 ⟨by rw [List.length_append, tflat_append]; simpa [tflat] using hown, fun y hy => ?_⟩ ((HB.alloc hbase _).grown hg (by simp; omega) (own_base HO.1))
  rcases List.mem_append.1 hy with hy | hy
  · exact HO.2 y hy
  · rw [List.mem_singleton.1 hy]
    exact ht
theorem two_cells (w : World) (a b : Value) (ty : TypeId) : (w.alloc (.cells #[a, b] ty)).cell? ⟨w.heap.size, 0, none⟩ = some a ∧ (w.alloc (.cells #[a, b] ty)).cell? ⟨w.heap.size, 1, none⟩ = some b := by
  have k := heap_alloc_new w (.cells #[a, b] ty)
  refine ⟨?_, ?_⟩ <;> (rw [cell_of_row _ _ _ _ _ _ k]; rfl)
theorem lit_below (w : World) (o : Obj) : Below w.heap.size w (w.alloc o) := (Below.refl _ w).alloc (Nat.le_refl _) _
theorem tm_eq (p v : Bool) (x y : Nat) : (p == v && ((x : Int) == (y : Int))) = decide ((p, x) = (v, y)) := by
  rw [Bool.eq_iff_iff]
  simp
  intro _
  omega
theorem mem_next {T : List Tm} {k : Nat} (hk : k < T.length) {t : Tm} (h : t ∉ T.take k) (h2 : ¬ T[k] = t) : t ∉ T.take (k + 1) := by
  rw [List.take_add_one, List.getElem?_eq_getElem hk]
  intro h3
  rcases List.mem_append.1 h3 with h3 | h3
  · exact h h3
  · simp at h3
    exact h2 h3.symm
set_option maxHeartbeats 2000000 in
/-- is one among them? -/
theorem has_any (A : Option Addr) (n c : Nat) (T : List Tm) (hn : n = T.length) (hmax : n ≤ 1000000) (v : Bool) (x : Nat) (w : World) (hT : Tms w A T) :
    Calls Tryz.prog 127 #[.slice A n c, .agg #[.bool v, .int .u64 (x : Int)]] w fun e w' => e = .returned (.bool (decide ((v, x) ∈ T))) ∧ Below w.heap.size w w' := by
  have HT := Lib.hid (hT.below (lit_below w (.cells #[.bool v, .int .u64 (x : Int)] 97)))
  have HN := Lib.hid hn
  have HB0 := Lib.hid (lit_below w (.cells #[.bool v, .int .u64 (x : Int)] 97))
  have HZ := Lib.hid (two_cells w (.bool v) (.int .u64 (x : Int)) 97)
  clear hT hn
  go_enter Tryz.func127, Tryz.ntmps127
  go_wp2_with fail
  generalize w.alloc _ = wa at *
  obtain ⟨TB, hTB⟩ : ∃ B, B = w.heap.size := ⟨_, rfl⟩
  rw [← hTB] at HZ ⊢
  clear hTB
  go_loopw [5] (fun i wr => ∃ k : Nat, k ≤ n ∧ i = .int .i64 k ∧ Hid ((v, x) ∉ T.take k) ∧ ∃ q, wr = wa.drewN q) (fun i _ => n - (intOf i).toNat)
  case atStart => exact ⟨0, by omega, rfl, fun h => by simp at h, 0, rfl⟩
  case round =>
    obtain ⟨k, hk, rfl, HNO, q, rfl⟩ := hrel
    by_cases hlt : k < n
    · have hkl : k < T.length := by rw [← HN.out]; exact hlt
      obtain ⟨b, o, rfl, c0, c1, _⟩ := HT.out k hkl
      obtain ⟨z0, z1⟩ := HZ.out
      have HNX := Lib.hid (fun h => mem_next hkl HNO.out h)
      have HIN := Lib.hid (fun (h : T[k] = (v, x)) => (show (v, x) ∈ T by rw [← h]; exact List.getElem_mem hkl))
      obtain ⟨⟨p, y⟩, hx⟩ : ∃ t, t = T[k] := ⟨_, rfl⟩
      rw [← hx] at c0 c1 HNX HIN
      dsimp only at c0 c1
      clear hx
      have hE := tm_eq p v y x
      obtain ⟨e, he⟩ : ∃ e, e = decide ((p, y) = (v, x)) := ⟨_, rfl⟩
      rw [← he] at hE
      have EQ := fun w => (Rea.eq97 9998 w p v (y : Int) (x : Int)).trans (by rw [hE])
      have i1 : (0 : Int) ≤ (k : Int) := by omega
      have i2 : (k : Int) < (n : Int) := by omega
      have HE := Lib.hid he
      clear he hE
      cases e with
      | true =>
        go_wp2
        go_quiet (fail)
        go_wp2
        go_ret
        exact ⟨by rw [decide_eq_true (HIN.out (of_decide_eq_true HE.out.symm))]; rfl, by first | exact pw_below_drewN HB0.out _ | exact pw_below_drewN (pw_below_drewN HB0.out _) _⟩
      | false =>
        go_wp2
        go_quiet (fail)
        go_wp2
        go_roundw
        case rel => exact ⟨k + 1, by omega, by go_num, HNX.out (of_decide_eq_false HE.out.symm), _, rfl⟩
        case measure => simp [intOf]; omega
    · obtain rfl : k = n := by omega
      go_wp2
      go_ret
      exact ⟨by rw [decide_eq_false (by have h := HNO.out; rwa [HN.out, List.take_length] at h)]; rfl, by first | exact pw_below_drewN HB0.out _ | exact pw_below_drewN (pw_below_drewN HB0.out _) _⟩
end Go.Proofs.YtajilghlcfheiaaGreatDoor.Trm
