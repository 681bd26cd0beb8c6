/- ReachesLess over whatever came in. -/
import Derived.Test.YtjkfmgjebemphaaLess
namespace Go.Proofs.Ytjkfmgjebemphaa
open Go.RowKit Go.ChangeShapes Go.WideShapes
set_option maxRecDepth 20000 in
theorem less_long (a : Option Addr) (cap m : Nat) (n : Int) (b : Bd) (hm' : 255 < m) (w : World) : Calls Try.prog 5 #[.int .i64 n, .slice a m cap, .agg #[.bool b.av, .int .u64 (b.an : Int), .bool b.bv, .int .u64 (b.bn : Int)]] w fun e w' => e = .returned (.bool true) ∧ Below w.heap.size w w' := by
  have d0 : decide (255 < (m : Int)) = true := by simp; omega
  have hba : Below w.heap.size w (w.alloc (.cells #[.bool b.av, .int .u64 (b.an : Int), .bool b.bv, .int .u64 (b.bn : Int)] 33)) := (Below.refl _ w).alloc (Nat.le_refl _) _
  have HBA := Lib.hid hba
  clear hba
  go_enter Try.func5, Try.ntmps5
  go_wp2_with fail
  generalize w.alloc (.cells #[.bool b.av, .int .u64 (b.an : Int), .bool b.bv, .int .u64 (b.bn : Int)] 33) = wa at *
  refine (alive_any _).mono ?_
  rintro e w6 ⟨rfl, hb6⟩
  have HB6 := Lib.hid (on HBA.out hb6)
  clear hb6
  go_wp2
  go_ret
  exact ⟨rfl, HB6.out⟩
theorem less_walk {H : Type} {enc : TypeId × Value → H} {base base2 : Nat} {r r2 : Reach} {b0 b02 : Nat} {sp sp2 : Nat → Bool} {held held2 : Bool} {P P2 : Prop} (n : Int) (v : Value) (d : DataW H) (p : List MemPlace) (v2 : Value) (d2 : DataW H) (p2 : List MemPlace) (W : World) (hn : (Lit.int .i64 n).wf = true) (ho : Value.okWide Try.prog W r b0 22 v) (ht : DataW.Trod enc Try.prog W base sp held 22 v d p) (_ : P) (ho2 : Value.okWide Try.prog W r2 b02 33 v2) (ht2 : DataW.Trod enc Try.prog W base2 sp2 held2 33 v2 d2 p2) (_ : P2) :
    Calls Try.prog 5 #[.int .i64 n, v, v2] W fun e w' => e = .returned (.bool true) ∧ Below W.heap.size W w' := by
  obtain ⟨a, m, cap, L, rfl, hl, hm, hL, hnil⟩ := open_bounds2 ⟨r, b0, ho⟩ ht
  obtain ⟨b, rfl, l1, l2⟩ := open_bound_value ho2 ht2
  clear ho ht ho2 ht2
  by_cases hm1 : 255 < m
  · exact less_long a cap m n b hm1 W
  · by_cases h : n < 0 ∨ 64 < n
    · exact less_lim a cap m L b n h hl.symm (by omega) hnil l1 l2 W hL
    · obtain ⟨k, rfl⟩ : ∃ k : Nat, n = (k : Int) := ⟨n.toNat, by omega⟩
      cases hk : L.all (·.ok k) with
      | false => exact less_bad a cap m L b k (by omega) hk hl.symm (by omega) hnil l1 l2 W hL
      | true =>
        cases hb : b.ok k with
        | false => exact less_mix a cap m L b k (by omega) hk hb hl.symm (by omega) hnil l1 l2 W hL
        | true =>
          exact less_ok a cap m L b k (by omega) hk (fun c hc => by
            rcases List.mem_append.1 hc with hc | hc
            · exact List.all_eq_true.1 hk c hc
            · rw [List.mem_singleton] at hc
              rw [hc]
              exact hb) hl.symm (by omega) hnil l1 l2 W hL
end Go.Proofs.Ytjkfmgjebemphaa
