/- Pairs are compared. -/
import Derived.Test.YtajilghlcfheiaaGreatDoorBookM
import Derived.WalkKit
import Derived.KernelRfl
import Derived.ChangeKeysEq
import Derived.Test.YtajilghlcfheiaaGreatDoorProg
namespace Go.Proofs.YtajilghlcfheiaaGreatDoor
open Go.RowKit
set_option maxRecDepth 20000
theorem under118 : Tryz.prog.underlying 118 = some (.array 2 3) := by kernel_rfl
theorem under3 : Tryz.prog.underlying 3 = some (.int .i64) := by kernel_rfl
theorem info3 : (Tryz.prog.info? 3).map (·.size) = some 1 := by kernel_rfl
theorem eq_int (d : Nat) (a b : Int) (w : World) : (Op.equalIn (d + 1) 3 (.int .i64 a) (.int .i64 b)).run Tryz.prog w = .ok (a == b) w := by
  simp [Op.equalIn, run_underlying under3]
theorem cells3 : Tryz.prog.cellsOf 3 = 1 := by kernel_rfl
theorem eq_pair' (a b c d : Int) (w : World) : (Op.equalIn (9998 + 1 + 1) 118 (.agg #[.int .i64 a, .int .i64 b]) (.agg #[.int .i64 c, .int .i64 d])).run Tryz.prog w = .ok ((a == c) && (b == d)) w := by
  obtain ⟨i, hi, hs⟩ := Option.map_eq_some_iff.1 info3
  rw [run_equalIn_array (P := Tryz.prog) w (9998 + 1) _ _ under118 hi, cells3]
  have p0 : ∀ x y : Int, (part 3 #[.int .i64 x, .int .i64 y] (0 * 1)).run Tryz.prog w = .ok (.int .i64 x) w := fun x y => by kernel_rfl
  have p1 : ∀ x y : Int, (part 3 #[.int .i64 x, .int .i64 y] (1 * 1)).run Tryz.prog w = .ok (.int .i64 y) w := fun x y => by kernel_rfl
  rw [show List.range 2 = [0, 1] from rfl]
  simp only [Op.eqItems, Sem.run_bind, p0, Result.andThen_ok, eq_int]
  have p2 : ∀ x y : Int, (part 3 #[.int .i64 x, .int .i64 y] 1).run Tryz.prog w = .ok (.int .i64 y) w := p1
  have q2 : ∀ x y : Int, (Op.equalIn 9999 3 (.int .i64 x) (.int .i64 y)).run Tryz.prog w = .ok (x == y) w := fun x y => eq_int 9998 x y w
  by_cases h1 : a = c <;> by_cases h2 : b = d <;> simp [h1, h2, p2, q2]
theorem eq_pair (a b c d : Int) (w : World) : (Op.equalIn 10000 118 (.agg #[.int .i64 a, .int .i64 b]) (.agg #[.int .i64 c, .int .i64 d])).run Tryz.prog w = .ok ((a == c) && (b == d)) w := eq_pair' a b c d w
end Go.Proofs.YtajilghlcfheiaaGreatDoor
