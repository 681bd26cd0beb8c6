/- Terms and bounds are compared. -/
import Derived.Test.YtajilghlcfheiaaGreatDoorRea
import Derived.Laws.StructEq
import Derived.Test.YtajilghlcfheiaaGreatDoorWEqStruct
namespace Go.Proofs.YtajilghlcfheiaaGreatDoor.Rea
open Go.RowKit
open Go.Proofs.YtajilghlcfheiaaGreatDoorW.PrintWords
set_option maxRecDepth 20000
theorem eq97 (d : Nat) (w : World) (x0 y0 : Bool) (x1 y1 : Int) :
    (Op.equalIn (d + 2) 97 (.agg #[.bool x0, .int .u64 x1]) (.agg #[.bool y0, .int .u64 y1])).run Tryz.prog w = .ok (x0 == y0 && (x1 == y1)) w := by
  refine eqA_of Tryz.underlying97 (by kernel_rfl) ?_
  refine eqf_cons (by rfl) (by go_simp; rfl) (by go_simp; rfl) (by go_simp) ?_
  exact eqf_last (by rfl) (by go_simp; rfl) (by go_simp; rfl) (by go_simp)
theorem eq99 (d : Nat) (w : World) (x0 y0 : Bool) (x1 y1 : Int) (x2 y2 : Bool) (x3 y3 : Int) :
    (Op.equalIn (d + 4) 99 (.agg #[.bool x0, .int .u64 x1, .bool x2, .int .u64 x3]) (.agg #[.bool y0, .int .u64 y1, .bool y2, .int .u64 y3])).run Tryz.prog w = .ok ((x0 == y0 && (x1 == y1)) && (x2 == y2 && (x3 == y3))) w := by
  refine eqA_of Tryz.underlying99 (by kernel_rfl) ?_
  refine eqf_cons (by rfl) (by go_simp) (by go_simp) (eq97 _ w x0 y0 x1 y1) ?_
  exact eqf_last (by rfl) (by go_simp) (by go_simp) (eq97 _ w x2 y2 x3 y3)
theorem eq_bound (w : World) (x0 : Bool) (x1 : Int) (x2 : Bool) (x3 : Int) :
    (Op.equalIn 10000 99 (.agg #[.bool x0, .int .u64 x1, .bool x2, .int .u64 x3]) (.agg #[.bool x0, .int .u64 x1, .bool x2, .int .u64 x3])).run Tryz.prog w = .ok true w := by
  rw [eq99 9996]
  simp
end Go.Proofs.YtajilghlcfheiaaGreatDoor.Rea
