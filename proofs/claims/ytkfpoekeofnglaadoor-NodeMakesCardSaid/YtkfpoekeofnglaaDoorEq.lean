/-
  A node is the same as itself: the program's comparison.
-/
import Derived.Test.YtkfpoekeofnglaaDoorNw
namespace Go.Proofs.YtkfpoekeofnglaaDoor
open Go.RowKit

theorem lit21 (n : Nd) : ndCells n = #[.int .i64 n.lv, .int .u64 n.lo, .int .u64 n.nx, .int .u64 n.ct, .int .u64 n.fi, .int .u64 (n.k 0), .int .u64 (n.k 1), .int .u64 (n.k 2), .int .u64 (n.k 3), .int .u64 (n.k 4), .int .u64 (n.k 5), .int .u64 (n.k 6), .int .u64 (n.k 7), .int .u64 (n.p 0), .int .u64 (n.p 1), .int .u64 (n.p 2), .int .u64 (n.p 3), .int .u64 (n.p 4), .int .u64 (n.p 5), .int .u64 (n.p 6), .int .u64 (n.p 7)] := rfl
theorem eq8_at (T e : TypeId) (hT : Tryd.prog.underlying T = some (.array 8 e)) (he : Tryd.prog.underlying e = some (.int .u64)) (ha : ∀ w, (isAgg e).run Tryd.prog w = .ok false w) (hz : ∀ w, (sizeOf e).run Tryd.prog w = .ok 1 w) (d : Nat) (a0 a1 a2 a3 a4 a5 a6 a7 : Int) (w : World) :
    (Op.equalIn (d + 2) T (.agg #[.int .u64 a0, .int .u64 a1, .int .u64 a2, .int .u64 a3, .int .u64 a4, .int .u64 a5, .int .u64 a6, .int .u64 a7]) (.agg #[.int .u64 a0, .int .u64 a1, .int .u64 a2, .int .u64 a3, .int .u64 a4, .int .u64 a5, .int .u64 a6, .int .u64 a7])).run Tryd.prog w = .ok true w := by
  rw [show d + 2 = (d + 1) + 1 from rfl, Op.equalIn]
  simp only [Sem.run_bind, run_underlying hT, Result.andThen_ok]
  simp only [Std.Legacy.Range.forIn_eq_forIn_range', Std.Legacy.Range.size, Nat.sub_zero, Nat.add_sub_cancel, Nat.div_one, List.range'_succ, List.range'_zero, List.forIn_cons, List.forIn_nil]
  go_simp
set_option maxRecDepth 100000 in
set_option maxHeartbeats 1600000 in
theorem eq_nd (n : Nd) (w : World) : (Op.equalIn 10000 27 (.agg (ndCells n)) (.agg (ndCells n))).run Tryd.prog w = .ok true w := by
  rw [lit21]
  have u3 := Tryd.underlying3
  have a3' := Tryd.isAgg3
  have z3 := Tryd.sizeOf3
  have u4 := Tryd.underlying22
  have a4' := Tryd.isAgg22
  have z4 := Tryd.sizeOf22
  have u5 := Tryd.underlying23
  have a5' := Tryd.isAgg23
  have z5 := Tryd.sizeOf23
  have k1 := fun w => eq8_at 24 22 Tryd.underlying24 u4 a4' z4 9997 (n.k 0) (n.k 1) (n.k 2) (n.k 3) (n.k 4) (n.k 5) (n.k 6) (n.k 7) w
  have k2 := fun w => eq8_at 25 23 Tryd.underlying25 u5 a5' z5 9997 (n.p 0) (n.p 1) (n.p 2) (n.p 3) (n.p 4) (n.p 5) (n.p 6) (n.p 7) w
  rw [show (10000 : Nat) = 9999 + 1 from rfl, Op.equalIn]
  simp only [Sem.run_bind, run_underlying Tryd.underlying27, Result.andThen_ok]
  go_simp
end Go.Proofs.YtkfpoekeofnglaaDoor
