/-
  DIGITS OF SIXTEEN: the library's formatting at base 16: contracts.
-/
import Derived.Test.YtnmpgjodndfoiaaDoorU
namespace Go.Proofs.YtnmpgjodndfoiaaDoor
open Go.RowKit

/-- the one cell of the library's table that base 16 reads -/
def Tab16 (w : World) : Prop := w.cell? ⟨5, 15, none⟩ = some (.int .u8 4) ∧ 5 < w.heap.size
theorem Tab16.below {w w' : World} (h : Tab16 w) (hB : Below w.heap.size w w') : Tab16 w' := ⟨(hB.cell (p := ⟨5, 15, none⟩) h.2).trans h.1, Nat.lt_of_lt_of_le h.2 hB.size⟩

theorem pow2_16 (w : World) : Calls Tryd.prog 66 #[.int .i64 16] w fun e w' => e = .returned (.bool true) ∧ w = w' := by
  go_enter Tryd.func66, Tryd.ntmps66
  go_wp2
  go_ret
  exact ⟨rfl, rfl⟩
theorem tz64_16 (w : World) (h : Tab16 w) : Calls Tryd.prog 74 #[.int .u64 16] w fun e w' => e = .returned (.int .i64 4) ∧ w = w' := by
  have h1 := h.1
  have e1 : bits BinOp.and IntKind.u64 16 (IntKind.u64.wrap (-16)) = 16 := by kernel_rfl
  have e2 : IntKind.u64.wrap (16 * 285870213051353865) = 4573923408821661840 := by kernel_rfl
  clear h
  go_enter Tryd.func74, Tryd.ntmps74
  go_wp2
  go_ret
  exact ⟨rfl, rfl⟩
theorem tz_16 (w : World) (h : Tab16 w) : Calls Tryd.prog 67 #[.int .u64 16] w fun e w' => e = .returned (.int .i64 4) ∧ w = w' := by
  have HH := Lib.hid (tz64_16 w h)
  clear h
  go_enter Tryd.func67, Tryd.ntmps67
  go_wp2_with (go_at_call 74; refine HH.out.mono ?_; rintro e w2 ⟨rfl, rfl⟩)
  go_ret
  exact ⟨rfl, rfl⟩
end Go.Proofs.YtnmpgjodndfoiaaDoor
