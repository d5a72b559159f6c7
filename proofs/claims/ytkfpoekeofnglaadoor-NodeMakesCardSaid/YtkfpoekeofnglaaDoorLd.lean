/-
  WHAT THE LISTED TABLES GIVE: the table of tens; the door's own heap meets the condition.
-/
import Derived.Test.YtkfpoekeofnglaaDoorRows
import Derived.Test.YtkfpoekeofnglaaDoorFu
import Derived.Test.YtkfpoekeofnglaaDoorLift
import Derived.Test.YtkfpoekeofnglaaDoorOn
import Derived.LaidMore
import Derived.OpenShut
import Derived.Stop.Joined
import Derived.Lib.LaidTab
import Derived.Stop.LaidErr
import Derived.SevenTiedAt
namespace Go.Proofs.YtkfpoekeofnglaaDoor
open Go.RowKit

abbrev laid3 : List (String × DataW Unit) := [("math/bits.deBruijn32tab", Rows.laid_math_bits_deBruijn32tab), ("math/bits.deBruijn64tab", Rows.laid_math_bits_deBruijn64tab), ("internal/strconv.uint64pow10", Rows.laid_internal_strconv_uint64pow10)]
theorem dat10 : (Rows.laid_internal_strconv_uint64pow10 : DataW Unit) = Lib.tabData .u64 Lib.pow10Tab := rfl
theorem g10 : Tryd.prog.globalNamed "internal/strconv.uint64pow10" = some 0 := by kernel_rfl
theorem g10type : (Tryd.prog.globals[0]?).map (·.type) = some 95 := by kernel_rfl
theorem g10cells : Tryd.prog.cellsOf 95 = 20 := by kernel_rfl
theorem g10cell : Tryd.prog.cellsOf 22 = 1 := by kernel_rfl
theorem tens_of {W : World} {rest : List (String × DataW Unit)} {x y : String × DataW Unit} (h : laidMet Tryd.prog (x :: y :: ("internal/strconv.uint64pow10", Rows.laid_internal_strconv_uint64pow10) :: rest) W) : Tens W := by
  have h1 := laidMet.tail (laidMet.tail h)
  rw [dat10] at h1
  exact Lib.tabIs_of_head g10 g10type Tryd.underlying95 Tryd.underlying22 g10cell g10cells h1
theorem tens_laid {W : World} (h : laidMetH Tryd.prog laid3 W) : Tens W := by
  rw [MakeChecks.laidMetH_plain _ _ _ (by kernel_rfl)] at h
  exact tens_of h
theorem door_met (os : Os) (args : Array Value) : laidMetH Tryd.prog laid3 ((World.doorLaid Tryd.prog 62 os).forCall (fun _ _ => 0) ⟨#[], args, []⟩).memory :=
  laidMetH_of_parts3 (fuel := 8) (laidMet_of_run' 8 (by kernel_rfl) (by kernel_rfl)) (by kernel_rfl) (by kernel_rfl)
end Go.Proofs.YtkfpoekeofnglaaDoor
