/-
  WHAT THE LISTED TABLES GIVE: the cell that base 16 reads; the door's own heap meets the condition.
-/
import Derived.Test.YtnmpgjodndfoiaaDoorRows
import Derived.Test.YtnmpgjodndfoiaaDoorHx
import Derived.Test.YtnmpgjodndfoiaaDoorLift
import Derived.LaidMore
import Derived.OpenShut
import Derived.Stop.Joined
import Derived.Lib.LaidTab
import Derived.Stop.LaidErr
import Derived.SevenTiedAt
namespace Go.Proofs.YtnmpgjodndfoiaaDoor
open Go.RowKit

def tab64 : List Int := [0, 1, 56, 2, 57, 49, 28, 3, 61, 58, 42, 50, 38, 29, 17, 4, 62, 47, 59, 36, 45, 43, 51, 22, 53, 39, 33, 30, 24, 18, 12, 5, 63, 55, 48, 27, 60, 41, 37, 16, 46, 35, 44, 21, 52, 32, 23, 11, 54, 26, 40, 15, 34, 20, 31, 10, 25, 14, 19, 9, 13, 8, 7, 6]
abbrev laid3 : List (String × DataW Unit) := [("math/bits.deBruijn32tab", Rows.laid_math_bits_deBruijn32tab), ("math/bits.deBruijn64tab", Rows.laid_math_bits_deBruijn64tab), ("internal/strconv.uint64pow10", Rows.laid_internal_strconv_uint64pow10)]
theorem dat64 : (Rows.laid_math_bits_deBruijn64tab : DataW Unit) = Lib.tabData .u8 tab64 := rfl
theorem g64 : Tryd.prog.globalNamed "math/bits.deBruijn64tab" = some 5 := by kernel_rfl
theorem g64type : (Tryd.prog.globals[5]?).map (·.type) = some 117 := by kernel_rfl
theorem g64cells : Tryd.prog.cellsOf 117 = 64 := by kernel_rfl
theorem g64cell : Tryd.prog.cellsOf 5 = 1 := by kernel_rfl
theorem tab16_of {W : World} {rest : List (String × DataW Unit)} {x : String × DataW Unit} (h : laidMet Tryd.prog (x :: ("math/bits.deBruijn64tab", Rows.laid_math_bits_deBruijn64tab) :: rest) W) : Tab16 W := by
  have h1 := laidMet.tail h
  rw [dat64] at h1
  have hT := Lib.tabIs_of_head g64 g64type Tryd.underlying117 Tryd.underlying5 g64cell g64cells h1
  have hc := hT.cell g64 15 (by decide)
  exact ⟨hc, World.block_lt_of_cell? W _ hc⟩
theorem tab16_laid {W : World} (h : laidMetH Tryd.prog laid3 W) : Tab16 W := by
  rw [MakeChecks.laidMetH_plain _ _ _ (by kernel_rfl)] at h
  exact tab16_of h
theorem door_met (os : Os) (args : Array Value) : laidMetH Tryd.prog laid3 ((World.doorLaid Tryd.prog 62 os).forCall (fun _ _ => 0) ⟨#[], args, []⟩).memory :=
  laidMetH_of_parts3 (fuel := 8) (laidMet_of_run' 8 (by kernel_rfl) (by kernel_rfl)) (by kernel_rfl) (by kernel_rfl)
end Go.Proofs.YtnmpgjodndfoiaaDoor
