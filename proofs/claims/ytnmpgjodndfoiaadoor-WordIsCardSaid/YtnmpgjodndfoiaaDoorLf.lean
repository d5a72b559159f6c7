/-
  WHAT THE FIVE LISTED VARIABLES GIVE: the table's cell and the two errors; the door's own heap meets the condition.
-/
import Derived.Test.YtnmpgjodndfoiaaDoorLd
import Derived.Test.YtnmpgjodndfoiaaDoorHl
namespace Go.Proofs.YtnmpgjodndfoiaaDoor
open Go.RowKit

abbrev laid5 : List (String × DataW Unit) := [("math/bits.deBruijn32tab", Rows.laid_math_bits_deBruijn32tab), ("math/bits.deBruijn64tab", Rows.laid_math_bits_deBruijn64tab), ("internal/strconv.uint64pow10", Rows.laid_internal_strconv_uint64pow10), ("strconv.ErrRange", Rows.laid_strconv_ErrRange), ("strconv.ErrSyntax", Rows.laid_strconv_ErrSyntax)]
theorem gSyn : Tryd.prog.globalNamed "strconv.ErrSyntax" = some 1 := by kernel_rfl
theorem gSynT : (Tryd.prog.globals[1]?).map (·.type) = some 66 := by kernel_rfl
theorem gRng : Tryd.prog.globalNamed "strconv.ErrRange" = some 2 := by kernel_rfl
theorem gRngT : (Tryd.prog.globals[2]?).map (·.type) = some 66 := by kernel_rfl
theorem esCells : Tryd.prog.cellsOf 115 = 1 := by kernel_rfl
theorem strCells : Tryd.prog.cellsOf 9 = 1 := by kernel_rfl
theorem starES : ("*errors.errorString" : String) = "*" ++ "errors.errorString" := by decide
theorem rowES (u : TypeId) (h : Tryd.prog.typeName? 3 u = some "*errors.errorString") : u = 113 :=
  typeName_ptr_named (P := Tryd.prog) (nm := "errors.errorString") (by rw [← starES]; kernel_rfl) (by kernel_rfl) (by decide) u (by rw [← starES]; exact h)
theorem errs_of {W : World} {a b c : String × DataW Unit} (h : laidMet Tryd.prog [a, b, c, ("strconv.ErrRange", Rows.laid_strconv_ErrRange), ("strconv.ErrSyntax", Rows.laid_strconv_ErrSyntax)] W) : ErrVars W := by
  have h4 := laidMet.tail (laidMet.tail (laidMet.tail h))
  have h5 := laidMet.tail h4
  obtain ⟨a1, s1, hv1, _⟩ := laid_sentinel h4 gRng gRngT Tryd.underlying66 rowES Tryd.underlying113 Tryd.underlying115 rfl rfl Tryd.underlying9 esCells strCells
  obtain ⟨a2, s2, hv2, _⟩ := laid_sentinel h5 gSyn gSynT Tryd.underlying66 rowES Tryd.underlying113 Tryd.underlying115 rfl rfl Tryd.underlying9 esCells strCells
  exact ⟨⟨_, _, by simpa using World.var?_cell gSyn hv2 0⟩, ⟨_, _, by simpa using World.var?_cell gRng hv1 0⟩⟩
theorem all_laid5 {W : World} (h : laidMetH Tryd.prog laid5 W) : Tab16 W ∧ ErrVars W := by
  rw [MakeChecks.laidMetH_plain _ _ _ (by kernel_rfl)] at h
  exact ⟨tab16_of h, errs_of h⟩
theorem tab16_laid5 {W : World} (h : laidMetH Tryd.prog laid5 W) : Tab16 W := (all_laid5 h).1
theorem door_met5 (os : Os) (args : Array Value) : laidMetH Tryd.prog laid5 ((World.doorLaid Tryd.prog 62 os).forCall (fun _ _ => 0) ⟨#[], args, []⟩).memory :=
  laidMetH_of_parts3 (fuel := 8) (laidMet_of_run' 8 (by kernel_rfl) (by kernel_rfl)) (by kernel_rfl) (by kernel_rfl)
end Go.Proofs.YtnmpgjodndfoiaaDoor
