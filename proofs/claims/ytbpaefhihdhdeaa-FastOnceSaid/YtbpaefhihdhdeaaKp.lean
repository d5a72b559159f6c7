/-
  The chapter's node: what is inserted, and deleted, in plain numbers.
-/
import Derived.Test.YtbpaefhihdhdeaaFs
namespace Go.Proofs.Ytbpaefhihdhdeaa
open Go.RowKit

def kN (ct : Int) : Nd := { lv := 0, lo := 0, nx := 0, ct := ct, fi := 1088, k := eK [(5, 2112), (9, 2176)], p := eP [(5, 2112), (9, 2176)] }
theorem kN_ins : insE 1088 (kN 4) 7 2240 = 0 ∧ insP 1088 (kN 4) 7 2240 = [(1112, 5), (1208, 0), (1192, 2176), (1184, 9), (1176, 2112), (1168, 7), (1176, 2240), (1112, 6)] := by
  decide +kernel
theorem kN_del : delE 1088 (kN 4) 5 = 0 ∧ delP 1088 (kN 4) 5 = [(1112, 5), (1160, 1088), (1152, 9), (1160, 2176), (1176, 0), (1112, 6)] := by
  decide +kernel
end Go.Proofs.Ytbpaefhihdhdeaa
