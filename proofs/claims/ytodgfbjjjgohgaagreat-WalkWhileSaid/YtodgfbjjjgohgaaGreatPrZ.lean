/-
 THE REFERENCE's Pack: contract.
-/
import Derived.Test.YtodgfbjjjgohgaaGreatPZ
namespace Go.Proofs.YtodgfbjjjgohgaaGreat
open Go.RowKit

end Go.Proofs.YtodgfbjjjgohgaaGreat
