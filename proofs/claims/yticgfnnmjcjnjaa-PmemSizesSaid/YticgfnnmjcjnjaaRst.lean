/-
  A STEP OF A RUN, of any phase: what it answers and what it leaves.
-/
import Derived.Test.YticgfnnmjcjnjaaRlm
import Derived.Test.YticgfnnmjcjnjaaRlm
namespace Go.Proofs.Yticgfnnmjcjnjaa
open Go.RowKit
set_option linter.unusedVariables false

/-- a memory's data -/
structure MSt where
  mkMSt ::
  vs : List Int
  is : List Int
  mk : Int → Nat → Int
  F : Int → List (Int × Int)
  lo : Int
  st : Int
  fl : Int
  fe : Int
def MemD (w : World) (mb : Nat) (S : Nat → Prop) (M : MSt) : Prop := MemP w mb S M.vs M.is M.mk M.F M.lo M.st M.fl M.fe
end Go.Proofs.Yticgfnnmjcjnjaa
