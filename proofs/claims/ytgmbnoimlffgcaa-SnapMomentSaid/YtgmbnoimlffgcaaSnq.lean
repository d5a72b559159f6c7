/-
  The law SnapReads: the walk.
-/
import Derived.Test.YtgmbnoimlffgcaaMoe
namespace Go.Proofs.Ytgmbnoimlffgcaa
open Go.RowKit
attribute [local go_sem] Oper.semAt_some
set_option linter.unusedVariables false

/-- the worlds of a drawn region with one store, at j -/
structure LdJ (w3 : World) (S0 : Nat → Prop) (mb : Nat) (wr : World) (vs : List Int) (st : Int) (j : Nat) (L : Nat → Bool) (W : World) : Prop where
  n : L j = false → W = wr.drew
  y : L j = true → MemE w3 S0 mb vs 0 st 0 0 W
  k : Keeps (SE w3 S0) wr W
theorem LdJ.keep {w3 : World} {S0 : Nat → Prop} {mb : Nat} {wr : World} {vs : List Int} {st : Int} {j : Nat} {L L' : Nat → Bool} {W : World} (h : LdJ w3 S0 mb wr vs st j L W) (e : L' j = L j) : LdJ w3 S0 mb wr vs st j L' W := ⟨by rw [e]; exact h.n, by rw [e]; exact h.y, h.k⟩
end Go.Proofs.Ytgmbnoimlffgcaa
