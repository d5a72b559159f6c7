/-
  pmem.Mem.Flush: a contract.
-/
import Derived.Test.YtodgfbjjjgohgaaGreatLtQ
namespace Go.Proofs.YtodgfbjjjgohgaaGreat
open Go.RowKit Go.Maps
set_option linter.unusedVariables false

def StA (ia ib : Nat) (W4 : World) (s0 : Value) (f0 : Nat → Int) (L : Nat → Bool) : World :=
  if L ib then (W4.drew.alloc (.cells (lnCells (.slice none 0 0) (fun _ => 0)) 95)).setRow W4.heap.size (lnCells s0 f0)
  else if L ia then W4.drew.alloc (.cells (lnCells (.slice none 0 0) (fun _ => 0)) 95) else W4.drew
theorem StA.keeps {S : Nat → Prop} (ia ib : Nat) (W4 : World) (s0 : Value) (f0 : Nat → Int) (L : Nat → Bool) : Keeps S W4 (StA ia ib W4 s0 f0 L) := by
  unfold StA
  split
  · exact keeps_setRow ((Keeps.refl S W4).drew.alloc _) (.inr (Nat.le_refl _)) _
  · split
    · exact (Keeps.refl S W4).drew.alloc _
    · exact (Keeps.refl S W4).drew
end Go.Proofs.YtodgfbjjjgohgaaGreat
