/-
 pmem.Mem.Store where rows may be cut: a contract.
-/
import Derived.Test.YtodgfbjjjgohgaaGreatSoH
import Derived.Test.YtodgfbjjjgohgaaGreatRwH
namespace Go.Proofs.YtodgfbjjjgohgaaGreat
open Go.RowKit Go.Maps
set_option linter.unusedVariables false

structure MemC (w : World) (N0 mb : Nat) (vs is : List Int) (vv vi : Value) (ml n : Nat) (D : DataW Value) (sl : Int -> Value) (mk : Int -> Nat -> Int) (F : Int -> List (Int × Int)) (lo st fl fe : Int) : Prop where
 m : MemB w mb vs is vv vi ml lo st fl fe
 o : OwnL w ml n D
 e : ∀ a, hasL D a (.agg (lnCells (sl a) (mk a)))
 r : ∀ a, RowC w N0 (sl a) (F a)
 d : ∀ a a' i, a ≠ a' -> (sl a).ownBlock = some i -> (sl a').ownBlock ≠ some i
 lt : ∀ i, i = mb ∨ i = ml ∨ vv.ownBlock = some i ∨ vi.ownBlock = some i -> i < N0
 x : ml ≠ mb /\ vv.ownBlock ≠ some ml /\ vi.ownBlock ≠ some ml
 xv : ∀ i, vv.ownBlock = some i -> vi.ownBlock ≠ some i
def StoreP (w : World) (N0 mb : Nat) (vs is : List Int) (vv vi : Value) (ml n : Nat) (D : DataW Value) (sl : Int -> Value) (mk : Int -> Nat -> Int) (F : Int -> List (Int × Int)) (lo st fl fe : Int) (a x : Int) (e : Ending) (w' : World) : Prop :=
 e = .returned (.int .i64 0) /\ ∃ v' D', MemC w' N0 mb (vs.set (a / 8).toNat x) is vv vi ml (n + 1) D' (updV sl (lineOf a) v') mk (updF F (lineOf a) (F (lineOf a) ++ [(a, x)])) lo (st + 1) fl fe ∧
  D' = D.put (.int .u64 (lineOf a)) (.held (.agg (lnCells v' (mk (lineOf a))))) /\ (∀ i, v'.ownBlock = some i -> (sl (lineOf a)).ownBlock = some i ∨ w.heap.size <= i) ∧
  Keeps (fun k => k = mb ∨ k = ml ∨ vv.ownBlock = some k ∨ (sl (lineOf a)).ownBlock = some k) w w'
end Go.Proofs.YtodgfbjjjgohgaaGreat
