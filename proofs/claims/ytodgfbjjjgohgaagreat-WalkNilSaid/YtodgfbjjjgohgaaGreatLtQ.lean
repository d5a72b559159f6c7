/-
  pmem.Mem.last: a contract.
-/
import Derived.Test.YtodgfbjjjgohgaaGreatSpQ
import Derived.Deep.Cut
namespace Go.Proofs.YtodgfbjjjgohgaaGreat
open Go.RowKit Go.Maps
set_option linter.unusedVariables false

def lastIm (is : List Int) (l : List (Int × Int)) : List Int := l.foldl (fun is p => is.set (p.1 / 8).toNat p.2) is
theorem lastIm_len (l : List (Int × Int)) : ∀ is, (lastIm is l).length = is.length := by
  induction l with
  | nil => intro is; rfl
  | cons p r ih => intro is; show (lastIm (is.set _ _) r).length = _; rw [ih, List.length_set]
def mkM (f : Nat → Int) (m : Int) (c : Nat) : Nat → Int := fun i => if i < c then max (f i - m) 0 else f i
theorem lnCells_congr (X : Value) {f g : Nat → Int} (h : ∀ i, i < 65 → f i = g i) : lnCells X f = lnCells X g := by
  unfold lnCells mkList
  congr 2
  exact List.map_congr_left (fun i hi => by rw [h i (List.mem_range.1 hi)])
theorem lnCells_at (X : Value) (f : Nat → Int) (c : Nat) (h : c < 65) : (lnCells X f)[1 + c]? = some (.int .i64 (f c)) := by
  unfold lnCells mkList
  rw [Nat.add_comm]
  simp [h]
theorem lnCells_setM (X : Value) (f : Nat → Int) (m : Int) (c : Nat) (h : c < 65) : (lnCells X (mkM f m c)).setIfInBounds (1 + c) (.int .i64 (max (f c - m) 0)) = lnCells X (mkM f m (c + 1)) := by
  apply Array.ext_getElem?
  intro i
  rw [Array.getElem?_setIfInBounds, lnCells_size]
  by_cases e : 1 + c = i
  · subst e
    rw [if_pos rfl, if_pos (by omega), lnCells_at _ _ _ h]
    unfold mkM; rw [if_pos (by omega)]
  · rw [if_neg e]
    match i with
    | 0 => rw [lnCells_0, lnCells_0]
    | i + 1 =>
      rw [Nat.add_comm i 1]
      by_cases hi : i < 65
      · rw [lnCells_at _ _ _ hi, lnCells_at _ _ _ hi]
        unfold mkM
        by_cases h1 : i < c
        · rw [if_pos h1, if_pos (by omega)]
        · rw [if_neg h1, if_neg (by omega)]
      · rw [Array.getElem?_eq_none (by rw [lnCells_size]; omega), Array.getElem?_eq_none (by rw [lnCells_size]; omega)]
/-- j of its stores have lasted -/
structure LsI (w2 : World) (mb : Nat) (vs is : List Int) (vv vi : Value) (ml : Nat) (lo st fl fe : Int) (l : List (Int × Int)) (j : Nat) (wq : World) : Prop where
  m : MemB wq mb vs (lastIm is (l.take j)) vv vi ml lo st fl fe
  kp : Keeps (fun i => vi.ownBlock = some i ∨ w2.heap.size ≤ i) w2 wq
def LastK (w : World) (N0 mb : Nat) (vs is : List Int) (vv vi : Value) (ml n : Nat) (D : DataW Value) (sl : Int → Value) (mk : Int → Nat → Int) (F : Int → List (Int × Int)) (lo st fl fe : Int) (at_ k : Int) (e : Ending) (w' : World) : Prop :=
  e = .returned (.int .i64 (min k ((F at_).length : Int))) ∧
      ∃ s' f' D', MemC w' N0 mb vs (lastIm is ((F at_).take k.toNat)) vv vi ml (n + 1) D' (updV sl at_ s') (fun a => if a = at_ then f' else mk a) (updF F at_ ((F at_).drop k.toNat)) lo st fl fe ∧
        (∀ c, f' c = if (F at_).drop k.toNat = [] then 0 else max (mk at_ c - min k ((F at_).length : Int)) 0) ∧ Keeps (fun i => i = ml ∨ vi.ownBlock = some i ∨ w.heap.size ≤ i) w w' ∧
        (∀ i, s'.ownBlock = some i → (sl at_).ownBlock = some i) ∧ (∀ b, Maps.has D' (.int .u64 b) = if b = at_ then decide (¬ (F at_).drop k.toNat = []) else Maps.has D (.int .u64 b))
end Go.Proofs.YtodgfbjjjgohgaaGreat
