/-
  node.Find, last, At: contracts.
-/
import Derived.Test.YtodgfbjjjgohgaaGreatPlQ
import Derived.StillTactics
import Derived.Deep.RegionHeld3
import Derived.Deep.AppendLies
import Derived.WalkSpells
import Derived.BigQuiet
import Derived.Deep.QuietTactic
import Derived.Test.YtodgfbjjjgohgaaGreatPQ
namespace Go.Proofs.YtodgfbjjjgohgaaGreat
open Go.RowKit

def plN (n : Nd) : List Nat := (List.range n.len).filter (fun i => n.p i != n.ahead i)
def Nd.valid (n : Nd) : List (Int × Int) := (plN n).map (fun i => (n.k i, n.p i))
end Go.Proofs.YtodgfbjjjgohgaaGreat
namespace Go.Proofs.YtodgfbjjjgohgaaGreat
open Go.RowKit

theorem ndLoad {w : World} {b : Nat} {n : Nd} (hb : Blk w b (ndCells n) 46) : ∀ j v, (ndCells n)[j]? = some v → w.cell? ⟨b, 0 + j, none⟩ = some v := by
  intro j v hv; rw [Nat.zero_add, hb.cell]; exact hv
theorem info27 (n : Nd) : (Tryz.prog.info? 46).map (·.size) = some (ndCells n).size := by rw [ndCells_size]; kernel_rfl
theorem Blk.below {w w' : World} {B b : Nat} {C : Array Value} {t : TypeId} (h : Blk w b C t) (hB : Below B w w') (hb : b < B) : Blk w' b C t := (hB.block b hb).trans h
def Nd.ok (n : Nd) (i : Nat) : Bool := n.p i != n.ahead i

end Go.Proofs.YtodgfbjjjgohgaaGreat
namespace Go.Proofs.YtodgfbjjjgohgaaGreat
open Go.RowKit

/-! ### the first place from i on, below i + d, of which t holds -/
/-- the last one below k -/
def lastF (t : Nat → Bool) : Nat → Int
  | 0 => -1
  | k + 1 => if t k = true then (k : Int) else lastF t k
def Nd.last (n : Nd) (key : Int) : Int := lastF (fun i => n.ok i && decide (n.k i ≤ key)) n.len
end Go.Proofs.YtodgfbjjjgohgaaGreat
namespace Go.Proofs.YtodgfbjjjgohgaaGreat
open Go.RowKit

end Go.Proofs.YtodgfbjjjgohgaaGreat
namespace Go.Proofs.YtodgfbjjjgohgaaGreat
open Go.RowKit

def eK (l : List (Int × Int)) (i : Nat) : Int := (l.getD i (0, 0)).1
def eP (l : List (Int × Int)) (i : Nat) : Int := (l.getD i (0, 0)).2
def dupAt (l : List (Int × Int)) (i : Nat) : Bool := (List.range i).any (fun j => eP l j == eP l i)
def badAt (lv lo fi : Int) (l : List (Int × Int)) (i : Nat) : Bool :=
  decide (eK l i < lo) || (decide (0 < lv) && (eK l i == lo)) || (decide (0 < i) && decide (eK l i ≤ eK l (i - 1))) || (eP l i == fi) || dupAt l i
def riseB (lv lo fi : Int) (l : List (Int × Int)) : Bool := (List.range l.length).all (fun i => !badAt lv lo fi l i)

/-- a slice's entries, in memory -/
def EntsAt (w : World) (g o : Nat) (l : List (Int × Int)) : Prop :=
  ∀ i, i < l.length → w.cell? ⟨g, o + i * 2, none⟩ = some (.int .u64 (eK l i)) ∧ w.cell? ⟨g, o + i * 2 + 1, none⟩ = some (.int .u64 (eP l i))

theorem EntsAt.lt {w : World} {g o : Nat} {l : List (Int × Int)} (h : EntsAt w g o l) (hn : 0 < l.length) : g < w.heap.size := World.block_lt_of_cell? w ⟨g, o + 0 * 2, none⟩ (h 0 hn).1
theorem EntsAt.below {w w' : World} {B g o : Nat} {l : List (Int × Int)} (h : EntsAt w g o l) (hB : Below B w w') (hg : g < B) : EntsAt w' g o l := by
  intro i hi
  obtain ⟨h1, h2⟩ := h i hi
  exact ⟨(hB.cell (p := ⟨g, o + i * 2, none⟩) hg).trans h1, (hB.cell (p := ⟨g, o + i * 2 + 1, none⟩) hg).trans h2⟩
theorem ecells_get (l : List (Int × Int)) : ∀ i, i < l.length → (ecells l)[i * 2]? = some (.int .u64 (eK l i)) ∧ (ecells l)[i * 2 + 1]? = some (.int .u64 (eP l i)) := by
  induction l with
  | nil => intro i h; simp at h
  | cons x r ih =>
    intro i h
    cases i with
    | zero => simp [ecells, eK, eP]
    | succ i =>
      have := ih i (by simpa using h)
      have e : ecells (x :: r) = .int .u64 x.1 :: .int .u64 x.2 :: ecells r := by simp [ecells]
      rw [e, show (i + 1) * 2 = i * 2 + 1 + 1 by omega]
      simpa [eK, eP] using this
end Go.Proofs.YtodgfbjjjgohgaaGreat
namespace Go.Proofs.YtodgfbjjjgohgaaGreat
open Go.RowKit

/-- may a node be? -/
def Nd.mayB (n : Nd) (high : Int) (has : Bool) : Bool :=
  !(decide (n.lv < 0) || decide (15 < n.lv) || (n.fi == 0) || (has && decide (high ≤ n.lo))) && (decide (n.len ≤ n.valid.length + 1) && riseB n.lv n.lo n.fi n.valid)

end Go.Proofs.YtodgfbjjjgohgaaGreat
namespace Go.Proofs.YtodgfbjjjgohgaaGreat
open Go.RowKit

end Go.Proofs.YtodgfbjjjgohgaaGreat
namespace Go.Proofs.YtodgfbjjjgohgaaGreat
open Go.RowKit

end Go.Proofs.YtodgfbjjjgohgaaGreat
namespace Go.Proofs.YtodgfbjjjgohgaaGreat
open Go.RowKit

end Go.Proofs.YtodgfbjjjgohgaaGreat
namespace Go.Proofs.YtodgfbjjjgohgaaGreat
open Go.RowKit

end Go.Proofs.YtodgfbjjjgohgaaGreat
namespace Go.Proofs.YtodgfbjjjgohgaaGreat
open Go.RowKit

/-! ### the first and the last place, in plain numbers -/
def plA (n : Nd) (j : Nat) : Nat := (plN n).getD j 0
/-! ### the walks -/
/-- a row of places, as it lies -/
def PlAt (w : World) (g : Nat) (n : Nd) : Prop := ∀ j, j < (plN n).length → w.cell? ⟨g, j, none⟩ = some (.int .i64 (plA n j : Nat))
theorem PlAt.below {w w' : World} {B g : Nat} {n : Nd} (h : PlAt w g n) (hB : Below B w w') (hg : g < B) : PlAt w' g n := fun j hj => (hB.cell (p := ⟨g, j, none⟩) hg).trans (h j hj)
end Go.Proofs.YtodgfbjjjgohgaaGreat
