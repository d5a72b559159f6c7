/-
  node.Places, node.Invalid: contracts.
-/
import Derived.Test.YtodgfbjjjgohgaaGreatNdQ
import Derived.RangeFuncNested
import Derived.RangeFuncBound
import Derived.RangeFuncCalls
import Derived.RangeFuncLeaves
import Derived.RangeFuncBox
import Derived.Shelf.Abstract
import Derived.Shelf.RegionOpen
import Derived.OwnWalkIn
import Derived.TacticsInMore
import Derived.LoopNIn
import Derived.LoopIn
import Derived.Outline
import Derived.Maps.AppendAt
namespace Go.Proofs.YtodgfbjjjgohgaaGreat
open Go.RowKit Go.Shelf
attribute [local go_sem] Oper.semAt_some

/-- the pointer ahead of a place -/
def Nd.ahead (n : Nd) : Nat → Int
  | 0 => n.fi
  | i + 1 => n.p i
/-- how many entries there are, of those from a place on, at most d -/
def Nd.lenFrom (n : Nd) : Nat → Nat → Nat
  | 0, _ => 0
  | d + 1, i => if n.p i = 0 then 0 else n.lenFrom d (i + 1) + 1
def Nd.len (n : Nd) : Nat := n.lenFrom 8 0
def Nd.ents (n : Nd) : List (Int × Bool) := (List.range n.len).map (fun (i : Nat) => ((i : Int), n.p i != n.ahead i))

theorem lenFrom_le (n : Nd) : ∀ d i, n.lenFrom d i ≤ d := by
  intro d
  induction d with
  | zero => intro i; simp [Nd.lenFrom]
  | succ d ih => intro i; unfold Nd.lenFrom; split; omega; have := ih (i + 1); omega
theorem Nd.len_le (n : Nd) : n.len ≤ 8 := lenFrom_le n 8 0
theorem lenFrom_lt (n : Nd) : ∀ d i j, i ≤ j → j < i + n.lenFrom d i → n.p j ≠ 0 := by
  intro d
  induction d with
  | zero => intro i j h1 h2; simp [Nd.lenFrom] at h2; omega
  | succ d ih =>
    intro i j h1 h2
    unfold Nd.lenFrom at h2
    split at h2
    · omega
    · rename_i hp
      by_cases e : j = i
      · subst e; exact hp
      · exact ih (i + 1) j (by omega) (by omega)
theorem lenFrom_end (n : Nd) : ∀ d i, n.lenFrom d i < d → n.p (i + n.lenFrom d i) = 0 := by
  intro d
  induction d with
  | zero => intro i h; omega
  | succ d ih =>
    intro i h
    unfold Nd.lenFrom at h ⊢
    split
    · rename_i hp; simpa using hp
    · rename_i hp
      rw [if_neg hp] at h
      have := ih (i + 1) (by omega)
      rw [show i + (n.lenFrom d (i + 1) + 1) = i + 1 + n.lenFrom d (i + 1) by omega]
      exact this
theorem Nd.p_lt (n : Nd) (j : Nat) (h : j < n.len) : n.p j ≠ 0 := lenFrom_lt n 8 0 j (by omega) (by unfold Nd.len at h; omega)
theorem Nd.p_len (n : Nd) (h : n.len < 8) : n.p n.len = 0 := by
  have := lenFrom_end n 8 0 h
  simpa [Nd.len] using this

end Go.Proofs.YtodgfbjjjgohgaaGreat
namespace Go.Proofs.YtodgfbjjjgohgaaGreat
open Go.RowKit Go.Shelf
attribute [local go_sem] Oper.semAt_some

end Go.Proofs.YtodgfbjjjgohgaaGreat
namespace Go.Proofs.YtodgfbjjjgohgaaGreat
open Go.RowKit Go.Shelf
attribute [local go_sem] Oper.semAt_some

def plc (pre : List (Int × Bool)) : List Int := (pre.filter (·.2)).map (·.1)
def Nd.places (n : Nd) : List Int := plc n.ents

end Go.Proofs.YtodgfbjjjgohgaaGreat
