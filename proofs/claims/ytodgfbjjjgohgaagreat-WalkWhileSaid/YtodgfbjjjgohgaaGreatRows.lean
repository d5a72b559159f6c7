/-
  No cell of these rows narrows 'for every input' (looked for: loops, veiled, ifaces, maps, wideKeys, modest, calm, conditions, laid).
  DERIVED. THE GIVEN ROWS OF THIS SEAT. 4 by the template 'for every input the law returns true; each argument reads behind the call as it read before'; 0 by the template 'total and deterministic' (their statements: YtodgfbjjjgohgaaGreatTotals.lean).
  GIVEN WITH THE SEED: the statements are not yours to turn. If you find one false, say at which input.
  Laid BY PROGRAM, IN A SANDBOX (cutbox-rows.mjs): the forced cells as the released guide's own fill.sh prints them over the translation 1a3253765b8b595b… (all of the seat's roots in one cut). By AI agents, Wed Nov 11 2026. No macro, syntax, notation, axiom, sorry.
-/
import Derived.Test.YtodgfbjjjgohgaaGreatChecked
import GoSem.Claim
import GoSem.ClaimJoined
import GoSem.ClaimMapViews
import Derived.JoinedTies
import Derived.KernelRfl
namespace Go.Proofs.YtodgfbjjjgohgaaGreat
/- THE CELL 'sum', in the pinned program and in every row, IS THE sha256 OF THE DUMP (.gsa) THAT YtodgfbjjjgohgaaGreatProg.lean LOADS. Nothing in Lean hashes anything: it is a label: what it is worth is what the hold of that sum in a sandbox is worth. -/
noncomputable def Tryz.pinned : Pinned := { name := "ytodgfbjjjgohgaagreat", sum := "1a3253765b8b595b9d87783221da941ca2bc8bfd8050ee536bffc87f5012bf5d", checked := Tryz.checked }
namespace Rows
def none {H : Type} : Left H := { results := [], args := [] }

/-- 'leveelaw14.WalkHops': WHATEVER THE INPUT: true; the input reads as it did. -/
def walkHopsSpec : ChangeSpec := { name := "walkHops", fn := fun _ => fun
  | [d1, d2, d3] => { results := [.lit (.bool true)], args := [d1, d2, d3] }
  | _ => none }
def walkHopsRow : OpenClaim := { program := "ytodgfbjjjgohgaagreat", sum := "1a3253765b8b595b9d87783221da941ca2bc8bfd8050ee536bffc87f5012bf5d", func := "levee/leveelaw14.WalkHops", spec := "walkHops", unfollowed := true, recurses := true, apart := false }
def WalkHopsSaid : Prop := walkHopsRow.holds Tryz.pinned (OpenSpec.ofChange walkHopsSpec)

/-- ITS FALSE NEIGHBOUR: 'it returns false'. Refute it at one input. -/
def walkHopsWrong : ChangeSpec := { name := "walkHops", fn := fun _ => fun
  | [d1, d2, d3] => { results := [.lit (.bool false)], args := [d1, d2, d3] }
  | _ => none }
def WalkHopsWrongFalsely : Prop := walkHopsRow.holds Tryz.pinned (OpenSpec.ofChange walkHopsWrong)

/-- 'leveelaw14.WalkWhile': WHATEVER THE INPUT: true; the input reads as it did. -/
def walkWhileSpec : ChangeSpec := { name := "walkWhile", fn := fun _ => fun
  | [d1, d2, d3, d4, d5] => { results := [.lit (.bool true)], args := [d1, d2, d3, d4, d5] }
  | _ => none }
def walkWhileRow : OpenClaim := { program := "ytodgfbjjjgohgaagreat", sum := "1a3253765b8b595b9d87783221da941ca2bc8bfd8050ee536bffc87f5012bf5d", func := "levee/leveelaw14.WalkWhile", spec := "walkWhile", unfollowed := true, recurses := true, apart := false }
def WalkWhileSaid : Prop := walkWhileRow.holds Tryz.pinned (OpenSpec.ofChange walkWhileSpec)

/-- ITS FALSE NEIGHBOUR: 'it returns false'. Refute it at one input. -/
def walkWhileWrong : ChangeSpec := { name := "walkWhile", fn := fun _ => fun
  | [d1, d2, d3, d4, d5] => { results := [.lit (.bool false)], args := [d1, d2, d3, d4, d5] }
  | _ => none }
def WalkWhileWrongFalsely : Prop := walkWhileRow.holds Tryz.pinned (OpenSpec.ofChange walkWhileWrong)

/-- 'leveelaw14.WalkNil': WHATEVER THE INPUT: true; the input reads as it did. -/
def walkNilSpec : ChangeSpec := { name := "walkNil", fn := fun _ => fun
  | [] => { results := [.lit (.bool true)], args := [] }
  | _ => none }
def walkNilRow : OpenClaim := { program := "ytodgfbjjjgohgaagreat", sum := "1a3253765b8b595b9d87783221da941ca2bc8bfd8050ee536bffc87f5012bf5d", func := "levee/leveelaw14.WalkNil", spec := "walkNil", unfollowed := true, recurses := true, apart := false }
def WalkNilSaid : Prop := walkNilRow.holds Tryz.pinned (OpenSpec.ofChange walkNilSpec)

/-- ITS FALSE NEIGHBOUR: 'it returns false'. Refute it at one input. -/
def walkNilWrong : ChangeSpec := { name := "walkNil", fn := fun _ => fun
  | [] => { results := [.lit (.bool false)], args := [] }
  | _ => none }
def WalkNilWrongFalsely : Prop := walkNilRow.holds Tryz.pinned (OpenSpec.ofChange walkNilWrong)

/-- 'leveelaw14.WalkLasts': WHATEVER THE INPUT: true; the input reads as it did. -/
def walkLastsSpec : ChangeSpec := { name := "walkLasts", fn := fun _ => fun
  | [d1, d2, d3] => { results := [.lit (.bool true)], args := [d1, d2, d3] }
  | _ => none }
def walkLastsRow : OpenClaim := { program := "ytodgfbjjjgohgaagreat", sum := "1a3253765b8b595b9d87783221da941ca2bc8bfd8050ee536bffc87f5012bf5d", func := "levee/leveelaw14.WalkLasts", spec := "walkLasts", unfollowed := true, recurses := true, apart := false }
def WalkLastsSaid : Prop := walkLastsRow.holds Tryz.pinned (OpenSpec.ofChange walkLastsSpec)

/-- ITS FALSE NEIGHBOUR: 'it returns false'. Refute it at one input. -/
def walkLastsWrong : ChangeSpec := { name := "walkLasts", fn := fun _ => fun
  | [d1, d2, d3] => { results := [.lit (.bool false)], args := [d1, d2, d3] }
  | _ => none }
def WalkLastsWrongFalsely : Prop := walkLastsRow.holds Tryz.pinned (OpenSpec.ofChange walkLastsWrong)

/- THE SECOND FORM. 'bulk': how many values and letters a reading holds, each counted each time it is reached (what is shared counts as often as it is met; a slice's spare places count too). A statement '..UptoSaid' is the law's where the arguments, and the package variables that the reading takes, are together of bulk at most 1048576: NARROWER than '..Said'. Prove '..Said' where nothing that the law and all that it calls make is longer than what came in: it says more and counts as full. Else prove '..UptoSaid'. A law counts once. -/
mutual
def uptoBulk {H : Type} : DataW H → Nat
  | .lit (.string bytes) => bytes.length + 1
  | .lit _ => 1
  | .nil => 1
  | .ptr d => uptoBulk d + 1
  | .slice elems spare => uptoBulkAll elems + uptoBulkAll spare + 1
  | .agg parts => uptoBulkAll parts + 1
  | .iface _ d => uptoBulk d + 1
  | .map entries => uptoBulkEntries entries + 1
  | .held _ => 1
def uptoBulkAll {H : Type} : List (DataW H) → Nat
  | [] => 0
  | d :: r => uptoBulk d + uptoBulkAll r
def uptoBulkEntries {H : Type} : List (Lit × DataW H) → Nat
  | [] => 0
  | x :: r => uptoBulkEntry x + uptoBulkEntries r
def uptoBulkEntry {H : Type} : Lit × DataW H → Nat
  | (.string bytes, d) => bytes.length + uptoBulk d + 1
  | (_, d) => uptoBulk d + 1
 end
def uptoSmall : (H : Type) → List (DataW H) → Bool := fun _ ds => decide (uptoBulkAll ds ≤ 1048576)
def OpenSpec.upto (s : _root_.Go.ChangeSpec) : _root_.Go.OpenSpec := { _root_.Go.OpenSpec.ofChange s with cond := some uptoSmall }

/-- 'leveelaw14.WalkHops', WHERE WHAT IT READS IS OF BULK AT MOST 1048576: true; the input reads as it did. -/
def walkHopsUptoRow : OpenClaim := { program := "ytodgfbjjjgohgaagreat", sum := "1a3253765b8b595b9d87783221da941ca2bc8bfd8050ee536bffc87f5012bf5d", func := "levee/leveelaw14.WalkHops", spec := "walkHops", unfollowed := true, recurses := true, apart := false, narrowed := true }
def WalkHopsUptoSaid : Prop := walkHopsUptoRow.holds Tryz.pinned (OpenSpec.upto walkHopsSpec)

/-- 'leveelaw14.WalkWhile', WHERE WHAT IT READS IS OF BULK AT MOST 1048576: true; the input reads as it did. -/
def walkWhileUptoRow : OpenClaim := { program := "ytodgfbjjjgohgaagreat", sum := "1a3253765b8b595b9d87783221da941ca2bc8bfd8050ee536bffc87f5012bf5d", func := "levee/leveelaw14.WalkWhile", spec := "walkWhile", unfollowed := true, recurses := true, apart := false, narrowed := true }
def WalkWhileUptoSaid : Prop := walkWhileUptoRow.holds Tryz.pinned (OpenSpec.upto walkWhileSpec)

/-- 'leveelaw14.WalkNil', WHERE WHAT IT READS IS OF BULK AT MOST 1048576: true; the input reads as it did. -/
def walkNilUptoRow : OpenClaim := { program := "ytodgfbjjjgohgaagreat", sum := "1a3253765b8b595b9d87783221da941ca2bc8bfd8050ee536bffc87f5012bf5d", func := "levee/leveelaw14.WalkNil", spec := "walkNil", unfollowed := true, recurses := true, apart := false, narrowed := true }
def WalkNilUptoSaid : Prop := walkNilUptoRow.holds Tryz.pinned (OpenSpec.upto walkNilSpec)

/-- 'leveelaw14.WalkLasts', WHERE WHAT IT READS IS OF BULK AT MOST 1048576: true; the input reads as it did. -/
def walkLastsUptoRow : OpenClaim := { program := "ytodgfbjjjgohgaagreat", sum := "1a3253765b8b595b9d87783221da941ca2bc8bfd8050ee536bffc87f5012bf5d", func := "levee/leveelaw14.WalkLasts", spec := "walkLasts", unfollowed := true, recurses := true, apart := false, narrowed := true }
def WalkLastsUptoSaid : Prop := walkLastsUptoRow.holds Tryz.pinned (OpenSpec.upto walkLastsSpec)

end Rows
end Go.Proofs.YtodgfbjjjgohgaaGreat
