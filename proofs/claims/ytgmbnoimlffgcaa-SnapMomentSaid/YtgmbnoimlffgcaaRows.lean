/-
  No cell of these rows narrows 'for every input' (looked for: loops, veiled, ifaces, maps, wideKeys, modest, calm, conditions, laid).
  DERIVED. THE GIVEN ROWS OF THIS SEAT. 4 by the template 'for every input the law returns true; each argument reads behind the call as it read before'; 0 by the template 'total and deterministic' (their statements: YtgmbnoimlffgcaaTotals.lean).
  GIVEN WITH THE SEED: the statements are not yours to turn. If you find one false, say at which input.
  Laid BY PROGRAM, IN A SANDBOX (cutbox-rows.mjs): the forced cells as the released guide's own fill.sh prints them over the translation e416c552f6840dda… (all of the seat's roots in one cut). By AI agents, Wed Nov 11 2026. No macro, syntax, notation, axiom, sorry.
-/
import Derived.Test.YtgmbnoimlffgcaaChecked
import GoSem.Claim
import GoSem.ClaimJoined
import GoSem.ClaimMapViews
import Derived.JoinedTies
import Derived.KernelRfl
namespace Go.Proofs.Ytgmbnoimlffgcaa
/- THE CELL 'sum', in the pinned program and in every row, IS THE sha256 OF THE DUMP (.gsa) THAT YtgmbnoimlffgcaaProg.lean LOADS. Nothing in Lean hashes anything: it is a label: what it is worth is what the hold of that sum in a sandbox is worth. -/
noncomputable def Try.pinned : Pinned := { name := "ytgmbnoimlffgcaa", sum := "e416c552f6840ddae7d5d6d3f96ec213e55f5f7b7c0a2ff71801dba9133a26fe", checked := Try.checked }
namespace Rows
def none {H : Type} : Left H := { results := [], args := [] }

/-- 'leveelaw11.SnapReads': WHATEVER THE INPUT: true; the input reads as it did. -/
def snapReadsSpec : ChangeSpec := { name := "snapReads", fn := fun _ => fun
  | [d1, d2] => { results := [.lit (.bool true)], args := [d1, d2] }
  | _ => none }
def snapReadsRow : OpenClaim := { program := "ytgmbnoimlffgcaa", sum := "e416c552f6840ddae7d5d6d3f96ec213e55f5f7b7c0a2ff71801dba9133a26fe", func := "levee/leveelaw11.SnapReads", spec := "snapReads", inPlace := ["maps.clone"], unfollowed := true, recurses := true, apart := false }
def SnapReadsSaid : Prop := snapReadsRow.holds Try.pinned (OpenSpec.ofChange snapReadsSpec)

/-- ITS FALSE NEIGHBOUR: 'it returns false'. Refute it at one input. -/
def snapReadsWrong : ChangeSpec := { name := "snapReads", fn := fun _ => fun
  | [d1, d2] => { results := [.lit (.bool false)], args := [d1, d2] }
  | _ => none }
def SnapReadsWrongFalsely : Prop := snapReadsRow.holds Try.pinned (OpenSpec.ofChange snapReadsWrong)

/-- 'leveelaw11.SnapAlone': WHATEVER THE INPUT: true; the input reads as it did. -/
def snapAloneSpec : ChangeSpec := { name := "snapAlone", fn := fun _ => fun
  | [d1, d2] => { results := [.lit (.bool true)], args := [d1, d2] }
  | _ => none }
def snapAloneRow : OpenClaim := { program := "ytgmbnoimlffgcaa", sum := "e416c552f6840ddae7d5d6d3f96ec213e55f5f7b7c0a2ff71801dba9133a26fe", func := "levee/leveelaw11.SnapAlone", spec := "snapAlone", inPlace := ["maps.clone"], unfollowed := true, recurses := true, apart := false }
def SnapAloneSaid : Prop := snapAloneRow.holds Try.pinned (OpenSpec.ofChange snapAloneSpec)

/-- ITS FALSE NEIGHBOUR: 'it returns false'. Refute it at one input. -/
def snapAloneWrong : ChangeSpec := { name := "snapAlone", fn := fun _ => fun
  | [d1, d2] => { results := [.lit (.bool false)], args := [d1, d2] }
  | _ => none }
def SnapAloneWrongFalsely : Prop := snapAloneRow.holds Try.pinned (OpenSpec.ofChange snapAloneWrong)

/-- 'leveelaw11.SnapNil': WHATEVER THE INPUT: true; the input reads as it did. -/
def snapNilSpec : ChangeSpec := { name := "snapNil", fn := fun _ => fun
  | [] => { results := [.lit (.bool true)], args := [] }
  | _ => none }
def snapNilRow : OpenClaim := { program := "ytgmbnoimlffgcaa", sum := "e416c552f6840ddae7d5d6d3f96ec213e55f5f7b7c0a2ff71801dba9133a26fe", func := "levee/leveelaw11.SnapNil", spec := "snapNil", inPlace := ["maps.clone"], unfollowed := true, recurses := true, apart := false }
def SnapNilSaid : Prop := snapNilRow.holds Try.pinned (OpenSpec.ofChange snapNilSpec)

/-- ITS FALSE NEIGHBOUR: 'it returns false'. Refute it at one input. -/
def snapNilWrong : ChangeSpec := { name := "snapNil", fn := fun _ => fun
  | [] => { results := [.lit (.bool false)], args := [] }
  | _ => none }
def SnapNilWrongFalsely : Prop := snapNilRow.holds Try.pinned (OpenSpec.ofChange snapNilWrong)

/-- 'leveelaw11.SnapMoment': WHATEVER THE INPUT: true; the input reads as it did. -/
def snapMomentSpec : ChangeSpec := { name := "snapMoment", fn := fun _ => fun
  | [d1, d2, d3, d4, d5] => { results := [.lit (.bool true)], args := [d1, d2, d3, d4, d5] }
  | _ => none }
def snapMomentRow : OpenClaim := { program := "ytgmbnoimlffgcaa", sum := "e416c552f6840ddae7d5d6d3f96ec213e55f5f7b7c0a2ff71801dba9133a26fe", func := "levee/leveelaw11.SnapMoment", spec := "snapMoment", inPlace := ["maps.clone"], unfollowed := true, recurses := true, apart := false }
def SnapMomentSaid : Prop := snapMomentRow.holds Try.pinned (OpenSpec.ofChange snapMomentSpec)

/-- ITS FALSE NEIGHBOUR: 'it returns false'. Refute it at one input. -/
def snapMomentWrong : ChangeSpec := { name := "snapMoment", fn := fun _ => fun
  | [d1, d2, d3, d4, d5] => { results := [.lit (.bool false)], args := [d1, d2, d3, d4, d5] }
  | _ => none }
def SnapMomentWrongFalsely : Prop := snapMomentRow.holds Try.pinned (OpenSpec.ofChange snapMomentWrong)

/- THE SECOND FORM. 'bulk': how many values and letters a reading holds, each counted each time it is reached (what is shared counts as often as it is met; a slice's spare places count too). A statement '..UptoSaid' is the law's where the arguments, and the package variables that the reading takes, are together of bulk at most 1048576: NARROWER than '..Said'. Prove '..Said' where nothing that the law and all that it calls make is longer than what came in: it says more and counts as full. Else prove '..UptoSaid'. A law counts once. -/
mutual
def uptoBulk {H : Type} : DataW H → Nat
  | .lit (.string bytes) => bytes.length + 1
  | .lit _ => 1
  | .nil => 1
  | .ptr d => uptoBulk d + 1
  | .slice elems spare => uptoBulkAll elems + uptoBulkAll spare + 1
  | .agg parts => uptoBulkAll parts + 1
  | .iface _ d => uptoBulk d + 1
  | .map entries => uptoBulkEntries entries + 1
  | .held _ => 1
def uptoBulkAll {H : Type} : List (DataW H) → Nat
  | [] => 0
  | d :: r => uptoBulk d + uptoBulkAll r
def uptoBulkEntries {H : Type} : List (Lit × DataW H) → Nat
  | [] => 0
  | x :: r => uptoBulkEntry x + uptoBulkEntries r
def uptoBulkEntry {H : Type} : Lit × DataW H → Nat
  | (.string bytes, d) => bytes.length + uptoBulk d + 1
  | (_, d) => uptoBulk d + 1
 end
def uptoSmall : (H : Type) → List (DataW H) → Bool := fun _ ds => decide (uptoBulkAll ds ≤ 1048576)
def OpenSpec.upto (s : _root_.Go.ChangeSpec) : _root_.Go.OpenSpec := { _root_.Go.OpenSpec.ofChange s with cond := some uptoSmall }

/-- 'leveelaw11.SnapReads', WHERE WHAT IT READS IS OF BULK AT MOST 1048576: true; the input reads as it did. -/
def snapReadsUptoRow : OpenClaim := { program := "ytgmbnoimlffgcaa", sum := "e416c552f6840ddae7d5d6d3f96ec213e55f5f7b7c0a2ff71801dba9133a26fe", func := "levee/leveelaw11.SnapReads", spec := "snapReads", inPlace := ["maps.clone"], unfollowed := true, recurses := true, apart := false, narrowed := true }
def SnapReadsUptoSaid : Prop := snapReadsUptoRow.holds Try.pinned (OpenSpec.upto snapReadsSpec)

/-- 'leveelaw11.SnapAlone', WHERE WHAT IT READS IS OF BULK AT MOST 1048576: true; the input reads as it did. -/
def snapAloneUptoRow : OpenClaim := { program := "ytgmbnoimlffgcaa", sum := "e416c552f6840ddae7d5d6d3f96ec213e55f5f7b7c0a2ff71801dba9133a26fe", func := "levee/leveelaw11.SnapAlone", spec := "snapAlone", inPlace := ["maps.clone"], unfollowed := true, recurses := true, apart := false, narrowed := true }
def SnapAloneUptoSaid : Prop := snapAloneUptoRow.holds Try.pinned (OpenSpec.upto snapAloneSpec)

/-- 'leveelaw11.SnapNil', WHERE WHAT IT READS IS OF BULK AT MOST 1048576: true; the input reads as it did. -/
def snapNilUptoRow : OpenClaim := { program := "ytgmbnoimlffgcaa", sum := "e416c552f6840ddae7d5d6d3f96ec213e55f5f7b7c0a2ff71801dba9133a26fe", func := "levee/leveelaw11.SnapNil", spec := "snapNil", inPlace := ["maps.clone"], unfollowed := true, recurses := true, apart := false, narrowed := true }
def SnapNilUptoSaid : Prop := snapNilUptoRow.holds Try.pinned (OpenSpec.upto snapNilSpec)

/-- 'leveelaw11.SnapMoment', WHERE WHAT IT READS IS OF BULK AT MOST 1048576: true; the input reads as it did. -/
def snapMomentUptoRow : OpenClaim := { program := "ytgmbnoimlffgcaa", sum := "e416c552f6840ddae7d5d6d3f96ec213e55f5f7b7c0a2ff71801dba9133a26fe", func := "levee/leveelaw11.SnapMoment", spec := "snapMoment", inPlace := ["maps.clone"], unfollowed := true, recurses := true, apart := false, narrowed := true }
def SnapMomentUptoSaid : Prop := snapMomentUptoRow.holds Try.pinned (OpenSpec.upto snapMomentSpec)

end Rows
end Go.Proofs.Ytgmbnoimlffgcaa
