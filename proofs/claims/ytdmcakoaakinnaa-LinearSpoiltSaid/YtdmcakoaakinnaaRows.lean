/-
  No cell of these rows narrows 'for every input' (looked for: loops, veiled, ifaces, maps, wideKeys, modest, calm, conditions, laid).
  DERIVED. THE GIVEN ROWS OF THIS SEAT. 4 by the template 'for every input the law returns true; each argument reads behind the call as it read before'; 0 by the template 'total and deterministic' (their statements: YtdmcakoaakinnaaTotals.lean).
  GIVEN WITH THE SEED: the statements are not yours to turn. If you find one false, say at which input.
  Laid BY PROGRAM, IN A SANDBOX (cutbox-rows.mjs): the forced cells as the released guide's own fill.sh prints them over the translation 07259b6cf91ddecb… (all of the seat's roots in one cut). By AI agents, Wed Nov 11 2026. No macro, syntax, notation, axiom, sorry.
-/
import Derived.Test.YtdmcakoaakinnaaChecked
import GoSem.Claim
import GoSem.ClaimJoined
import GoSem.ClaimMapViews
import Derived.JoinedTies
import Derived.KernelRfl
namespace Go.Proofs.Ytdmcakoaakinnaa
/- THE CELL 'sum', in the pinned program and in every row, IS THE sha256 OF THE DUMP (.gsa) THAT YtdmcakoaakinnaaProg.lean LOADS. Nothing in Lean hashes anything: it is a label: what it is worth is what the hold of that sum in a sandbox is worth. -/
noncomputable def Try.pinned : Pinned := { name := "ytdmcakoaakinnaa", sum := "07259b6cf91ddecb127ce04643161382c5a555a04b1ccef2caa6cdb475e663b8", checked := Try.checked }
namespace Rows
def none {H : Type} : Left H := { results := [], args := [] }

/-- 'leveelaw28.LinearKey': WHATEVER THE INPUT: true; the input reads as it did. -/
def linearKeySpec : ChangeSpec := { name := "linearKey", fn := fun _ => fun
  | [d1, d2, d3] => { results := [.lit (.bool true)], args := [d1, d2, d3] }
  | _ => none }
def linearKeyRow : OpenClaim := { program := "ytdmcakoaakinnaa", sum := "07259b6cf91ddecb127ce04643161382c5a555a04b1ccef2caa6cdb475e663b8", func := "levee/leveelaw28.LinearKey", spec := "linearKey", unfollowed := true, recurses := true, plainKeys := false, apart := false }
def LinearKeySaid : Prop := linearKeyRow.holds Try.pinned (OpenSpec.ofChange linearKeySpec)

/-- ITS FALSE NEIGHBOUR: 'it returns false'. Refute it at one input. -/
def linearKeyWrong : ChangeSpec := { name := "linearKey", fn := fun _ => fun
  | [d1, d2, d3] => { results := [.lit (.bool false)], args := [d1, d2, d3] }
  | _ => none }
def LinearKeyWrongFalsely : Prop := linearKeyRow.holds Try.pinned (OpenSpec.ofChange linearKeyWrong)

/-- 'leveelaw28.LinearSpoilt': WHATEVER THE INPUT: true; the input reads as it did. -/
def linearSpoiltSpec : ChangeSpec := { name := "linearSpoilt", fn := fun _ => fun
  | [d1, d2] => { results := [.lit (.bool true)], args := [d1, d2] }
  | _ => none }
def linearSpoiltRow : OpenClaim := { program := "ytdmcakoaakinnaa", sum := "07259b6cf91ddecb127ce04643161382c5a555a04b1ccef2caa6cdb475e663b8", func := "levee/leveelaw28.LinearSpoilt", spec := "linearSpoilt", unfollowed := true, recurses := true, plainKeys := false, apart := false }
def LinearSpoiltSaid : Prop := linearSpoiltRow.holds Try.pinned (OpenSpec.ofChange linearSpoiltSpec)

/-- ITS FALSE NEIGHBOUR: 'it returns false'. Refute it at one input. -/
def linearSpoiltWrong : ChangeSpec := { name := "linearSpoilt", fn := fun _ => fun
  | [d1, d2] => { results := [.lit (.bool false)], args := [d1, d2] }
  | _ => none }
def LinearSpoiltWrongFalsely : Prop := linearSpoiltRow.holds Try.pinned (OpenSpec.ofChange linearSpoiltWrong)

/-- 'leveelaw28.LinearCrash': WHATEVER THE INPUT: true; the input reads as it did. -/
def linearCrashSpec : ChangeSpec := { name := "linearCrash", fn := fun _ => fun
  | [d1, d2, d3, d4] => { results := [.lit (.bool true)], args := [d1, d2, d3, d4] }
  | _ => none }
def linearCrashRow : OpenClaim := { program := "ytdmcakoaakinnaa", sum := "07259b6cf91ddecb127ce04643161382c5a555a04b1ccef2caa6cdb475e663b8", func := "levee/leveelaw28.LinearCrash", spec := "linearCrash", unfollowed := true, recurses := true, plainKeys := false, apart := false }
def LinearCrashSaid : Prop := linearCrashRow.holds Try.pinned (OpenSpec.ofChange linearCrashSpec)

/-- ITS FALSE NEIGHBOUR: 'it returns false'. Refute it at one input. -/
def linearCrashWrong : ChangeSpec := { name := "linearCrash", fn := fun _ => fun
  | [d1, d2, d3, d4] => { results := [.lit (.bool false)], args := [d1, d2, d3, d4] }
  | _ => none }
def LinearCrashWrongFalsely : Prop := linearCrashRow.holds Try.pinned (OpenSpec.ofChange linearCrashWrong)

/-- 'leveelaw28.LinearNil': WHATEVER THE INPUT: true; the input reads as it did. -/
def linearNilSpec : ChangeSpec := { name := "linearNil", fn := fun _ => fun
  | [] => { results := [.lit (.bool true)], args := [] }
  | _ => none }
def linearNilRow : OpenClaim := { program := "ytdmcakoaakinnaa", sum := "07259b6cf91ddecb127ce04643161382c5a555a04b1ccef2caa6cdb475e663b8", func := "levee/leveelaw28.LinearNil", spec := "linearNil", unfollowed := true, recurses := true, plainKeys := false, apart := false }
def LinearNilSaid : Prop := linearNilRow.holds Try.pinned (OpenSpec.ofChange linearNilSpec)

/-- ITS FALSE NEIGHBOUR: 'it returns false'. Refute it at one input. -/
def linearNilWrong : ChangeSpec := { name := "linearNil", fn := fun _ => fun
  | [] => { results := [.lit (.bool false)], args := [] }
  | _ => none }
def LinearNilWrongFalsely : Prop := linearNilRow.holds Try.pinned (OpenSpec.ofChange linearNilWrong)

/- THE SECOND FORM. 'bulk': how many values and letters a reading holds, each counted each time it is reached (what is shared counts as often as it is met; a slice's spare places count too). A statement '..UptoSaid' is the law's where the arguments, and the package variables that the reading takes, are together of bulk at most 1048576: NARROWER than '..Said'. Prove '..Said' where nothing that the law and all that it calls make is longer than what came in: it says more and counts as full. Else prove '..UptoSaid'. A law counts once. -/
mutual
def uptoBulk {H : Type} : DataW H → Nat
  | .lit (.string bytes) => bytes.length + 1
  | .lit _ => 1
  | .nil => 1
  | .ptr d => uptoBulk d + 1
  | .slice elems spare => uptoBulkAll elems + uptoBulkAll spare + 1
  | .agg parts => uptoBulkAll parts + 1
  | .iface _ d => uptoBulk d + 1
  | .map entries => uptoBulkEntries entries + 1
  | .held _ => 1
def uptoBulkAll {H : Type} : List (DataW H) → Nat
  | [] => 0
  | d :: r => uptoBulk d + uptoBulkAll r
def uptoBulkEntries {H : Type} : List (Lit × DataW H) → Nat
  | [] => 0
  | x :: r => uptoBulkEntry x + uptoBulkEntries r
def uptoBulkEntry {H : Type} : Lit × DataW H → Nat
  | (.string bytes, d) => bytes.length + uptoBulk d + 1
  | (_, d) => uptoBulk d + 1
 end
def uptoSmall : (H : Type) → List (DataW H) → Bool := fun _ ds => decide (uptoBulkAll ds ≤ 1048576)
def OpenSpec.upto (s : _root_.Go.ChangeSpec) : _root_.Go.OpenSpec := { _root_.Go.OpenSpec.ofChange s with cond := some uptoSmall }

/-- 'leveelaw28.LinearKey', WHERE WHAT IT READS IS OF BULK AT MOST 1048576: true; the input reads as it did. -/
def linearKeyUptoRow : OpenClaim := { program := "ytdmcakoaakinnaa", sum := "07259b6cf91ddecb127ce04643161382c5a555a04b1ccef2caa6cdb475e663b8", func := "levee/leveelaw28.LinearKey", spec := "linearKey", unfollowed := true, recurses := true, plainKeys := false, apart := false, narrowed := true }
def LinearKeyUptoSaid : Prop := linearKeyUptoRow.holds Try.pinned (OpenSpec.upto linearKeySpec)

/-- 'leveelaw28.LinearSpoilt', WHERE WHAT IT READS IS OF BULK AT MOST 1048576: true; the input reads as it did. -/
def linearSpoiltUptoRow : OpenClaim := { program := "ytdmcakoaakinnaa", sum := "07259b6cf91ddecb127ce04643161382c5a555a04b1ccef2caa6cdb475e663b8", func := "levee/leveelaw28.LinearSpoilt", spec := "linearSpoilt", unfollowed := true, recurses := true, plainKeys := false, apart := false, narrowed := true }
def LinearSpoiltUptoSaid : Prop := linearSpoiltUptoRow.holds Try.pinned (OpenSpec.upto linearSpoiltSpec)

/-- 'leveelaw28.LinearCrash', WHERE WHAT IT READS IS OF BULK AT MOST 1048576: true; the input reads as it did. -/
def linearCrashUptoRow : OpenClaim := { program := "ytdmcakoaakinnaa", sum := "07259b6cf91ddecb127ce04643161382c5a555a04b1ccef2caa6cdb475e663b8", func := "levee/leveelaw28.LinearCrash", spec := "linearCrash", unfollowed := true, recurses := true, plainKeys := false, apart := false, narrowed := true }
def LinearCrashUptoSaid : Prop := linearCrashUptoRow.holds Try.pinned (OpenSpec.upto linearCrashSpec)

/-- 'leveelaw28.LinearNil', WHERE WHAT IT READS IS OF BULK AT MOST 1048576: true; the input reads as it did. -/
def linearNilUptoRow : OpenClaim := { program := "ytdmcakoaakinnaa", sum := "07259b6cf91ddecb127ce04643161382c5a555a04b1ccef2caa6cdb475e663b8", func := "levee/leveelaw28.LinearNil", spec := "linearNil", unfollowed := true, recurses := true, plainKeys := false, apart := false, narrowed := true }
def LinearNilUptoSaid : Prop := linearNilUptoRow.holds Try.pinned (OpenSpec.upto linearNilSpec)

end Rows
end Go.Proofs.Ytdmcakoaakinnaa
