/-
  No cell of these rows narrows 'for every input' (looked for: loops, veiled, ifaces, maps, wideKeys, modest, calm, conditions, laid).
  DERIVED. THE GIVEN ROWS OF THIS SEAT. 6 by the template 'for every input the law returns true; each argument reads behind the call as it read before'; 0 by the template 'total and deterministic' (their statements: YtefgahcadfmmoaaTotals.lean).
  GIVEN WITH THE SEED: the statements are not yours to turn. If you find one false, say at which input.
  Laid BY PROGRAM, IN A SANDBOX (cutbox-rows.mjs): the forced cells as the released guide's own fill.sh prints them over the translation 2e538087667de81e… (all of the seat's roots in one cut). By AI agents, Wed Nov 11 2026. No macro, syntax, notation, axiom, sorry.
-/
import Derived.Test.YtefgahcadfmmoaaChecked
import GoSem.Claim
import GoSem.ClaimJoined
import GoSem.ClaimMapViews
import Derived.JoinedTies
import Derived.KernelRfl
namespace Go.Proofs.Ytefgahcadfmmoaa
/- THE CELL 'sum', in the pinned program and in every row, IS THE sha256 OF THE DUMP (.gsa) THAT YtefgahcadfmmoaaProg.lean LOADS. Nothing in Lean hashes anything: it is a label: what it is worth is what the hold of that sum in a sandbox is worth. -/
noncomputable def Try.pinned : Pinned := { name := "ytefgahcadfmmoaa", sum := "2e538087667de81ec97e48e6074964ca601b5a8ec0102a5aad699a3b1ae85821", checked := Try.checked }
namespace Rows
def none {H : Type} : Left H := { results := [], args := [] }

/-- 'leveelaw10.RunEmpty': WHATEVER THE INPUT: true; the input reads as it did. -/
def runEmptySpec : ChangeSpec := { name := "runEmpty", fn := fun _ => fun
  | [d1, d2, d3] => { results := [.lit (.bool true)], args := [d1, d2, d3] }
  | _ => none }
def runEmptyRow : OpenClaim := { program := "ytefgahcadfmmoaa", sum := "2e538087667de81ec97e48e6074964ca601b5a8ec0102a5aad699a3b1ae85821", func := "levee/leveelaw10.RunEmpty", spec := "runEmpty", inPlace := ["maps.clone"], unfollowed := true, recurses := true, apart := false }
def RunEmptySaid : Prop := runEmptyRow.holds Try.pinned (OpenSpec.ofChange runEmptySpec)

/-- ITS FALSE NEIGHBOUR: 'it returns false'. Refute it at one input. -/
def runEmptyWrong : ChangeSpec := { name := "runEmpty", fn := fun _ => fun
  | [d1, d2, d3] => { results := [.lit (.bool false)], args := [d1, d2, d3] }
  | _ => none }
def RunEmptyWrongFalsely : Prop := runEmptyRow.holds Try.pinned (OpenSpec.ofChange runEmptyWrong)

/-- 'leveelaw10.RunNil': WHATEVER THE INPUT: true; the input reads as it did. -/
def runNilSpec : ChangeSpec := { name := "runNil", fn := fun _ => fun
  | [] => { results := [.lit (.bool true)], args := [] }
  | _ => none }
def runNilRow : OpenClaim := { program := "ytefgahcadfmmoaa", sum := "2e538087667de81ec97e48e6074964ca601b5a8ec0102a5aad699a3b1ae85821", func := "levee/leveelaw10.RunNil", spec := "runNil", inPlace := ["maps.clone"], unfollowed := true, recurses := true, apart := false }
def RunNilSaid : Prop := runNilRow.holds Try.pinned (OpenSpec.ofChange runNilSpec)

/-- ITS FALSE NEIGHBOUR: 'it returns false'. Refute it at one input. -/
def runNilWrong : ChangeSpec := { name := "runNil", fn := fun _ => fun
  | [] => { results := [.lit (.bool false)], args := [] }
  | _ => none }
def RunNilWrongFalsely : Prop := runNilRow.holds Try.pinned (OpenSpec.ofChange runNilWrong)

/-- 'leveelaw10.RunStops': WHATEVER THE INPUT: true; the input reads as it did. -/
def runStopsSpec : ChangeSpec := { name := "runStops", fn := fun _ => fun
  | [d1, d2, d3, d4] => { results := [.lit (.bool true)], args := [d1, d2, d3, d4] }
  | _ => none }
def runStopsRow : OpenClaim := { program := "ytefgahcadfmmoaa", sum := "2e538087667de81ec97e48e6074964ca601b5a8ec0102a5aad699a3b1ae85821", func := "levee/leveelaw10.RunStops", spec := "runStops", inPlace := ["maps.clone"], unfollowed := true, recurses := true, apart := false }
def RunStopsSaid : Prop := runStopsRow.holds Try.pinned (OpenSpec.ofChange runStopsSpec)

/-- ITS FALSE NEIGHBOUR: 'it returns false'. Refute it at one input. -/
def runStopsWrong : ChangeSpec := { name := "runStops", fn := fun _ => fun
  | [d1, d2, d3, d4] => { results := [.lit (.bool false)], args := [d1, d2, d3, d4] }
  | _ => none }
def RunStopsWrongFalsely : Prop := runStopsRow.holds Try.pinned (OpenSpec.ofChange runStopsWrong)

/-- 'leveelaw10.RunWhole': WHATEVER THE INPUT: true; the input reads as it did. -/
def runWholeSpec : ChangeSpec := { name := "runWhole", fn := fun _ => fun
  | [d1, d2, d3] => { results := [.lit (.bool true)], args := [d1, d2, d3] }
  | _ => none }
def runWholeRow : OpenClaim := { program := "ytefgahcadfmmoaa", sum := "2e538087667de81ec97e48e6074964ca601b5a8ec0102a5aad699a3b1ae85821", func := "levee/leveelaw10.RunWhole", spec := "runWhole", inPlace := ["maps.clone"], unfollowed := true, recurses := true, apart := false }
def RunWholeSaid : Prop := runWholeRow.holds Try.pinned (OpenSpec.ofChange runWholeSpec)

/-- ITS FALSE NEIGHBOUR: 'it returns false'. Refute it at one input. -/
def runWholeWrong : ChangeSpec := { name := "runWhole", fn := fun _ => fun
  | [d1, d2, d3] => { results := [.lit (.bool false)], args := [d1, d2, d3] }
  | _ => none }
def RunWholeWrongFalsely : Prop := runWholeRow.holds Try.pinned (OpenSpec.ofChange runWholeWrong)

/-- 'leveelaw10.RunTwo': WHATEVER THE INPUT: true; the input reads as it did. -/
def runTwoSpec : ChangeSpec := { name := "runTwo", fn := fun _ => fun
  | [d1, d2, d3, d4, d5, d6] => { results := [.lit (.bool true)], args := [d1, d2, d3, d4, d5, d6] }
  | _ => none }
def runTwoRow : OpenClaim := { program := "ytefgahcadfmmoaa", sum := "2e538087667de81ec97e48e6074964ca601b5a8ec0102a5aad699a3b1ae85821", func := "levee/leveelaw10.RunTwo", spec := "runTwo", inPlace := ["maps.clone"], unfollowed := true, recurses := true, apart := false }
def RunTwoSaid : Prop := runTwoRow.holds Try.pinned (OpenSpec.ofChange runTwoSpec)

/-- ITS FALSE NEIGHBOUR: 'it returns false'. Refute it at one input. -/
def runTwoWrong : ChangeSpec := { name := "runTwo", fn := fun _ => fun
  | [d1, d2, d3, d4, d5, d6] => { results := [.lit (.bool false)], args := [d1, d2, d3, d4, d5, d6] }
  | _ => none }
def RunTwoWrongFalsely : Prop := runTwoRow.holds Try.pinned (OpenSpec.ofChange runTwoWrong)

/-- 'leveelaw10.RunLasts': WHATEVER THE INPUT: true; the input reads as it did. -/
def runLastsSpec : ChangeSpec := { name := "runLasts", fn := fun _ => fun
  | [d1, d2, d3, d4, d5] => { results := [.lit (.bool true)], args := [d1, d2, d3, d4, d5] }
  | _ => none }
def runLastsRow : OpenClaim := { program := "ytefgahcadfmmoaa", sum := "2e538087667de81ec97e48e6074964ca601b5a8ec0102a5aad699a3b1ae85821", func := "levee/leveelaw10.RunLasts", spec := "runLasts", inPlace := ["maps.clone"], unfollowed := true, recurses := true, apart := false }
def RunLastsSaid : Prop := runLastsRow.holds Try.pinned (OpenSpec.ofChange runLastsSpec)

/-- ITS FALSE NEIGHBOUR: 'it returns false'. Refute it at one input. -/
def runLastsWrong : ChangeSpec := { name := "runLasts", fn := fun _ => fun
  | [d1, d2, d3, d4, d5] => { results := [.lit (.bool false)], args := [d1, d2, d3, d4, d5] }
  | _ => none }
def RunLastsWrongFalsely : Prop := runLastsRow.holds Try.pinned (OpenSpec.ofChange runLastsWrong)

/- THE SECOND FORM. 'bulk': how many values and letters a reading holds, each counted each time it is reached (what is shared counts as often as it is met; a slice's spare places count too). A statement '..UptoSaid' is the law's where the arguments, and the package variables that the reading takes, are together of bulk at most 1048576: NARROWER than '..Said'. Prove '..Said' where nothing that the law and all that it calls make is longer than what came in: it says more and counts as full. Else prove '..UptoSaid'. A law counts once. -/
mutual
def uptoBulk {H : Type} : DataW H → Nat
  | .lit (.string bytes) => bytes.length + 1
  | .lit _ => 1
  | .nil => 1
  | .ptr d => uptoBulk d + 1
  | .slice elems spare => uptoBulkAll elems + uptoBulkAll spare + 1
  | .agg parts => uptoBulkAll parts + 1
  | .iface _ d => uptoBulk d + 1
  | .map entries => uptoBulkEntries entries + 1
  | .held _ => 1
def uptoBulkAll {H : Type} : List (DataW H) → Nat
  | [] => 0
  | d :: r => uptoBulk d + uptoBulkAll r
def uptoBulkEntries {H : Type} : List (Lit × DataW H) → Nat
  | [] => 0
  | x :: r => uptoBulkEntry x + uptoBulkEntries r
def uptoBulkEntry {H : Type} : Lit × DataW H → Nat
  | (.string bytes, d) => bytes.length + uptoBulk d + 1
  | (_, d) => uptoBulk d + 1
 end
def uptoSmall : (H : Type) → List (DataW H) → Bool := fun _ ds => decide (uptoBulkAll ds ≤ 1048576)
def OpenSpec.upto (s : _root_.Go.ChangeSpec) : _root_.Go.OpenSpec := { _root_.Go.OpenSpec.ofChange s with cond := some uptoSmall }

/-- 'leveelaw10.RunEmpty', WHERE WHAT IT READS IS OF BULK AT MOST 1048576: true; the input reads as it did. -/
def runEmptyUptoRow : OpenClaim := { program := "ytefgahcadfmmoaa", sum := "2e538087667de81ec97e48e6074964ca601b5a8ec0102a5aad699a3b1ae85821", func := "levee/leveelaw10.RunEmpty", spec := "runEmpty", inPlace := ["maps.clone"], unfollowed := true, recurses := true, apart := false, narrowed := true }
def RunEmptyUptoSaid : Prop := runEmptyUptoRow.holds Try.pinned (OpenSpec.upto runEmptySpec)

/-- 'leveelaw10.RunNil', WHERE WHAT IT READS IS OF BULK AT MOST 1048576: true; the input reads as it did. -/
def runNilUptoRow : OpenClaim := { program := "ytefgahcadfmmoaa", sum := "2e538087667de81ec97e48e6074964ca601b5a8ec0102a5aad699a3b1ae85821", func := "levee/leveelaw10.RunNil", spec := "runNil", inPlace := ["maps.clone"], unfollowed := true, recurses := true, apart := false, narrowed := true }
def RunNilUptoSaid : Prop := runNilUptoRow.holds Try.pinned (OpenSpec.upto runNilSpec)

/-- 'leveelaw10.RunStops', WHERE WHAT IT READS IS OF BULK AT MOST 1048576: true; the input reads as it did. -/
def runStopsUptoRow : OpenClaim := { program := "ytefgahcadfmmoaa", sum := "2e538087667de81ec97e48e6074964ca601b5a8ec0102a5aad699a3b1ae85821", func := "levee/leveelaw10.RunStops", spec := "runStops", inPlace := ["maps.clone"], unfollowed := true, recurses := true, apart := false, narrowed := true }
def RunStopsUptoSaid : Prop := runStopsUptoRow.holds Try.pinned (OpenSpec.upto runStopsSpec)

/-- 'leveelaw10.RunWhole', WHERE WHAT IT READS IS OF BULK AT MOST 1048576: true; the input reads as it did. -/
def runWholeUptoRow : OpenClaim := { program := "ytefgahcadfmmoaa", sum := "2e538087667de81ec97e48e6074964ca601b5a8ec0102a5aad699a3b1ae85821", func := "levee/leveelaw10.RunWhole", spec := "runWhole", inPlace := ["maps.clone"], unfollowed := true, recurses := true, apart := false, narrowed := true }
def RunWholeUptoSaid : Prop := runWholeUptoRow.holds Try.pinned (OpenSpec.upto runWholeSpec)

/-- 'leveelaw10.RunTwo', WHERE WHAT IT READS IS OF BULK AT MOST 1048576: true; the input reads as it did. -/
def runTwoUptoRow : OpenClaim := { program := "ytefgahcadfmmoaa", sum := "2e538087667de81ec97e48e6074964ca601b5a8ec0102a5aad699a3b1ae85821", func := "levee/leveelaw10.RunTwo", spec := "runTwo", inPlace := ["maps.clone"], unfollowed := true, recurses := true, apart := false, narrowed := true }
def RunTwoUptoSaid : Prop := runTwoUptoRow.holds Try.pinned (OpenSpec.upto runTwoSpec)

/-- 'leveelaw10.RunLasts', WHERE WHAT IT READS IS OF BULK AT MOST 1048576: true; the input reads as it did. -/
def runLastsUptoRow : OpenClaim := { program := "ytefgahcadfmmoaa", sum := "2e538087667de81ec97e48e6074964ca601b5a8ec0102a5aad699a3b1ae85821", func := "levee/leveelaw10.RunLasts", spec := "runLasts", inPlace := ["maps.clone"], unfollowed := true, recurses := true, apart := false, narrowed := true }
def RunLastsUptoSaid : Prop := runLastsUptoRow.holds Try.pinned (OpenSpec.upto runLastsSpec)

end Rows
end Go.Proofs.Ytefgahcadfmmoaa
