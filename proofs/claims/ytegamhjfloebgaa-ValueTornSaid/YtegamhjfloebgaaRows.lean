/-
  No cell of these rows narrows 'for every input' (looked for: loops, veiled, ifaces, maps, wideKeys, modest, calm, conditions, laid).
  DERIVED. THE GIVEN ROWS OF THIS SEAT. 5 by the template 'for every input the law returns true; each argument reads behind the call as it read before'; 0 by the template 'total and deterministic' (their statements: YtegamhjfloebgaaTotals.lean).
  GIVEN WITH THE SEED: the statements are not yours to turn. If you find one false, say at which input.
  Laid BY PROGRAM, IN A SANDBOX (cutbox-rows.mjs): the forced cells as the released guide's own fill.sh prints them over the translation 38dcd28f2443624f… (all of the seat's roots in one cut). By AI agents, Wed Nov 11 2026. No macro, syntax, notation, axiom, sorry.
-/
import Derived.Test.YtegamhjfloebgaaChecked
import GoSem.Claim
import GoSem.ClaimJoined
import GoSem.ClaimMapViews
import Derived.JoinedTies
import Derived.KernelRfl
namespace Go.Proofs.Ytegamhjfloebgaa
/- THE CELL 'sum', in the pinned program and in every row, IS THE sha256 OF THE DUMP (.gsa) THAT YtegamhjfloebgaaProg.lean LOADS. Nothing in Lean hashes anything: it is a label: what it is worth is what the hold of that sum in a sandbox is worth. -/
noncomputable def Try.pinned : Pinned := { name := "ytegamhjfloebgaa", sum := "38dcd28f2443624f801ac2d4a0a6a0991307bf36d27933fcb141ff67544cc4e9", checked := Try.checked }
namespace Rows
def none {H : Type} : Left H := { results := [], args := [] }

/-- 'leveelaw12.ValuePuts': WHATEVER THE INPUT: true; the input reads as it did. -/
def valuePutsSpec : ChangeSpec := { name := "valuePuts", fn := fun _ => fun
  | [d1, d2, d3] => { results := [.lit (.bool true)], args := [d1, d2, d3] }
  | _ => none }
def valuePutsRow : OpenClaim := { program := "ytegamhjfloebgaa", sum := "38dcd28f2443624f801ac2d4a0a6a0991307bf36d27933fcb141ff67544cc4e9", func := "levee/leveelaw12.ValuePuts", spec := "valuePuts", unfollowed := true, recurses := true, apart := false }
def ValuePutsSaid : Prop := valuePutsRow.holds Try.pinned (OpenSpec.ofChange valuePutsSpec)

/-- ITS FALSE NEIGHBOUR: 'it returns false'. Refute it at one input. -/
def valuePutsWrong : ChangeSpec := { name := "valuePuts", fn := fun _ => fun
  | [d1, d2, d3] => { results := [.lit (.bool false)], args := [d1, d2, d3] }
  | _ => none }
def ValuePutsWrongFalsely : Prop := valuePutsRow.holds Try.pinned (OpenSpec.ofChange valuePutsWrong)

/-- 'leveelaw12.ValueNil': WHATEVER THE INPUT: true; the input reads as it did. -/
def valueNilSpec : ChangeSpec := { name := "valueNil", fn := fun _ => fun
  | [] => { results := [.lit (.bool true)], args := [] }
  | _ => none }
def valueNilRow : OpenClaim := { program := "ytegamhjfloebgaa", sum := "38dcd28f2443624f801ac2d4a0a6a0991307bf36d27933fcb141ff67544cc4e9", func := "levee/leveelaw12.ValueNil", spec := "valueNil", unfollowed := true, recurses := true, apart := false }
def ValueNilSaid : Prop := valueNilRow.holds Try.pinned (OpenSpec.ofChange valueNilSpec)

/-- ITS FALSE NEIGHBOUR: 'it returns false'. Refute it at one input. -/
def valueNilWrong : ChangeSpec := { name := "valueNil", fn := fun _ => fun
  | [] => { results := [.lit (.bool false)], args := [] }
  | _ => none }
def ValueNilWrongFalsely : Prop := valueNilRow.holds Try.pinned (OpenSpec.ofChange valueNilWrong)

/-- 'leveelaw12.ValueReads': WHATEVER THE INPUT: true; the input reads as it did. -/
def valueReadsSpec : ChangeSpec := { name := "valueReads", fn := fun _ => fun
  | [d1, d2] => { results := [.lit (.bool true)], args := [d1, d2] }
  | _ => none }
def valueReadsRow : OpenClaim := { program := "ytegamhjfloebgaa", sum := "38dcd28f2443624f801ac2d4a0a6a0991307bf36d27933fcb141ff67544cc4e9", func := "levee/leveelaw12.ValueReads", spec := "valueReads", unfollowed := true, recurses := true, apart := false }
def ValueReadsSaid : Prop := valueReadsRow.holds Try.pinned (OpenSpec.ofChange valueReadsSpec)

/-- ITS FALSE NEIGHBOUR: 'it returns false'. Refute it at one input. -/
def valueReadsWrong : ChangeSpec := { name := "valueReads", fn := fun _ => fun
  | [d1, d2] => { results := [.lit (.bool false)], args := [d1, d2] }
  | _ => none }
def ValueReadsWrongFalsely : Prop := valueReadsRow.holds Try.pinned (OpenSpec.ofChange valueReadsWrong)

/-- 'leveelaw12.ValueBack': WHATEVER THE INPUT: true; the input reads as it did. -/
def valueBackSpec : ChangeSpec := { name := "valueBack", fn := fun _ => fun
  | [d1, d2, d3, d4] => { results := [.lit (.bool true)], args := [d1, d2, d3, d4] }
  | _ => none }
def valueBackRow : OpenClaim := { program := "ytegamhjfloebgaa", sum := "38dcd28f2443624f801ac2d4a0a6a0991307bf36d27933fcb141ff67544cc4e9", func := "levee/leveelaw12.ValueBack", spec := "valueBack", unfollowed := true, recurses := true, apart := false }
def ValueBackSaid : Prop := valueBackRow.holds Try.pinned (OpenSpec.ofChange valueBackSpec)

/-- ITS FALSE NEIGHBOUR: 'it returns false'. Refute it at one input. -/
def valueBackWrong : ChangeSpec := { name := "valueBack", fn := fun _ => fun
  | [d1, d2, d3, d4] => { results := [.lit (.bool false)], args := [d1, d2, d3, d4] }
  | _ => none }
def ValueBackWrongFalsely : Prop := valueBackRow.holds Try.pinned (OpenSpec.ofChange valueBackWrong)

/-- 'leveelaw12.ValueTorn': WHATEVER THE INPUT: true; the input reads as it did. -/
def valueTornSpec : ChangeSpec := { name := "valueTorn", fn := fun _ => fun
  | [d1, d2] => { results := [.lit (.bool true)], args := [d1, d2] }
  | _ => none }
def valueTornRow : OpenClaim := { program := "ytegamhjfloebgaa", sum := "38dcd28f2443624f801ac2d4a0a6a0991307bf36d27933fcb141ff67544cc4e9", func := "levee/leveelaw12.ValueTorn", spec := "valueTorn", unfollowed := true, recurses := true, apart := false }
def ValueTornSaid : Prop := valueTornRow.holds Try.pinned (OpenSpec.ofChange valueTornSpec)

/-- ITS FALSE NEIGHBOUR: 'it returns false'. Refute it at one input. -/
def valueTornWrong : ChangeSpec := { name := "valueTorn", fn := fun _ => fun
  | [d1, d2] => { results := [.lit (.bool false)], args := [d1, d2] }
  | _ => none }
def ValueTornWrongFalsely : Prop := valueTornRow.holds Try.pinned (OpenSpec.ofChange valueTornWrong)

/- THE SECOND FORM. 'bulk': how many values and letters a reading holds, each counted each time it is reached (what is shared counts as often as it is met; a slice's spare places count too). A statement '..UptoSaid' is the law's where the arguments, and the package variables that the reading takes, are together of bulk at most 1048576: NARROWER than '..Said'. Prove '..Said' where nothing that the law and all that it calls make is longer than what came in: it says more and counts as full. Else prove '..UptoSaid'. A law counts once. -/
mutual
def uptoBulk {H : Type} : DataW H → Nat
  | .lit (.string bytes) => bytes.length + 1
  | .lit _ => 1
  | .nil => 1
  | .ptr d => uptoBulk d + 1
  | .slice elems spare => uptoBulkAll elems + uptoBulkAll spare + 1
  | .agg parts => uptoBulkAll parts + 1
  | .iface _ d => uptoBulk d + 1
  | .map entries => uptoBulkEntries entries + 1
  | .held _ => 1
def uptoBulkAll {H : Type} : List (DataW H) → Nat
  | [] => 0
  | d :: r => uptoBulk d + uptoBulkAll r
def uptoBulkEntries {H : Type} : List (Lit × DataW H) → Nat
  | [] => 0
  | x :: r => uptoBulkEntry x + uptoBulkEntries r
def uptoBulkEntry {H : Type} : Lit × DataW H → Nat
  | (.string bytes, d) => bytes.length + uptoBulk d + 1
  | (_, d) => uptoBulk d + 1
 end
def uptoSmall : (H : Type) → List (DataW H) → Bool := fun _ ds => decide (uptoBulkAll ds ≤ 1048576)
def OpenSpec.upto (s : _root_.Go.ChangeSpec) : _root_.Go.OpenSpec := { _root_.Go.OpenSpec.ofChange s with cond := some uptoSmall }

/-- 'leveelaw12.ValuePuts', WHERE WHAT IT READS IS OF BULK AT MOST 1048576: true; the input reads as it did. -/
def valuePutsUptoRow : OpenClaim := { program := "ytegamhjfloebgaa", sum := "38dcd28f2443624f801ac2d4a0a6a0991307bf36d27933fcb141ff67544cc4e9", func := "levee/leveelaw12.ValuePuts", spec := "valuePuts", unfollowed := true, recurses := true, apart := false, narrowed := true }
def ValuePutsUptoSaid : Prop := valuePutsUptoRow.holds Try.pinned (OpenSpec.upto valuePutsSpec)

/-- 'leveelaw12.ValueNil', WHERE WHAT IT READS IS OF BULK AT MOST 1048576: true; the input reads as it did. -/
def valueNilUptoRow : OpenClaim := { program := "ytegamhjfloebgaa", sum := "38dcd28f2443624f801ac2d4a0a6a0991307bf36d27933fcb141ff67544cc4e9", func := "levee/leveelaw12.ValueNil", spec := "valueNil", unfollowed := true, recurses := true, apart := false, narrowed := true }
def ValueNilUptoSaid : Prop := valueNilUptoRow.holds Try.pinned (OpenSpec.upto valueNilSpec)

/-- 'leveelaw12.ValueReads', WHERE WHAT IT READS IS OF BULK AT MOST 1048576: true; the input reads as it did. -/
def valueReadsUptoRow : OpenClaim := { program := "ytegamhjfloebgaa", sum := "38dcd28f2443624f801ac2d4a0a6a0991307bf36d27933fcb141ff67544cc4e9", func := "levee/leveelaw12.ValueReads", spec := "valueReads", unfollowed := true, recurses := true, apart := false, narrowed := true }
def ValueReadsUptoSaid : Prop := valueReadsUptoRow.holds Try.pinned (OpenSpec.upto valueReadsSpec)

/-- 'leveelaw12.ValueBack', WHERE WHAT IT READS IS OF BULK AT MOST 1048576: true; the input reads as it did. -/
def valueBackUptoRow : OpenClaim := { program := "ytegamhjfloebgaa", sum := "38dcd28f2443624f801ac2d4a0a6a0991307bf36d27933fcb141ff67544cc4e9", func := "levee/leveelaw12.ValueBack", spec := "valueBack", unfollowed := true, recurses := true, apart := false, narrowed := true }
def ValueBackUptoSaid : Prop := valueBackUptoRow.holds Try.pinned (OpenSpec.upto valueBackSpec)

/-- 'leveelaw12.ValueTorn', WHERE WHAT IT READS IS OF BULK AT MOST 1048576: true; the input reads as it did. -/
def valueTornUptoRow : OpenClaim := { program := "ytegamhjfloebgaa", sum := "38dcd28f2443624f801ac2d4a0a6a0991307bf36d27933fcb141ff67544cc4e9", func := "levee/leveelaw12.ValueTorn", spec := "valueTorn", unfollowed := true, recurses := true, apart := false, narrowed := true }
def ValueTornUptoSaid : Prop := valueTornUptoRow.holds Try.pinned (OpenSpec.upto valueTornSpec)

end Rows
end Go.Proofs.Ytegamhjfloebgaa
