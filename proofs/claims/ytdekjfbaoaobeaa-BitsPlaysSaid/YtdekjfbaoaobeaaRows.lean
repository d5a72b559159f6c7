/-
  No cell of these rows narrows 'for every input' (looked for: loops, veiled, ifaces, maps, wideKeys, modest, calm, conditions, laid).
  DERIVED. THE GIVEN ROWS OF THIS SEAT. 6 by the template 'for every input the law returns true; each argument reads behind the call as it read before'; 0 by the template 'total and deterministic' (their statements: YtdekjfbaoaobeaaTotals.lean).
  GIVEN WITH THE SEED: the statements are not yours to turn. If you find one false, say at which input.
  Laid BY PROGRAM, IN A SANDBOX (cutbox-rows.mjs): the forced cells as the released guide's own fill.sh prints them over the translation 5205ec5b73e75e04… (all of the seat's roots in one cut). By AI agents, Wed Nov 11 2026. No macro, syntax, notation, axiom, sorry.
-/
import Derived.Test.YtdekjfbaoaobeaaChecked
import GoSem.Claim
import GoSem.ClaimJoined
import GoSem.ClaimMapViews
import Derived.JoinedTies
import Derived.KernelRfl
namespace Go.Proofs.Ytdekjfbaoaobeaa
/- THE CELL 'sum', in the pinned program and in every row, IS THE sha256 OF THE DUMP (.gsa) THAT YtdekjfbaoaobeaaProg.lean LOADS. Nothing in Lean hashes anything: it is a label: what it is worth is what the hold of that sum in a sandbox is worth. -/
noncomputable def Try.pinned : Pinned := { name := "ytdekjfbaoaobeaa", sum := "5205ec5b73e75e04a5b703d35b7a2e38fff6d87df176b68ac87ee5ab5fb8dbc8", checked := Try.checked }
namespace Rows
def none {H : Type} : Left H := { results := [], args := [] }

/-- 'leveelaw05.BitsOne': WHATEVER THE INPUT: true; the input reads as it did. -/
def bitsOneSpec : ChangeSpec := { name := "bitsOne", fn := fun _ => fun
  | [d1, d2] => { results := [.lit (.bool true)], args := [d1, d2] }
  | _ => none }
def bitsOneRow : OpenClaim := { program := "ytdekjfbaoaobeaa", sum := "5205ec5b73e75e04a5b703d35b7a2e38fff6d87df176b68ac87ee5ab5fb8dbc8", func := "levee/leveelaw05.BitsOne", spec := "bitsOne", unfollowed := true, recurses := true, apart := false }
def BitsOneSaid : Prop := bitsOneRow.holds Try.pinned (OpenSpec.ofChange bitsOneSpec)

/-- ITS FALSE NEIGHBOUR: 'it returns false'. Refute it at one input. -/
def bitsOneWrong : ChangeSpec := { name := "bitsOne", fn := fun _ => fun
  | [d1, d2] => { results := [.lit (.bool false)], args := [d1, d2] }
  | _ => none }
def BitsOneWrongFalsely : Prop := bitsOneRow.holds Try.pinned (OpenSpec.ofChange bitsOneWrong)

/-- 'leveelaw05.BitsLowest': WHATEVER THE INPUT: true; the input reads as it did. -/
def bitsLowestSpec : ChangeSpec := { name := "bitsLowest", fn := fun _ => fun
  | [d1, d2] => { results := [.lit (.bool true)], args := [d1, d2] }
  | _ => none }
def bitsLowestRow : OpenClaim := { program := "ytdekjfbaoaobeaa", sum := "5205ec5b73e75e04a5b703d35b7a2e38fff6d87df176b68ac87ee5ab5fb8dbc8", func := "levee/leveelaw05.BitsLowest", spec := "bitsLowest", unfollowed := true, recurses := true, apart := false }
def BitsLowestSaid : Prop := bitsLowestRow.holds Try.pinned (OpenSpec.ofChange bitsLowestSpec)

/-- ITS FALSE NEIGHBOUR: 'it returns false'. Refute it at one input. -/
def bitsLowestWrong : ChangeSpec := { name := "bitsLowest", fn := fun _ => fun
  | [d1, d2] => { results := [.lit (.bool false)], args := [d1, d2] }
  | _ => none }
def BitsLowestWrongFalsely : Prop := bitsLowestRow.holds Try.pinned (OpenSpec.ofChange bitsLowestWrong)

/-- 'leveelaw05.BitsAll': WHATEVER THE INPUT: true; the input reads as it did. -/
def bitsAllSpec : ChangeSpec := { name := "bitsAll", fn := fun _ => fun
  | [d1, d2] => { results := [.lit (.bool true)], args := [d1, d2] }
  | _ => none }
def bitsAllRow : OpenClaim := { program := "ytdekjfbaoaobeaa", sum := "5205ec5b73e75e04a5b703d35b7a2e38fff6d87df176b68ac87ee5ab5fb8dbc8", func := "levee/leveelaw05.BitsAll", spec := "bitsAll", unfollowed := true, recurses := true, apart := false }
def BitsAllSaid : Prop := bitsAllRow.holds Try.pinned (OpenSpec.ofChange bitsAllSpec)

/-- ITS FALSE NEIGHBOUR: 'it returns false'. Refute it at one input. -/
def bitsAllWrong : ChangeSpec := { name := "bitsAll", fn := fun _ => fun
  | [d1, d2] => { results := [.lit (.bool false)], args := [d1, d2] }
  | _ => none }
def BitsAllWrongFalsely : Prop := bitsAllRow.holds Try.pinned (OpenSpec.ofChange bitsAllWrong)

/-- 'leveelaw05.BitsTakes': WHATEVER THE INPUT: true; the input reads as it did. -/
def bitsTakesSpec : ChangeSpec := { name := "bitsTakes", fn := fun _ => fun
  | [d1, d2] => { results := [.lit (.bool true)], args := [d1, d2] }
  | _ => none }
def bitsTakesRow : OpenClaim := { program := "ytdekjfbaoaobeaa", sum := "5205ec5b73e75e04a5b703d35b7a2e38fff6d87df176b68ac87ee5ab5fb8dbc8", func := "levee/leveelaw05.BitsTakes", spec := "bitsTakes", unfollowed := true, recurses := true, apart := false }
def BitsTakesSaid : Prop := bitsTakesRow.holds Try.pinned (OpenSpec.ofChange bitsTakesSpec)

/-- ITS FALSE NEIGHBOUR: 'it returns false'. Refute it at one input. -/
def bitsTakesWrong : ChangeSpec := { name := "bitsTakes", fn := fun _ => fun
  | [d1, d2] => { results := [.lit (.bool false)], args := [d1, d2] }
  | _ => none }
def BitsTakesWrongFalsely : Prop := bitsTakesRow.holds Try.pinned (OpenSpec.ofChange bitsTakesWrong)

/-- 'leveelaw05.BitsPlays': WHATEVER THE INPUT: true; the input reads as it did. -/
def bitsPlaysSpec : ChangeSpec := { name := "bitsPlays", fn := fun _ => fun
  | [d1, d2] => { results := [.lit (.bool true)], args := [d1, d2] }
  | _ => none }
def bitsPlaysRow : OpenClaim := { program := "ytdekjfbaoaobeaa", sum := "5205ec5b73e75e04a5b703d35b7a2e38fff6d87df176b68ac87ee5ab5fb8dbc8", func := "levee/leveelaw05.BitsPlays", spec := "bitsPlays", unfollowed := true, recurses := true, apart := false }
def BitsPlaysSaid : Prop := bitsPlaysRow.holds Try.pinned (OpenSpec.ofChange bitsPlaysSpec)

/-- ITS FALSE NEIGHBOUR: 'it returns false'. Refute it at one input. -/
def bitsPlaysWrong : ChangeSpec := { name := "bitsPlays", fn := fun _ => fun
  | [d1, d2] => { results := [.lit (.bool false)], args := [d1, d2] }
  | _ => none }
def BitsPlaysWrongFalsely : Prop := bitsPlaysRow.holds Try.pinned (OpenSpec.ofChange bitsPlaysWrong)

/-- 'leveelaw05.BitsNil': WHATEVER THE INPUT: true; the input reads as it did. -/
def bitsNilSpec : ChangeSpec := { name := "bitsNil", fn := fun _ => fun
  | [] => { results := [.lit (.bool true)], args := [] }
  | _ => none }
def bitsNilRow : OpenClaim := { program := "ytdekjfbaoaobeaa", sum := "5205ec5b73e75e04a5b703d35b7a2e38fff6d87df176b68ac87ee5ab5fb8dbc8", func := "levee/leveelaw05.BitsNil", spec := "bitsNil", unfollowed := true, recurses := true, apart := false }
def BitsNilSaid : Prop := bitsNilRow.holds Try.pinned (OpenSpec.ofChange bitsNilSpec)

/-- ITS FALSE NEIGHBOUR: 'it returns false'. Refute it at one input. -/
def bitsNilWrong : ChangeSpec := { name := "bitsNil", fn := fun _ => fun
  | [] => { results := [.lit (.bool false)], args := [] }
  | _ => none }
def BitsNilWrongFalsely : Prop := bitsNilRow.holds Try.pinned (OpenSpec.ofChange bitsNilWrong)

/- THE SECOND FORM. 'bulk': how many values and letters a reading holds, each counted each time it is reached (what is shared counts as often as it is met; a slice's spare places count too). A statement '..UptoSaid' is the law's where the arguments, and the package variables that the reading takes, are together of bulk at most 1048576: NARROWER than '..Said'. Prove '..Said' where nothing that the law and all that it calls make is longer than what came in: it says more and counts as full. Else prove '..UptoSaid'. A law counts once. -/
mutual
def uptoBulk {H : Type} : DataW H → Nat
  | .lit (.string bytes) => bytes.length + 1
  | .lit _ => 1
  | .nil => 1
  | .ptr d => uptoBulk d + 1
  | .slice elems spare => uptoBulkAll elems + uptoBulkAll spare + 1
  | .agg parts => uptoBulkAll parts + 1
  | .iface _ d => uptoBulk d + 1
  | .map entries => uptoBulkEntries entries + 1
  | .held _ => 1
def uptoBulkAll {H : Type} : List (DataW H) → Nat
  | [] => 0
  | d :: r => uptoBulk d + uptoBulkAll r
def uptoBulkEntries {H : Type} : List (Lit × DataW H) → Nat
  | [] => 0
  | x :: r => uptoBulkEntry x + uptoBulkEntries r
def uptoBulkEntry {H : Type} : Lit × DataW H → Nat
  | (.string bytes, d) => bytes.length + uptoBulk d + 1
  | (_, d) => uptoBulk d + 1
 end
def uptoSmall : (H : Type) → List (DataW H) → Bool := fun _ ds => decide (uptoBulkAll ds ≤ 1048576)
def OpenSpec.upto (s : _root_.Go.ChangeSpec) : _root_.Go.OpenSpec := { _root_.Go.OpenSpec.ofChange s with cond := some uptoSmall }

/-- 'leveelaw05.BitsOne', WHERE WHAT IT READS IS OF BULK AT MOST 1048576: true; the input reads as it did. -/
def bitsOneUptoRow : OpenClaim := { program := "ytdekjfbaoaobeaa", sum := "5205ec5b73e75e04a5b703d35b7a2e38fff6d87df176b68ac87ee5ab5fb8dbc8", func := "levee/leveelaw05.BitsOne", spec := "bitsOne", unfollowed := true, recurses := true, apart := false, narrowed := true }
def BitsOneUptoSaid : Prop := bitsOneUptoRow.holds Try.pinned (OpenSpec.upto bitsOneSpec)

/-- 'leveelaw05.BitsLowest', WHERE WHAT IT READS IS OF BULK AT MOST 1048576: true; the input reads as it did. -/
def bitsLowestUptoRow : OpenClaim := { program := "ytdekjfbaoaobeaa", sum := "5205ec5b73e75e04a5b703d35b7a2e38fff6d87df176b68ac87ee5ab5fb8dbc8", func := "levee/leveelaw05.BitsLowest", spec := "bitsLowest", unfollowed := true, recurses := true, apart := false, narrowed := true }
def BitsLowestUptoSaid : Prop := bitsLowestUptoRow.holds Try.pinned (OpenSpec.upto bitsLowestSpec)

/-- 'leveelaw05.BitsAll', WHERE WHAT IT READS IS OF BULK AT MOST 1048576: true; the input reads as it did. -/
def bitsAllUptoRow : OpenClaim := { program := "ytdekjfbaoaobeaa", sum := "5205ec5b73e75e04a5b703d35b7a2e38fff6d87df176b68ac87ee5ab5fb8dbc8", func := "levee/leveelaw05.BitsAll", spec := "bitsAll", unfollowed := true, recurses := true, apart := false, narrowed := true }
def BitsAllUptoSaid : Prop := bitsAllUptoRow.holds Try.pinned (OpenSpec.upto bitsAllSpec)

/-- 'leveelaw05.BitsTakes', WHERE WHAT IT READS IS OF BULK AT MOST 1048576: true; the input reads as it did. -/
def bitsTakesUptoRow : OpenClaim := { program := "ytdekjfbaoaobeaa", sum := "5205ec5b73e75e04a5b703d35b7a2e38fff6d87df176b68ac87ee5ab5fb8dbc8", func := "levee/leveelaw05.BitsTakes", spec := "bitsTakes", unfollowed := true, recurses := true, apart := false, narrowed := true }
def BitsTakesUptoSaid : Prop := bitsTakesUptoRow.holds Try.pinned (OpenSpec.upto bitsTakesSpec)

/-- 'leveelaw05.BitsPlays', WHERE WHAT IT READS IS OF BULK AT MOST 1048576: true; the input reads as it did. -/
def bitsPlaysUptoRow : OpenClaim := { program := "ytdekjfbaoaobeaa", sum := "5205ec5b73e75e04a5b703d35b7a2e38fff6d87df176b68ac87ee5ab5fb8dbc8", func := "levee/leveelaw05.BitsPlays", spec := "bitsPlays", unfollowed := true, recurses := true, apart := false, narrowed := true }
def BitsPlaysUptoSaid : Prop := bitsPlaysUptoRow.holds Try.pinned (OpenSpec.upto bitsPlaysSpec)

/-- 'leveelaw05.BitsNil', WHERE WHAT IT READS IS OF BULK AT MOST 1048576: true; the input reads as it did. -/
def bitsNilUptoRow : OpenClaim := { program := "ytdekjfbaoaobeaa", sum := "5205ec5b73e75e04a5b703d35b7a2e38fff6d87df176b68ac87ee5ab5fb8dbc8", func := "levee/leveelaw05.BitsNil", spec := "bitsNil", unfollowed := true, recurses := true, apart := false, narrowed := true }
def BitsNilUptoSaid : Prop := bitsNilUptoRow.holds Try.pinned (OpenSpec.upto bitsNilSpec)

end Rows
end Go.Proofs.Ytdekjfbaoaobeaa
