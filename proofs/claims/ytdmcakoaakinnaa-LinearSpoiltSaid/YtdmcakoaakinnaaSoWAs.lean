/-
  THE LIBRARY SORT AT ADDRESSES: the worked walks over integers, turned to this seat by program.
-/
import Derived.Sort.AssemblyPlain
import Derived.Test.YtdmcakoaakinnaaSoWA
import Derived.Test.YtdmcakoaakinnaaSoWA6
import Derived.Test.YtdmcakoaakinnaaSoWA14
import Derived.Test.YtdmcakoaakinnaaSoWANil
import Derived.Test.YtdmcakoaakinnaaSoW7
import Derived.Test.YtdmcakoaakinnaaSoW11
import Derived.Test.YtdmcakoaakinnaaSoWC
import Derived.Test.YtdmcakoaakinnaaSoWC4
import Derived.Test.YtdmcakoaakinnaaSoW13
import Derived.Lib.AgreeW
namespace Go.Proofs.Ytdmcakoaakinnaa.Srt
open Go.Sort

theorem callees13 : Callees13 where
  ins := So.insertionSort_int
  brk := So.breakPatterns_int
  piv := So.choosePivot_int
  par := So.partialInsertionSort_int
  peq := So.partitionEqualOrdered_int
  prt := So.partitionOrdered_int

theorem plain13 : Plain13 where
  swo := swo_ltInt
  ins := insertionSort_holds
  par := partialInsertionSort_holds
  prt := partition_holds _
  peq := partitionEqual_holds _
  pdq := pdq_sorts _

theorem pdqWalkInt : pdqWalk_int := fun blk off cap a b limit d w hH hb hab hbd hsz hl hB =>
  So.pdqsort_int callees13 plain13 (b - a + 1) blk off cap a b limit d w (by omega) hH hb hab hbd hsz hl hB

theorem sort_int_eq (zs : List Int) : Sort.sort ltInt zs.toArray = (zs.mergeSort fun x y => decide (x ≤ y)).toArray := by
  rw [← sortInt zs]

theorem So.slices_Sort_int (blk off cap : Nat) (zs : List Int) (w : World) (hH : Holds (Value.int .u64) w blk off zs.toArray) (hblk : blk < w.heap.size) (hsz : zs.length < 4611686018427387904) :
    Calls Try.prog 60 #[.slice (some ⟨blk, off, none⟩) zs.length cap] w fun e w' =>
      e = .returned (.tuple #[]) ∧ ∃ n os, w' = grow (putRow (Value.int .u64) (Sort.ahead w n) blk off (zs.mergeSort fun x y => decide (x ≤ y)).toArray) os := by
  have h := So.Sort_int pdqWalkInt blk off cap zs.toArray w hH hblk (by simpa using hsz)
  rw [sort_int_eq] at h
  simpa using h

/-! ### A false neighbour -/

end Go.Proofs.Ytdmcakoaakinnaa.Srt
