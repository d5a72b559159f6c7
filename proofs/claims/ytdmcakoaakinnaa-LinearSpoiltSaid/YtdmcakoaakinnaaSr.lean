/-
  slices.Sorted over a table's keys; slices.All: contracts.
-/
import Derived.Test.YtdmcakoaakinnaaSoWAs
import Derived.Test.YtdmcakoaakinnaaSoWANil
import Derived.Test.YtdmcakoaakinnaaAs
import Derived.Sort.OwnSorted
import Derived.ChangeSame
namespace Go.Proofs.Ytdmcakoaakinnaa
open Go.RowKit Go.Sort
set_option linter.unusedVariables false

def srt (zs : List Int) : List Int := zs.mergeSort fun x y => decide (x ≤ y)
theorem srt_perm (zs : List Int) : (srt zs).Perm zs := List.mergeSort_perm _ _
theorem srt_len (zs : List Int) : (srt zs).length = zs.length := (srt_perm zs).length_eq
theorem srt_mem (zs : List Int) (x : Int) : x ∈ srt zs ↔ x ∈ zs := (srt_perm zs).mem_iff

theorem holds_of_blockU {w : World} {g : Nat} {cur : Array Value} {e : TypeId} {ss : List Int} (hb : w.heap[g]? = some (.cells cur e (0, 0))) (ht : cur.toList.take ss.length = ss.map (Value.int .u64)) : Holds (Value.int .u64) w g 0 ss.toArray := by
  intro j hj
  have hj' : j < ss.length := by simpa using hj
  refine ⟨?_, by simp [World.frozen?, hb]⟩
  have h1 : (cur.toList.take ss.length)[j]? = (ss.map (Value.int .u64))[j]? := by rw [ht]
  rw [List.getElem?_take_of_lt hj'] at h1
  simp only [World.cell?, hb, Nat.zero_add]
  simp only [Option.isSome_none, Bool.false_eq_true, if_false]
  rw [← Array.getElem?_toList, h1]
  simp [hj']

theorem heap_sortedU {w : World} {g n : Nat} {os : Array Obj} {cur : Array Value} {e : TypeId} {fr : Nat × Nat} (d : Array Int) (hb : w.heap[g]? = some (.cells cur e fr)) :
    (grow (putRow (Value.int .u64) (Sort.ahead w n) g 0 d) os).heap[g]? = some (.cells (putCells (Value.int .u64) 0 d cur) e fr) := by
  have hg : g < w.heap.size := (Array.getElem?_eq_some_iff.1 hb).1
  rw [heap_grow_old _ _ (by simpa using hg)]
  simp [putRow, mapBlock, Sort.ahead, Array.getElem?_modify, hb, onCells]

theorem grownBy_sortedU {w : World} {g n : Nat} {os : Array Obj} (d : Array Int) : w.grownBy (grow (putRow (Value.int .u64) (Sort.ahead w n) g 0 d) os) (some g) := by
  refine ⟨rfl, rfl, rfl, by simp, fun k hk hne => ?_⟩
  rw [heap_grow_old _ _ (by simpa using hk)]
  have : g ≠ k := fun e => hne (by rw [e])
  simp [putRow, mapBlock, Sort.ahead, Array.getElem?_modify, this]

theorem take_putCellsU (cur : Array Value) (ts : List Int) (h : ts.length ≤ cur.size) : (putCells (Value.int .u64) 0 ts.toArray cur).toList.take ts.length = ts.map (Value.int .u64) := by
  apply List.ext_getElem?
  intro j
  by_cases hj : j < ts.length
  · rw [List.getElem?_take_of_lt hj, Array.getElem?_toList]
    simp [putCells, hj, show j < cur.size by omega]
  · rw [List.getElem?_take_eq_none (by omega), List.getElem?_eq_none (by simp; omega)]

theorem sort_own (zs : List Int) (v : Value) (base : Nat) (w : World) (h : w.ownsRow base 24 1 v zs.length (zs.map (Value.int .u64))) (hn : zs.length ≤ 1000000) :
    Calls Try.prog 60 #[v] w fun e w' => e = .returned (.tuple #[]) ∧ w'.ownsRow base 24 1 v (srt zs).length ((srt zs).map (Value.int .u64)) ∧ w.grownBy w' v.ownBlock := by
  obtain ⟨hl, ⟨rfl, h0⟩ | ⟨g, cap, cur, rfl, hb, hh, h1, h2, hsz, ht⟩⟩ := h
  · have hz : zs = [] := List.eq_nil_of_length_eq_zero h0
    subst hz
    refine (Srt.So.Sort_int_nil none 0 w).mono ?_
    rintro e w' ⟨rfl, rfl⟩
    exact ⟨rfl, by rw [show srt [] = [] from by simp [srt]]; exact World.ownsRow_nil _ _ _ _, ⟨rfl, rfl, rfl, Nat.le_refl _, fun k hk _ => rfl⟩⟩
  · have hg := (Array.getElem?_eq_some_iff.1 hh).1
    rw [Nat.mul_one] at ht hsz
    refine (Srt.So.slices_Sort_int g 0 cap zs w (holds_of_blockU hh ht) hg (by omega)).mono ?_
    rintro e w' ⟨rfl, n, os, rfl⟩
    refine ⟨rfl, ?_, grownBy_sortedU _⟩
    refine ⟨by simp, .inr ⟨g, cap, _, by rw [srt_len], hb, heap_sortedU _ hh, by rw [srt_len]; exact h1, h2, by simp [putCells, hsz], ?_⟩⟩
    rw [Nat.mul_one]
    exact take_putCellsU cur (srt zs) (by rw [srt_len]; omega)
end Go.Proofs.Ytdmcakoaakinnaa
namespace Go.Proofs.Ytdmcakoaakinnaa
open Go.RowKit Go.Maps Go.Shelf
attribute [local go_sem] Oper.semAt_some
set_option linter.unusedVariables false

theorem collect_v (b ml k : Nat) (D0 : DataW Value) (w : World) (hk : k ≤ 1000000) (hb : Blk w b #[.map (some ml)] 98) (hown0 : OwnL w ml k D0) :
    Calls Try.prog 59 #[.func (.func 61) #[] #[.pointer (some ⟨b, 0, none⟩)]] w fun e W' => ∃ u xs, e = .returned u ∧ KeysOf D0 xs ∧ xs.length ≤ k ∧ W'.ownsRow w.heap.size 24 1 u xs.length (xs.map (Value.int .u64)) ∧ Below w.heap.size w W' := by
  have HA := Lib.hid (callsIn_wide.1 (appendseq_in b ml k D0 w hk hb hown0))
  clear hb hown0
  go_enter Try.func59, Try.ntmps59
  go_wp2_with (fail)
  refine HA.out.mono ?_
  rintro e w1 ⟨u, xs, rfl, hks, hxl, hown, hB⟩
  obtain ⟨a, n, c, rfl⟩ := own_slice hown
  have HO := Lib.hid hown
  have HB := Lib.hid hB
  have HKs := Lib.hid hks
  have HXl := Lib.hid hxl
  clear hown hB hks hxl
  go_wp2_with (fail)
  go_ret
  exact ⟨_, _, rfl, HKs.out, HXl.out, HO.out, HB.out⟩
theorem sorted_v (b ml k : Nat) (D0 : DataW Value) (w : World) (hk : k ≤ 1000000) (hb : Blk w b #[.map (some ml)] 98) (hown0 : OwnL w ml k D0) :
    Calls Try.prog 53 #[.func (.func 61) #[] #[.pointer (some ⟨b, 0, none⟩)]] w fun e W' => ∃ u xs, e = .returned u ∧ KeysOf D0 xs ∧ xs.length ≤ k ∧ W'.ownsRow w.heap.size 24 1 u (srt xs).length ((srt xs).map (Value.int .u64)) ∧ Below w.heap.size w W' := by
  have HA := Lib.hid (collect_v b ml k D0 w hk hb hown0)
  clear hb hown0
  go_enter Try.func53, Try.ntmps53
  go_wp2_with (fail)
  refine HA.out.mono ?_
  rintro e w1 ⟨u, xs, rfl, hks, hxl, hown, hB⟩
  obtain ⟨a, n, c, rfl⟩ := own_slice hown
  have HB := Lib.hid hB
  have HS := Lib.hid (sort_own xs _ _ w1 hown (by omega))
  have hob := own_base hown
  have HOB := Lib.hid hob
  have HKs := Lib.hid hks
  have HXl := Lib.hid hxl
  clear hown hB hob hks hxl
  go_wp2_with (fail)
  refine HS.out.mono ?_
  rintro e w2 ⟨rfl, ho2, hg2⟩
  have HO := Lib.hid ho2
  have HB2 := Lib.hid (HB.out.grown hg2 HB.out.size (fun r e => HOB.out r e))
  clear ho2 hg2
  go_wp2_with (fail)
  go_ret
  exact ⟨_, _, rfl, HKs.out, HXl.out, HO.out, HB2.out⟩

/-! ### slices.All -/
end Go.Proofs.Ytdmcakoaakinnaa
