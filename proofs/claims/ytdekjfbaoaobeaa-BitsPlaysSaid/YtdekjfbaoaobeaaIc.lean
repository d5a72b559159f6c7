/-
  slices.Collect, Sorted at addresses; Free's All: contracts.
-/
import Derived.Test.YtdekjfbaoaobeaaSoWAs
import Derived.Test.YtdekjfbaoaobeaaSoWANil
import Derived.Test.YtdekjfbaoaobeaaIb
import Derived.Sort.OwnSorted
import Derived.ChangeSame
import Derived.Test.YtdekjfbaoaobeaaJn
namespace Go.Proofs.Ytdekjfbaoaobeaa
open Go.RowKit Go.Sort

def srt (zs : List Int) : List Int := zs.mergeSort fun x y => decide (x ≤ y)
theorem srt_perm (zs : List Int) : (srt zs).Perm zs := List.mergeSort_perm _ _
theorem srt_len (zs : List Int) : (srt zs).length = zs.length := (srt_perm zs).length_eq
theorem srt_mem (zs : List Int) (x : Int) : x ∈ srt zs ↔ x ∈ zs := (srt_perm zs).mem_iff

theorem holds_of_blockU {w : World} {g : Nat} {cur : Array Value} {e : TypeId} {ss : List Int} (hb : w.heap[g]? = some (.cells cur e (0, 0))) (ht : cur.toList.take ss.length = ss.map (Value.int .u64)) : Holds (Value.int .u64) w g 0 ss.toArray := by
  intro j hj
  have hj' : j < ss.length := by simpa using hj
  refine ⟨?_, by simp [World.frozen?, hb]⟩
  have h1 : (cur.toList.take ss.length)[j]? = (ss.map (Value.int .u64))[j]? := by rw [ht]
  rw [List.getElem?_take_of_lt hj'] at h1
  simp only [World.cell?, hb, Nat.zero_add]
  simp only [Option.isSome_none, Bool.false_eq_true, if_false]
  rw [← Array.getElem?_toList, h1]
  simp [hj']

theorem heap_sortedU {w : World} {g n : Nat} {os : Array Obj} {cur : Array Value} {e : TypeId} {fr : Nat × Nat} (d : Array Int) (hb : w.heap[g]? = some (.cells cur e fr)) :
    (grow (putRow (Value.int .u64) (Sort.ahead w n) g 0 d) os).heap[g]? = some (.cells (putCells (Value.int .u64) 0 d cur) e fr) := by
  have hg : g < w.heap.size := (Array.getElem?_eq_some_iff.1 hb).1
  rw [heap_grow_old _ _ (by simpa using hg)]
  simp [putRow, mapBlock, Sort.ahead, Array.getElem?_modify, hb, onCells]

theorem grownBy_sortedU {w : World} {g n : Nat} {os : Array Obj} (d : Array Int) : w.grownBy (grow (putRow (Value.int .u64) (Sort.ahead w n) g 0 d) os) (some g) := by
  refine ⟨rfl, rfl, rfl, by simp, fun k hk hne => ?_⟩
  rw [heap_grow_old _ _ (by simpa using hk)]
  have : g ≠ k := fun e => hne (by rw [e])
  simp [putRow, mapBlock, Sort.ahead, Array.getElem?_modify, this]

theorem take_putCellsU (cur : Array Value) (ts : List Int) (h : ts.length ≤ cur.size) : (putCells (Value.int .u64) 0 ts.toArray cur).toList.take ts.length = ts.map (Value.int .u64) := by
  apply List.ext_getElem?
  intro j
  by_cases hj : j < ts.length
  · rw [List.getElem?_take_of_lt hj, Array.getElem?_toList]
    simp [putCells, hj, show j < cur.size by omega]
  · rw [List.getElem?_take_eq_none (by omega), List.getElem?_eq_none (by simp; omega)]

theorem sort_own (zs : List Int) (v : Value) (base : Nat) (w : World) (h : w.ownsRow base 39 1 v zs.length (zs.map (Value.int .u64))) (hn : zs.length ≤ 1000000) :
    Calls Try.prog 52 #[v] w fun e w' => e = .returned (.tuple #[]) ∧ w'.ownsRow base 39 1 v (srt zs).length ((srt zs).map (Value.int .u64)) ∧ w.grownBy w' v.ownBlock := by
  obtain ⟨hl, ⟨rfl, h0⟩ | ⟨g, cap, cur, rfl, hb, hh, h1, h2, hsz, ht⟩⟩ := h
  · have hz : zs = [] := List.eq_nil_of_length_eq_zero h0
    subst hz
    refine (Srt.So.Sort_int_nil none 0 w).mono ?_
    rintro e w' ⟨rfl, rfl⟩
    exact ⟨rfl, by rw [show srt [] = [] from by simp [srt]]; exact World.ownsRow_nil _ _ _ _, ⟨rfl, rfl, rfl, Nat.le_refl _, fun k hk _ => rfl⟩⟩
  · have hg := (Array.getElem?_eq_some_iff.1 hh).1
    rw [Nat.mul_one] at ht hsz
    refine (Srt.So.slices_Sort_int g 0 cap zs w (holds_of_blockU hh ht) hg (by omega)).mono ?_
    rintro e w' ⟨rfl, n, os, rfl⟩
    refine ⟨rfl, ?_, grownBy_sortedU _⟩
    refine ⟨by simp, .inr ⟨g, cap, _, by rw [srt_len], hb, heap_sortedU _ hh, by rw [srt_len]; exact h1, h2, by simp [putCells, hsz], ?_⟩⟩
    rw [Nat.mul_one]
    exact take_putCellsU cur (srt zs) (by rw [srt_len]; omega)
end Go.Proofs.Ytdekjfbaoaobeaa
namespace Go.Proofs.Ytdekjfbaoaobeaa
open Go.RowKit Go.Shelf

theorem collect_v (v : Value) (l : List Int) (b g : Nat) (w : World) (hn : l.length ≤ 1000000) (hb : Blk w b #[v] 56) (hr : RowG w g v l) :
    Calls Try.prog 51 #[.func (.func 53) #[] #[.pointer (some ⟨b, 0, none⟩)]] w fun e W' => ∃ u, e = .returned u ∧ W'.ownsRow w.heap.size 39 1 u l.length (l.map (Value.int .u64)) ∧ Below w.heap.size w W' := by
  have HA := Lib.hid (callsIn_wide.1 (appendseq_in v l b g w hn hb hr))
  clear hb hr
  go_enter Try.func51, Try.ntmps51
  go_wp2_with (fail)
  refine HA.out.mono ?_
  rintro e w1 ⟨u, rfl, hown, hB⟩
  obtain ⟨a, n, c, rfl⟩ := own_slice hown
  have HO := Lib.hid hown
  have HB := Lib.hid hB
  clear hown hB
  go_wp2_with (fail)
  go_ret
  exact ⟨_, rfl, HO.out, HB.out⟩

theorem sorted_v (v : Value) (l : List Int) (b g : Nat) (w : World) (hn : l.length ≤ 1000000) (hb : Blk w b #[v] 56) (hr : RowG w g v l) :
    Calls Try.prog 41 #[.func (.func 53) #[] #[.pointer (some ⟨b, 0, none⟩)]] w fun e W' => ∃ u, e = .returned u ∧ W'.ownsRow w.heap.size 39 1 u (srt l).length ((srt l).map (Value.int .u64)) ∧ Below w.heap.size w W' := by
  have HA := Lib.hid (collect_v v l b g w hn hb hr)
  clear hb hr
  go_enter Try.func41, Try.ntmps41
  go_wp2_with (fail)
  refine HA.out.mono ?_
  rintro e w1 ⟨u, rfl, hown, hB⟩
  obtain ⟨a, n, c, rfl⟩ := own_slice hown
  have HB := Lib.hid hB
  have HS := Lib.hid (sort_own l _ _ w1 hown hn)
  have hob := own_base hown
  have HOB := Lib.hid hob
  clear hown hB hob
  go_wp2_with (fail)
  refine HS.out.mono ?_
  rintro e w2 ⟨rfl, ho2, hg2⟩
  have HO := Lib.hid ho2
  have HB2 := Lib.hid (HB.out.grown hg2 HB.out.size (fun r e => HOB.out r e))
  clear ho2 hg2
  go_wp2_with (fail)
  go_ret
  exact ⟨_, rfl, HO.out, HB2.out⟩

/-- All's answer, made by the call -/
def AllP (S : List Int) (e : Ending) (w w' : World) : Prop := ∃ u, e = .returned u ∧ w'.ownsRow w.heap.size 39 1 u (srt S).length ((srt S).map (Value.int .u64)) ∧ Below w.heap.size w w'

theorem srt_congr {a b : List Int} (h : a.Perm b) : srt a = srt b := by
  have hs : ∀ l : List Int, (srt l).Pairwise (fun x y => decide (x ≤ y) = true) := fun l => List.pairwise_mergeSort (by simp; omega) (by simp; omega) l
  exact List.Perm.eq_of_pairwise (by intro x y _ _ h1 h2; simp at h1 h2; omega) (hs a) (hs b) ((srt_perm a).trans (h.trans (srt_perm b).symm))

set_option maxHeartbeats 1000000 in
theorem fall_v (b : Nat) (v : Value) (l : List Int) (w : World) (h : SetV w b v l) (hn : l.length ≤ 1000000) :
    Calls Try.prog 25 #[.pointer (some ⟨b, 0, none⟩)] w fun e w' => AllP l e w w' := by
  have HL := Lib.hid (flen_v b v l w h.hv)
  by_cases h0 : l = []
  · subst h0
    clear h
    go_enter Try.func25, Try.ntmps25
    go_wp2_with (go_at_call 28; refine HL.out.mono ?_; rintro e w2 ⟨rfl, rfl⟩)
    go_ret
    exact ⟨_, rfl, by rw [show srt [] = [] from by simp [srt]]; exact World.ownsRow_nil _ _ _ _, Below.refl _ _⟩
  · have hl0 : ¬ ((l.length : Int) = 0) := by have := List.length_pos_iff.2 h0; omega
    have hc := h.hv.cell
    obtain ⟨g, hr⟩ := h.hv.rowG
    obtain ⟨a, c, rfl⟩ := h.hv.slice
    have HS := Lib.hid (sorted_v (.slice a l.length c) l w.heap.size g (w.alloc (.cells #[.slice a l.length c] 56)) hn (Blk.new w _ _) (hr.kept (by simp) (fun hg => Below.heap_alloc _ _ _ hg)))
    have HV := Lib.hid (callsIn_wide.1 (values_calls 5 a l.length c w))
    clear h h0 hr
    go_enter Try.func25, Try.ntmps25
    go_wp2_with (go_at_call 28; refine HL.out.mono ?_; rintro e w2 ⟨rfl, rfl⟩)
    refine HV.out.mono ?_
    rintro e w2 ⟨rfl, rfl⟩
    go_wp2_with (fail)
    refine HS.out.mono ?_
    rintro e w3 ⟨u, rfl, hown, hB⟩
    have HO := Lib.hid hown
    have HB := Lib.hid hB
    obtain ⟨a', n', c', rfl⟩ := own_slice hown
    clear hown hB
    go_wp2_with (fail)
    go_ret
    exact ⟨_, rfl, own_mono HO.out (by simp), ((Below.refl _ w).alloc (Nat.le_refl _) _).trans (HB.out.mono (by simp))⟩

/-- All of a set -/
theorem all_kk {B : Nat} {w0 w : World} {b : Nat} {S : List Int} (h : KSet B w0 b S w) (hn : S.length ≤ 1000) :
    Calls Try.prog 25 #[.pointer (some ⟨b, 0, none⟩)] w fun e w' => AllP S e w w' ∧ KSet B w0 b S w' := by
  have h0 := h
  obtain ⟨v, l, hs, hp, _⟩ := h
  refine (fall_v b v l w hs (by rw [hp.length_eq]; omega)).mono ?_
  rintro e w' ⟨u, rfl, ho, hB⟩
  rw [srt_congr hp] at ho
  exact ⟨⟨u, rfl, ho, hB⟩, h0.keep hB⟩
end Go.Proofs.Ytdekjfbaoaobeaa
