/-
  pmem.Mem.rising: a contract.
-/
import Derived.Test.YtefgahcadfmmoaaLt
import Derived.RangeFuncNested
import Derived.RangeFuncBound
import Derived.RangeFuncCalls
import Derived.RangeFuncLeaves
import Derived.RangeFuncBox
import Derived.RangeFuncMany
import Derived.Sort.MapsRangeIn
import Derived.Sort.KeysCollected
import Derived.Shelf.Abstract
import Derived.Shelf.RegionOpen
import Derived.OwnWalkIn
import Derived.TacticsInMore
import Derived.RegionIn
import Derived.LoopNIn
import Derived.LoopIn
import Derived.Outline
import Derived.Test.YtefgahcadfmmoaaPf
import Derived.Maps.AppendAt
import Derived.Test.YtefgahcadfmmoaaSoWAs
import Derived.Sort.OwnSorted
import Derived.ChangeSame
namespace Go.Proofs.Ytefgahcadfmmoaa
open Go.RowKit Go.Maps Go.Shelf
attribute [local go_sem] Oper.semAt_some
set_option linter.unusedVariables false

def u64E (x : Int) : Array Value := #[.int .u64 x]
/-- a table's keys -/
def KeysOf (D : DataW Value) (xs : List Int) : Prop := xs.Nodup ∧ (∀ a, a ∈ xs ↔ Maps.has D (.int .u64 a) = true) ∧ ∀ a, a ∈ xs → (Lit.int .u64 a).wf = true
def CollK (D : DataW Value) (left : Lit → Bool) (ss : List Int) : Prop := ss.Nodup ∧ (∀ a, a ∈ ss ↔ (Maps.has D (.int .u64 a) = true ∧ left (.int .u64 a) = false)) ∧ ∀ a, a ∈ ss → (Lit.int .u64 a).wf = true
theorem CollK.start (D : DataW Value) : CollK D (Maps.has D) [] :=
  ⟨List.nodup_nil, (fun a => by
    constructor
    · intro h; cases h
    · rintro ⟨h1, h2⟩
      rw [h1] at h2; cases h2), (fun a h => by cases h)⟩
theorem same_u64 (a x : Int) : (Lit.int .u64 a).sameKey (.int .u64 x) = decide (a = x) := by
  simp [Lit.sameKey]
theorem CollK.step {D : DataW Value} {left : Lit → Bool} {ss : List Int} (hC : CollK D left ss) {x : Int} (hlk : left (.int .u64 x) = true) (hx : Maps.has D (.int .u64 x) = true) (hwf : (Lit.int .u64 x).wf = true) :
    CollK D (fun z => left z && !z.sameKey (.int .u64 x)) (ss ++ [x]) := by
  obtain ⟨h1, h2, h3⟩ := hC
  have hn : x ∉ ss := fun hm => by have := ((h2 x).1 hm).2; rw [hlk] at this; cases this
  refine ⟨List.nodup_append.2 ⟨h1, by simp, by intro a ha b hb e; simp at hb; subst hb; subst e; exact hn ha⟩, fun a => ?_, fun a ha => by
    rcases List.mem_append.1 ha with h | h
    · exact h3 a h
    · simp at h; subst h; exact hwf⟩
  rw [List.mem_append, h2 a]
  simp only [same_u64]
  by_cases e : a = x
  · subst e; simp [hx]
  · simp [e]
theorem CollK.done {D : DataW Value} {left : Lit → Bool} {ss : List Int} (hC : CollK D left ss) (hl : ∀ kl, left kl = false) : KeysOf D ss :=
  ⟨hC.1, (fun a => by rw [hC.2.1 a, hl]; simp), hC.2.2⟩
set_option maxRecDepth 100000 in
set_option maxHeartbeats 1000000 in
theorem keys_stops (m : Nat) (hm1 : 1 ≤ m) (bt ml k : Nat) (D0 : DataW Value) (w : World) (hbt : bt < w.heap.size) (ht : w.cell? ⟨bt, 0, none⟩ = some (.map (some ml))) (hml : ml < w.heap.size)
    (hown : OwnL w ml k D0) :
    SeqStopsK Fence.wide m Try.prog 56 #[.pointer (some ⟨bt, 0, none⟩)] u64E KeepsWalks (fun xs => KeysOf D0 xs ∧ xs.length ≤ Maps.size D0) (fun _ => True) (Maps.size D0) w := by
  intro l J Jx W hW hJ _ hY h0
  have ht' : W.cell? ⟨bt, 0, none⟩ = some (.map (some ml)) := (hW.cell (p := ⟨bt, 0, none⟩) hbt).trans ht
  have hown' : W.ownsMap Try.prog 23 RV ml k D0 := by
    obtain ⟨es, clock, hb', Ft, hs, hD⟩ := hown
    exact ⟨es, clock, (hW.block ml hml).trans hb', Ft, hs, hD⟩
  clear hown ht hW
  refine callsIn_of_wp Try.func56 rfl trivial ?_ rfl
  simp only [Try.ntmps56, List.size_toArray, List.length_cons, List.length_nil, Nat.reduceAdd, Nat.reduceSub, Array.replicate_succ, Array.replicate_zero, List.push_toArray, List.append_toArray, List.nil_append, List.cons_append]
  gi_wp2_with (gi_at_range; refine wpListIn_range_own _ rfl _ 72 rfl 23 84 kA Try.underlying72 _ ml k _ rfl hown' ?_; intro w0 hrg0 hg0 hs0)
  go_frame
  gi_loopw [3] (fun _ wr => ∃ (left : Lit → Bool) (cnt : Nat) (ss : List Int), wr.ranges Try.prog 23 RV ml W.heap.size k D0 left cnt ∧ ss.length + cnt ≤ Maps.size D0 ∧ Hid (CollK D0 left ss) ∧ J ss wr)
    (fun _ wr => wr.rangeLeft ml W.heap.size)
  case atStart =>
    exact ⟨_, _, [], hrg0, by simp, Lib.hid (CollK.start D0), hJ [] W w0 none h0 hg0 (fun r e => by cases e)⟩
  case round =>
    obtain ⟨left, cnt, ss, hrg, hcs, hC, hJs⟩ := hrel
    gi_wp2_with (gi_at_next; refine wpListIn_next_ranges _ rfl _ rfl 23 kA RV (Value.int .u64) (fun v : Value => v) (fun key kl hk => by obtain ⟨x, hx, _⟩ := Maps.keyOf_int_inv Try.underlying23 hk; exact ⟨x, hx⟩) (fun v y hv => ⟨v, rfl⟩) ml W.heap.size k _ _ _ rfl hrg ?_ ?_)
    · intro hc0 hl0
      have HF := Lib.hid (hC.out.done hl0)
      gi_wp2
      go_end0
      exact ⟨⟨_, rfl⟩, .inl ⟨ss, ⟨HF.out, by omega⟩, hJs⟩⟩
    · intro x v kl yd yp w2 cnt2 hkey hlk hv hat hrg2 hlt hg2 hs2 hen
      obtain ⟨x', ex, rfl, hwf⟩ := Maps.keyOf_int_inv Try.underlying23 hkey
      obtain rfl : x = x' := by simpa using ex
      have hJ2 : J ss w2 := hJ ss wr w2 (some W.heap.size) hJs hg2 (fun r e => by cases e; exact ⟨Nat.le_refl _, hrg.iter_walk⟩)
      have HC2 := Lib.hid (hC.out.step hlk (Maps.has_true_of_atKey hat) hwf)
      obtain ⟨fn, tmps, assign, body, hy, hR⟩ := hY ss x w2 hJ2 (by omega)
      dsimp only [u64E] at hy
      clear hat hkey hv hs2
      gi_wp2
      refine hR.mono ?_
      rintro e W3 (⟨rfl, hJ3, hk3⟩ | ⟨rfl, hJx3⟩)
      · have hrg3 := hrg2.of_walks hk3
        clear hk3
        gi_wp2
        go_roundw
        case rel => exact ⟨_, cnt2, ss ++ [x], hrg3, by simp; omega, HC2, hJ3⟩
        case measure => rw [hrg3.left_eq, hrg.left_eq]; exact hlt
      · gi_wp2
        refine bodyPost_ret (results_none rfl _ _ _) rfl ?_
        exact ⟨⟨_, rfl⟩, .inr ⟨ss ++ [x], trivial, hJx3⟩⟩
theorem keys_calls (mm : Nat) (ml : Nat) (w : World) :
    CallsIn Fence.wide mm Try.prog 48 #[.map (some ml)] w fun e w' => e = .returned (.func (.func 56) #[] #[.pointer (some ⟨w.heap.size, 0, none⟩)]) ∧ w' = w.alloc (.cells #[.map (some ml)] 72) := by
  refine callsIn_wide.2 ?_
  go_enter Try.func48, Try.ntmps48
  go_wp2
  go_ret
  exact ⟨rfl, rfl⟩
end Go.Proofs.Ytefgahcadfmmoaa
namespace Go.Proofs.Ytefgahcadfmmoaa
open Go.RowKit Go.Maps Go.Shelf
attribute [local go_sem] Oper.semAt_some
set_option linter.unusedVariables false

theorem Try.infoA : (Try.prog.info? 23).map (fun i => (i.zero, i.size, i.bytes)) = some (some (.int .u64 0), 1, 8) := by kernel_rfl
theorem size_le {w : World} {ml k : Nat} {D : DataW Value} (h : OwnL w ml k D) : Maps.size D ≤ k := by
  obtain ⟨es, c, _, _, hs, rfl⟩ := h
  show ((es.toList.map _).foldr DataW.insert []).length ≤ k
  rw [length_sorted]
  simpa using hs
set_option maxRecDepth 100000 in
set_option maxHeartbeats 2000000 in
theorem appendseq_in (b ml k : Nat) (D0 : DataW Value) (w : World) (hk : k ≤ 1000000) (hb : Blk w b #[.map (some ml)] 72) (hown0 : OwnL w ml k D0) :
    CallsIn Fence.wide 9 Try.prog 60 #[.slice none 0 0, .func (.func 56) #[] #[.pointer (some ⟨b, 0, none⟩)]] w fun e W' => ∃ u xs, e = .returned u ∧ KeysOf D0 xs ∧ xs.length ≤ k ∧ W'.ownsRow w.heap.size 23 1 u xs.length (xs.map (Value.int .u64)) ∧ Below w.heap.size w W' := by
  obtain ⟨i0, hi, hz0, hz1, hz2⟩ := info_parts Try.infoA
  have hbl := hb.lt
  refine callsIn_of_wp_marks Try.func60 rfl trivial ?_ rfl
  simp only [Try.ntmps60, List.size_toArray, List.length_cons, List.length_nil, Nat.reduceAdd, Nat.reduceSub, Array.replicate_succ, Array.replicate_zero, List.push_toArray, List.append_toArray, List.nil_append, List.cons_append]
  have HB := Lib.hid hb
  have HR := Lib.hid hown0
  have hml := hown0.lt
  have hszD : Maps.size D0 ≤ k := size_le hown0
  clear hb hown0
  gi_wp2
  obtain ⟨w3, hw3⟩ : ∃ w3, w3 = w.alloc (.cells #[.slice none 0 0] 50) := ⟨_, rfl⟩
  have k3 : Blk w3 w.heap.size #[.slice none 0 0] 50 := by rw [hw3]; exact Blk.new w _ _
  have hB0 : Below w.heap.size w w3 := by rw [hw3]; exact (Below.refl _ w).alloc (Nat.le_refl _) _
  have hs3 : w3.heap.size = w.heap.size + 1 := by rw [hw3]; simp
  have b3 : Blk w3 b #[.map (some ml)] 72 := HB.out.kept (Keeps.of_below' hB0) id
  have r3 : OwnL w3 ml k D0 := ownL_keeps HR.out (Keeps.of_below' hB0) (fun h => h)
  rw [← hw3]
  clear hw3
  refine wpIn_rangeFunc_ownF rfl (by omega) (gf := 56) (lb := #[.pointer (some ⟨b, 0, none⟩)]) (by simp [Act.eval]) trivial (enters_of Try.func56 (by kernel_rfl) rfl)
    (keys_stops 8 (by omega) b ml k D0 w3 b3.lt (b3.cell 0) r3.lt r3) KeepsWalks.trans (fun W l o o' hl h hc hw => walksK_b (w := w3) W l o o' hl h hc hw) (Below.refl _ _) (fun _ => rfl)
    (fun pre W => (∃ u, Blk W w.heap.size #[u] 50 ∧ W.ownsRow (w.heap.size + 1) 23 1 u pre.length (pre.map (Value.int .u64))) ∧ w.heap.size + 1 ≤ W.heap.size ∧ Below w.heap.size w W)
    (fun _ _ _ => False)
    (fun s A B row hs hg hr => by
      obtain ⟨⟨u, h1, h2⟩, h3, h4⟩ := hs
      exact ⟨⟨u, h1.put hg (fun r e => (hr r e).2), own_put h2 hg (fun r e => (hr r e).2)⟩, Nat.le_trans h3 hg.size, h4.grown hg h4.size (fun r e => by have := (hr r e).1; omega)⟩)
    (fun _ _ _ _ _ hs _ _ => hs)
    ⟨⟨_, k3, World.ownsRow_nil _ _ _ _⟩, by omega, hB0⟩
    (fun x => { tmps := #[.slice none 0 0, .func (.func 56) #[] #[.pointer (some ⟨b, 0, none⟩)], .pointer (some ⟨w.heap.size, 0, none⟩), undef, .slice none 0 0, .int .u64 x, .func (.func 56) #[] #[.pointer (some ⟨b, 0, none⟩)], .int .u64 x, undef, undef, undef, undef, undef], defers := [] }) ?assign ?body ?done ?stop
  case assign =>
    intro l x W K hK
    simp [u64E]
    gi_wp2
    exact hK
  case body =>
    rintro l2 pre x W ⟨⟨u, hk, hown⟩, hs, hB⟩ hlen
    have hc := hk.cell 0
    have hf := hk.frozen 0
    rw [show (#[u] : Array Value)[0]? = some u from rfl] at hc
    gi_wp2_with (gi_at_builtin; refine wpListIn_append_own _ rfl _ _ 50 rfl (w.heap.size + 1) 23 i0 (.int .u64 0) 1 8 Try.underlying50 hi hz0 hz1 hz2 rfl (by decide) _ _ _ rfl (hown.alloc _) ⟨W.heap.size, 0, none⟩ 1 1 [.int .u64 x] rfl rfl (cell_one_new _ _ _) (ints_oneCell .u64 [x]) (by unfold maxLen; omega) (by omega) (by simp; omega) ?_)
    intro v' w1 hown' hgrow hnil
    obtain ⟨g', cap, rfl, hg1, hg2, hg3, hg4, hg5, hg6, hg7⟩ := own_shape hown' (by omega)
    have hk1 := (hk.alloc (.cells #[.int .u64 x] 23)).grown hgrow (fun e => by have := own_base hown _ e.symm; omega)
    have hc1 := hk1.cell 0
    rw [show (#[u] : Array Value)[0]? = some u from rfl] at hc1
    have hf1 := hk1.frozen 0
    have HB1 := Lib.hid ((hB.alloc hB.size (.cells #[.int .u64 x] 23)).grown hgrow (by simp; have := hB.size; omega) (fun r e => by have := own_base hown _ e; omega))
    have HK1 := Lib.hid hk1
    have HO := Lib.hid hown'
    have HS := Lib.hid (show w.heap.size + 1 ≤ w1.heap.size by have := hgrow.size; simp at this; omega)
    have HKo := Lib.hid ((KeepsOthers.alloc W (.cells #[.int .u64 x] 23)).trans (KeepsOthers.of_grownBy hgrow (fun j o e ho => by obtain ⟨_, _, _, rfl⟩ := own_cells (hown.alloc (.cells #[.int .u64 x] 23)) j o e ho; rfl)))
    clear hk1 hown' hk hown hgrow hnil hg5 hg6 hg7 hB hs
    gi_wp2
    refine ⟨HKo.out.trans (KeepsOthers.setCell _ _ _), (HKo.out.trans (KeepsOthers.setCell _ _ _)).walks, ⟨_, by simpa using HK1.out.set 0 (.slice (some ⟨g', 0, none⟩) (pre.length + 1) cap), ?_⟩, by simpa [World.setCell] using HS.out, HB1.out.setCell (p := ⟨w.heap.size, 0, none⟩) (by simp) _⟩
    · have := ownsRow_setCell_below HO.out (a := ⟨w.heap.size, 0, none⟩) (by simp) (.slice (some ⟨g', 0, none⟩) (pre.length + 1) cap)
      simpa using this
  case done =>
    rintro D xs W hD ⟨hks, hxl⟩ ⟨⟨u, hk, hown⟩, hs, hB⟩ hK
    obtain ⟨a, lw, cw, rfl⟩ := own_slice hown
    have hc := hk.cell 0
    rw [show (#[Value.slice a lw cw] : Array Value)[0]? = some (.slice a lw cw) from rfl] at hc
    have hf := hk.frozen 0
    have hsz := hB.size
    have HB := Lib.hid hB
    have HO := Lib.hid hown
    have HKs := Lib.hid hks
    have HXl := Lib.hid (Nat.le_trans hxl hszD)
    clear hk hB hown hs hks hxl
    gi_wp2
    refine ⟨by simp, .inl ⟨_, _, rfl, run_takeDeferred hK, ?_⟩⟩
    exact ⟨.slice a lw cw, by simp [results, Try.results60, go_sem], _, _, rfl, HKs.out, HXl.out, own_mono (own_put HO.out (grownBy_putObj' _ D (.deferred none)) (fun r e => by cases e; exact ⟨_, hK, rfl⟩)) (by omega), HB.out.trans (belowK_b (w := w) (Nat.le_refl _) _ D _ _ (by omega) hK rfl rfl)⟩
  case stop =>
    rintro D c pre W _ _ h _
    exact h.elim
end Go.Proofs.Ytefgahcadfmmoaa
namespace Go.Proofs.Ytefgahcadfmmoaa
open Go.RowKit Go.Sort
set_option linter.unusedVariables false

def srt (zs : List Int) : List Int := zs.mergeSort fun x y => decide (x ≤ y)
theorem srt_perm (zs : List Int) : (srt zs).Perm zs := List.mergeSort_perm _ _
theorem srt_len (zs : List Int) : (srt zs).length = zs.length := (srt_perm zs).length_eq
theorem srt_mem (zs : List Int) (x : Int) : x ∈ srt zs ↔ x ∈ zs := (srt_perm zs).mem_iff

theorem holds_of_blockU {w : World} {g : Nat} {cur : Array Value} {e : TypeId} {ss : List Int} (hb : w.heap[g]? = some (.cells cur e (0, 0))) (ht : cur.toList.take ss.length = ss.map (Value.int .u64)) : Holds (Value.int .u64) w g 0 ss.toArray := by
  intro j hj
  have hj' : j < ss.length := by simpa using hj
  refine ⟨?_, by simp [World.frozen?, hb]⟩
  have h1 : (cur.toList.take ss.length)[j]? = (ss.map (Value.int .u64))[j]? := by rw [ht]
  rw [List.getElem?_take_of_lt hj'] at h1
  simp only [World.cell?, hb, Nat.zero_add]
  simp only [Option.isSome_none, Bool.false_eq_true, if_false]
  rw [← Array.getElem?_toList, h1]
  simp [hj']

theorem heap_sortedU {w : World} {g n : Nat} {os : Array Obj} {cur : Array Value} {e : TypeId} {fr : Nat × Nat} (d : Array Int) (hb : w.heap[g]? = some (.cells cur e fr)) :
    (grow (putRow (Value.int .u64) (Sort.ahead w n) g 0 d) os).heap[g]? = some (.cells (putCells (Value.int .u64) 0 d cur) e fr) := by
  have hg : g < w.heap.size := (Array.getElem?_eq_some_iff.1 hb).1
  rw [heap_grow_old _ _ (by simpa using hg)]
  simp [putRow, mapBlock, Sort.ahead, Array.getElem?_modify, hb, onCells]

theorem grownBy_sortedU {w : World} {g n : Nat} {os : Array Obj} (d : Array Int) : w.grownBy (grow (putRow (Value.int .u64) (Sort.ahead w n) g 0 d) os) (some g) := by
  refine ⟨rfl, rfl, rfl, by simp, fun k hk hne => ?_⟩
  rw [heap_grow_old _ _ (by simpa using hk)]
  have : g ≠ k := fun e => hne (by rw [e])
  simp [putRow, mapBlock, Sort.ahead, Array.getElem?_modify, this]

theorem take_putCellsU (cur : Array Value) (ts : List Int) (h : ts.length ≤ cur.size) : (putCells (Value.int .u64) 0 ts.toArray cur).toList.take ts.length = ts.map (Value.int .u64) := by
  apply List.ext_getElem?
  intro j
  by_cases hj : j < ts.length
  · rw [List.getElem?_take_of_lt hj, Array.getElem?_toList]
    simp [putCells, hj, show j < cur.size by omega]
  · rw [List.getElem?_take_eq_none (by omega), List.getElem?_eq_none (by simp; omega)]

theorem sort_own (zs : List Int) (v : Value) (base : Nat) (w : World) (h : w.ownsRow base 23 1 v zs.length (zs.map (Value.int .u64))) (hn : zs.length ≤ 1000000) :
    Calls Try.prog 55 #[v] w fun e w' => e = .returned (.tuple #[]) ∧ w'.ownsRow base 23 1 v (srt zs).length ((srt zs).map (Value.int .u64)) ∧ w.grownBy w' v.ownBlock := by
  obtain ⟨hl, ⟨rfl, h0⟩ | ⟨g, cap, cur, rfl, hb, hh, h1, h2, hsz, ht⟩⟩ := h
  · have hz : zs = [] := List.eq_nil_of_length_eq_zero h0
    subst hz
    refine (Srt.So.Sort_int_nil none 0 w).mono ?_
    rintro e w' ⟨rfl, rfl⟩
    exact ⟨rfl, by rw [show srt [] = [] from by simp [srt]]; exact World.ownsRow_nil _ _ _ _, ⟨rfl, rfl, rfl, Nat.le_refl _, fun k hk _ => rfl⟩⟩
  · have hg := (Array.getElem?_eq_some_iff.1 hh).1
    rw [Nat.mul_one] at ht hsz
    refine (Srt.So.slices_Sort_int g 0 cap zs w (holds_of_blockU hh ht) hg (by omega)).mono ?_
    rintro e w' ⟨rfl, n, os, rfl⟩
    refine ⟨rfl, ?_, grownBy_sortedU _⟩
    refine ⟨by simp, .inr ⟨g, cap, _, by rw [srt_len], hb, heap_sortedU _ hh, by rw [srt_len]; exact h1, h2, by simp [putCells, hsz], ?_⟩⟩
    rw [Nat.mul_one]
    exact take_putCellsU cur (srt zs) (by rw [srt_len]; omega)
end Go.Proofs.Ytefgahcadfmmoaa
namespace Go.Proofs.Ytefgahcadfmmoaa
open Go.RowKit Go.Maps Go.Shelf
attribute [local go_sem] Oper.semAt_some
set_option linter.unusedVariables false

theorem collect_v (b ml k : Nat) (D0 : DataW Value) (w : World) (hk : k ≤ 1000000) (hb : Blk w b #[.map (some ml)] 72) (hown0 : OwnL w ml k D0) :
    Calls Try.prog 54 #[.func (.func 56) #[] #[.pointer (some ⟨b, 0, none⟩)]] w fun e W' => ∃ u xs, e = .returned u ∧ KeysOf D0 xs ∧ xs.length ≤ k ∧ W'.ownsRow w.heap.size 23 1 u xs.length (xs.map (Value.int .u64)) ∧ Below w.heap.size w W' := by
  have HA := Lib.hid (callsIn_wide.1 (appendseq_in b ml k D0 w hk hb hown0))
  clear hb hown0
  go_enter Try.func54, Try.ntmps54
  go_wp2_with (fail)
  refine HA.out.mono ?_
  rintro e w1 ⟨u, xs, rfl, hks, hxl, hown, hB⟩
  obtain ⟨a, n, c, rfl⟩ := own_slice hown
  have HO := Lib.hid hown
  have HB := Lib.hid hB
  have HKs := Lib.hid hks
  have HXl := Lib.hid hxl
  clear hown hB hks hxl
  go_wp2_with (fail)
  go_ret
  exact ⟨_, _, rfl, HKs.out, HXl.out, HO.out, HB.out⟩
theorem sorted_v (b ml k : Nat) (D0 : DataW Value) (w : World) (hk : k ≤ 1000000) (hb : Blk w b #[.map (some ml)] 72) (hown0 : OwnL w ml k D0) :
    Calls Try.prog 47 #[.func (.func 56) #[] #[.pointer (some ⟨b, 0, none⟩)]] w fun e W' => ∃ u xs, e = .returned u ∧ KeysOf D0 xs ∧ xs.length ≤ k ∧ W'.ownsRow w.heap.size 23 1 u (srt xs).length ((srt xs).map (Value.int .u64)) ∧ Below w.heap.size w W' := by
  have HA := Lib.hid (collect_v b ml k D0 w hk hb hown0)
  clear hb hown0
  go_enter Try.func47, Try.ntmps47
  go_wp2_with (fail)
  refine HA.out.mono ?_
  rintro e w1 ⟨u, xs, rfl, hks, hxl, hown, hB⟩
  obtain ⟨a, n, c, rfl⟩ := own_slice hown
  have HB := Lib.hid hB
  have HS := Lib.hid (sort_own xs _ _ w1 hown (by omega))
  have hob := own_base hown
  have HOB := Lib.hid hob
  have HKs := Lib.hid hks
  have HXl := Lib.hid hxl
  clear hown hB hob hks hxl
  go_wp2_with (fail)
  refine HS.out.mono ?_
  rintro e w2 ⟨rfl, ho2, hg2⟩
  have HO := Lib.hid ho2
  have HB2 := Lib.hid (HB.out.grown hg2 HB.out.size (fun r e => HOB.out r e))
  clear ho2 hg2
  go_wp2_with (fail)
  go_ret
  exact ⟨_, _, rfl, HKs.out, HXl.out, HO.out, HB2.out⟩

/-! ### slices.All -/
def encP (l : List Int) (i : Fin l.length) : Array Value := #[.int .i64 i.val, .int .u64 (l.getD i.val 0)]
def KpG (g : Nat) (A B : World) : Prop := A.heap.size ≤ B.heap.size ∧ (g < A.heap.size → B.heap[g]? = A.heap[g]?)
theorem kpG_t {g : Nat} {A B C : World} (h : KpG g A B) (k : KpG g B C) : KpG g A C := ⟨Nat.le_trans h.1 k.1, fun hg => (k.2 (Nat.lt_of_lt_of_le hg h.1)).trans (h.2 hg)⟩
theorem kpG_b {w : World} {g : Nat} (hn : g < w.heap.size) (W : World) (l : Nat) (o o' : Obj) (hl : w.heap.size ≤ l) (h : W.heap[l]? = some o) (hc : o.isCells = false) (hw : o.isWalk = false) : KpG g W (W.putObj l o') :=
  ⟨(belowK_b (w := w) (n₀ := g + 1) (by omega) W l o o' hl h hc hw).size, fun _ => (belowK_b (w := w) (n₀ := g + 1) (by omega) W l o o' hl h hc hw).block g (by omega)⟩
structure RowG (w : World) (g : Nat) (v : Value) (l : List Int) : Prop where
  sl : ∃ a c, v = .slice a l.length c ∧ (0 < l.length → a = some ⟨g, 0, none⟩)
  lt : g < w.heap.size
  ce : ∀ j, j < l.length → w.cell? ⟨g, j, none⟩ = some (.int .u64 (l.getD j 0))
theorem RowG.kept {w w' : World} {g : Nat} {v : Value} {l : List Int} (h : RowG w g v l) (hs : w.heap.size ≤ w'.heap.size) (hk : g < w.heap.size → w'.heap[g]? = w.heap[g]?) : RowG w' g v l :=
  ⟨h.sl, Nat.lt_of_lt_of_le h.lt hs, fun j hj => (World.cell?_of_block (w := w) (a := ⟨g, j, none⟩) (hk h.lt)).trans (h.ce j hj)⟩
set_option maxRecDepth 100000 in
set_option maxHeartbeats 1000000 in
theorem all_stops (mm : Nat) (hmm : 1 ≤ mm) (v : Value) (l : List Int) (b g : Nat) (w : World) (hn : l.length ≤ 1000000) (hb : Blk w b #[v] 50) (hr : RowG w g v l) :
    SeqStopsK Fence.wide mm Try.prog 53 #[.pointer (some ⟨b, 0, none⟩)] (encP l) (KpG g) (fun xs => xs = List.finRange l.length) (fun pre => pre <+: List.finRange l.length) l.length w := by
  intro ll J Jx W hW _ _ hY h0
  have hB : Blk W b #[v] 50 := (hW.block b hb.lt).trans hb
  have hR : RowG W g v l := hr.kept hW.size (fun h => hW.block g h)
  have hc0 := hB.cell 0
  rw [show (#[v] : Array Value)[0]? = some v from rfl] at hc0
  have HR := Lib.hid hR
  obtain ⟨a1, c1, rfl, ha⟩ := hR.sl
  have HA := Lib.hid ha
  clear hb hW hr hR ha hB
  refine callsIn_of_wp Try.func53 rfl trivial ?_ rfl
  simp only [Try.ntmps53, List.size_toArray, List.length_cons, List.length_nil, Nat.reduceAdd, Nat.reduceSub, Array.replicate_succ, Array.replicate_zero, List.push_toArray, List.append_toArray, List.nil_append, List.cons_append]
  gi_wp2
  gi_loopw [7] (fun iv wr => ∃ k : Nat, k ≤ l.length ∧ iv = .int .i64 k ∧ J ((List.finRange l.length).take k) wr ∧ Hid (RowG wr g (.slice a1 l.length c1) l)) (fun iv _ => l.length - (intOf iv).toNat)
  case atStart => exact ⟨0, Nat.zero_le _, rfl, h0, HR⟩
  case round =>
    obtain ⟨k, hk, rfl, hJ, hBk⟩ := hrel
    by_cases hlt : k < l.length
    · have c2 := hBk.out.ce k hlt
      obtain rfl := HA.out (by omega)
      obtain ⟨x, hx⟩ : ∃ x, l.getD k 0 = x := ⟨_, rfl⟩
      rw [hx] at c2
      have HT := Lib.hid (fin_take l.length k hlt)
      have HX := Lib.hid hx
      have b1 : (k : Int) < (l.length : Int) := by omega
      have b3 : ((k : Int)).toNat = k := by omega
      have HLT := Lib.hid hlt
      clear hx
      obtain ⟨fn, tmps, assign, body, hy, hRR⟩ := hY _ ⟨k, HLT.out⟩ wr hJ (by rw [List.length_take, List.length_finRange]; have := HLT.out; omega)
      dsimp only [encP] at hy
      rw [HX.out] at hy
      gi_wp2
      refine hRR.mono ?_
      rintro e W3 (⟨rfl, hJ3, hk3⟩ | ⟨rfl, hJx3⟩)
      · have HB3 := Lib.hid (hBk.out.kept hk3.1 hk3.2)
        clear hk3
        gi_wp2
        go_roundw
        case rel => exact ⟨k + 1, HLT.out, by go_num, by rw [HT.out]; exact hJ3, HB3⟩
        case measure => have := HLT.out; simp [intOf]; omega
      · have HP := Lib.hid (show (List.finRange l.length).take k ++ [⟨k, HLT.out⟩] <+: List.finRange l.length from by rw [← HT.out]; exact List.take_prefix _ _)
        gi_wp2
        refine bodyPost_ret (results_none rfl _ _ _) rfl ?_
        exact ⟨⟨_, rfl⟩, .inr ⟨_, HP.out, hJx3⟩⟩
    · have hk2 : k = l.length := by omega
      subst hk2
      rw [List.take_of_length_le (by rw [List.length_finRange]; exact Nat.le_refl _)] at hJ
      gi_wp2
      go_end0
      exact ⟨⟨_, rfl⟩, .inl ⟨_, rfl, hJ⟩⟩
theorem all_calls (mm : Nat) (a : Option Addr) (n c : Nat) (w : World) :
    CallsIn Fence.wide mm Try.prog 46 #[.slice a n c] w fun e w' => e = .returned (.func (.func 53) #[] #[.pointer (some ⟨w.heap.size, 0, none⟩)]) ∧ w' = w.alloc (.cells #[.slice a n c] 50) := by
  refine callsIn_wide.2 ?_
  go_enter Try.func46, Try.ntmps46
  go_wp2
  go_ret
  exact ⟨rfl, rfl⟩
end Go.Proofs.Ytefgahcadfmmoaa
namespace Go.Proofs.Ytefgahcadfmmoaa
open Go.RowKit Go.Maps Go.Shelf
set_option linter.unusedVariables false

/-- the lines with something pending, rising -/
def RisingP (w : World) (D : DataW Value) (n : Nat) (e : Ending) (w' : World) : Prop :=
  ∃ b g v xs, e = .returned (.func (.func 53) #[] #[.pointer (some ⟨b, 0, none⟩)]) ∧ KeysOf D xs ∧ xs.length ≤ n ∧ Blk w' b #[v] 50 ∧ RowG w' g v (srt xs) ∧ w.heap.size ≤ g ∧ w.heap.size ≤ b ∧ Below w.heap.size w w'
set_option maxRecDepth 100000 in
theorem rising_v (w : World) (mb ml n : Nat) (D : DataW Value) (hn : n ≤ 1000000) (c2 : w.cell? ⟨mb, 2, none⟩ = some (.map (some ml))) (hown : OwnL w ml n D) :
    Calls Try.prog 34 #[.pointer (some ⟨mb, 0, none⟩)] w (RisingP w D n) := by
  have hB1 : Below w.heap.size w (w.alloc (.cells #[.map (some ml)] 72)) := (Below.refl _ _).alloc (Nat.le_refl _) _
  have HB1 := Lib.hid hB1
  have HKc := Lib.hid (callsIn_wide.1 (keys_calls 9 ml w))
  have HSo := Lib.hid (sorted_v w.heap.size ml n D (w.alloc (.cells #[.map (some ml)] 72)) hn (Blk.new w _ _) (ownL_keeps hown (Keeps.of_below' hB1) (fun h => h)))
  clear hown hB1
  go_enter Try.func34, Try.ntmps34
  go_wp2_with (fail)
  refine HKc.out.mono ?_
  rintro e w1 ⟨rfl, h1⟩
  subst h1
  go_wp2_with (fail)
  refine HSo.out.mono ?_
  rintro e w2 ⟨u, xs, rfl, hks, hxl, hown, hB⟩
  have hB2 : Below w.heap.size w w2 := HB1.out.trans (hB.mono HB1.out.size)
  have hsl := own_slice hown
  obtain ⟨a, n0, c, rfl⟩ := hsl
  obtain rfl : n0 = (srt xs).length := own_len hown
  have HAl := Lib.hid (callsIn_wide.1 (all_calls 9 a (srt xs).length c w2))
  have HKs := Lib.hid hks
  have HXl := Lib.hid hxl
  have hB3 : Below w2.heap.size w2 (w2.alloc (.cells #[.slice a (srt xs).length c] 50)) := (Below.refl _ _).alloc (Nat.le_refl _) _
  have HR := Lib.hid (show ∃ g, RowG (w2.alloc (.cells #[.slice a (srt xs).length c] 50)) g (.slice a (srt xs).length c) (srt xs) ∧ w.heap.size ≤ g from by
    by_cases h0 : 0 < (srt xs).length
    · obtain ⟨g, cap, e, hg0, hg, _, _, _, hc, _⟩ := own_shape hown h0
      have hr : RowG w2 g (.slice a (srt xs).length c) (srt xs) := ⟨⟨_, _, rfl, fun _ => by cases e; rfl⟩, hg, fun j hj => by rw [hc j hj]; simp [hj]⟩
      have hg0' := hg0
      simp at hg0'
      exact ⟨g, hr.kept hB3.size (fun h => hB3.block g h), by omega⟩
    · exact ⟨w2.heap.size, ⟨⟨_, _, rfl, fun h => absurd h h0⟩, by simp, fun j hj => absurd hj (by omega)⟩, hB2.size⟩)
  have HB3 := Lib.hid (hB2.trans (hB3.mono hB2.size))
  have HZ := Lib.hid hB2.size
  clear hown hB hB2 hB3 hks hxl
  go_wp2_with (fail)
  refine HAl.out.mono ?_
  rintro e w3 ⟨rfl, h3⟩
  subst h3
  go_wp2_with (fail)
  go_ret
  obtain ⟨g, hg1, hg2⟩ := HR.out
  exact ⟨_, g, _, xs, rfl, HKs.out, HXl.out, Blk.new w2 _ _, hg1, hg2, HZ.out, HB3.out⟩
end Go.Proofs.Ytefgahcadfmmoaa
