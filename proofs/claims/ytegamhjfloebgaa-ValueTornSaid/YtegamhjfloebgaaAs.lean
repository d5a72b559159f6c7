/-
  slices.AppendSeq, Collect over a table's keys: contracts.
-/
import Derived.Test.YtegamhjfloebgaaLt
import Derived.RangeFuncNested
import Derived.RangeFuncBound
import Derived.RangeFuncCalls
import Derived.RangeFuncLeaves
import Derived.RangeFuncBox
import Derived.RangeFuncMany
import Derived.Sort.MapsRangeIn
import Derived.Sort.KeysCollected
import Derived.Shelf.Abstract
import Derived.Shelf.RegionOpen
import Derived.OwnWalkIn
import Derived.TacticsInMore
import Derived.RegionIn
import Derived.LoopNIn
import Derived.LoopIn
import Derived.Outline
import Derived.Test.YtegamhjfloebgaaPf
import Derived.Maps.AppendAt
namespace Go.Proofs.Ytegamhjfloebgaa
open Go.RowKit Go.Maps Go.Shelf
attribute [local go_sem] Oper.semAt_some
set_option linter.unusedVariables false

def u64E (x : Int) : Array Value := #[.int .u64 x]
/-- a table's keys -/
def KeysOf (D : DataW Value) (xs : List Int) : Prop := xs.Nodup ∧ (∀ a, a ∈ xs ↔ Maps.has D (.int .u64 a) = true) ∧ ∀ a, a ∈ xs → (Lit.int .u64 a).wf = true
def CollK (D : DataW Value) (left : Lit → Bool) (ss : List Int) : Prop := ss.Nodup ∧ (∀ a, a ∈ ss ↔ (Maps.has D (.int .u64 a) = true ∧ left (.int .u64 a) = false)) ∧ ∀ a, a ∈ ss → (Lit.int .u64 a).wf = true
theorem CollK.start (D : DataW Value) : CollK D (Maps.has D) [] :=
  ⟨List.nodup_nil, (fun a => by
    constructor
    · intro h; cases h
    · rintro ⟨h1, h2⟩
      rw [h1] at h2; cases h2), (fun a h => by cases h)⟩
theorem same_u64 (a x : Int) : (Lit.int .u64 a).sameKey (.int .u64 x) = decide (a = x) := by
  simp [Lit.sameKey]
theorem CollK.step {D : DataW Value} {left : Lit → Bool} {ss : List Int} (hC : CollK D left ss) {x : Int} (hlk : left (.int .u64 x) = true) (hx : Maps.has D (.int .u64 x) = true) (hwf : (Lit.int .u64 x).wf = true) :
    CollK D (fun z => left z && !z.sameKey (.int .u64 x)) (ss ++ [x]) := by
  obtain ⟨h1, h2, h3⟩ := hC
  have hn : x ∉ ss := fun hm => by have := ((h2 x).1 hm).2; rw [hlk] at this; cases this
  refine ⟨List.nodup_append.2 ⟨h1, by simp, by intro a ha b hb e; simp at hb; subst hb; subst e; exact hn ha⟩, fun a => ?_, fun a ha => by
    rcases List.mem_append.1 ha with h | h
    · exact h3 a h
    · simp at h; subst h; exact hwf⟩
  rw [List.mem_append, h2 a]
  simp only [same_u64]
  by_cases e : a = x
  · subst e; simp [hx]
  · simp [e]
theorem CollK.done {D : DataW Value} {left : Lit → Bool} {ss : List Int} (hC : CollK D left ss) (hl : ∀ kl, left kl = false) : KeysOf D ss :=
  ⟨hC.1, (fun a => by rw [hC.2.1 a, hl]; simp), hC.2.2⟩
set_option maxRecDepth 100000 in
set_option maxHeartbeats 1000000 in
theorem keys_stops (m : Nat) (hm1 : 1 ≤ m) (bt ml k : Nat) (D0 : DataW Value) (w : World) (hbt : bt < w.heap.size) (ht : w.cell? ⟨bt, 0, none⟩ = some (.map (some ml))) (hml : ml < w.heap.size)
    (hown : OwnL w ml k D0) :
    SeqStopsK Fence.wide m Try.prog 76 #[.pointer (some ⟨bt, 0, none⟩)] u64E KeepsWalks (fun xs => KeysOf D0 xs ∧ xs.length ≤ Maps.size D0) (fun _ => True) (Maps.size D0) w := by
  intro l J Jx W hW hJ _ hY h0
  have ht' : W.cell? ⟨bt, 0, none⟩ = some (.map (some ml)) := (hW.cell (p := ⟨bt, 0, none⟩) hbt).trans ht
  have hown' : W.ownsMap Try.prog 23 RV ml k D0 := by
    obtain ⟨es, clock, hb', Ft, hs, hD⟩ := hown
    exact ⟨es, clock, (hW.block ml hml).trans hb', Ft, hs, hD⟩
  clear hown ht hW
  refine callsIn_of_wp Try.func76 rfl trivial ?_ rfl
  simp only [Try.ntmps76, List.size_toArray, List.length_cons, List.length_nil, Nat.reduceAdd, Nat.reduceSub, Array.replicate_succ, Array.replicate_zero, List.push_toArray, List.append_toArray, List.nil_append, List.cons_append]
  gi_wp2_with (gi_at_range; refine wpListIn_range_own _ rfl _ 72 rfl 23 88 kA Try.underlying72 _ ml k _ rfl hown' ?_; intro w0 hrg0 hg0 hs0)
  go_frame
  gi_loopw [3] (fun _ wr => ∃ (left : Lit → Bool) (cnt : Nat) (ss : List Int), wr.ranges Try.prog 23 RV ml W.heap.size k D0 left cnt ∧ ss.length + cnt ≤ Maps.size D0 ∧ Hid (CollK D0 left ss) ∧ J ss wr)
    (fun _ wr => wr.rangeLeft ml W.heap.size)
  case atStart =>
    exact ⟨_, _, [], hrg0, by simp, Lib.hid (CollK.start D0), hJ [] W w0 none h0 hg0 (fun r e => by cases e)⟩
  case round =>
    obtain ⟨left, cnt, ss, hrg, hcs, hC, hJs⟩ := hrel
    gi_wp2_with (gi_at_next; refine wpListIn_next_ranges _ rfl _ rfl 23 kA RV (Value.int .u64) (fun v : Value => v) (fun key kl hk => by obtain ⟨x, hx, _⟩ := Maps.keyOf_int_inv Try.underlying23 hk; exact ⟨x, hx⟩) (fun v y hv => ⟨v, rfl⟩) ml W.heap.size k _ _ _ rfl hrg ?_ ?_)
    · intro hc0 hl0
      have HF := Lib.hid (hC.out.done hl0)
      gi_wp2
      go_end0
      exact ⟨⟨_, rfl⟩, .inl ⟨ss, ⟨HF.out, by omega⟩, hJs⟩⟩
    · intro x v kl yd yp w2 cnt2 hkey hlk hv hat hrg2 hlt hg2 hs2 hen
      obtain ⟨x', ex, rfl, hwf⟩ := Maps.keyOf_int_inv Try.underlying23 hkey
      obtain rfl : x = x' := by simpa using ex
      have hJ2 : J ss w2 := hJ ss wr w2 (some W.heap.size) hJs hg2 (fun r e => by cases e; exact ⟨Nat.le_refl _, hrg.iter_walk⟩)
      have HC2 := Lib.hid (hC.out.step hlk (Maps.has_true_of_atKey hat) hwf)
      obtain ⟨fn, tmps, assign, body, hy, hR⟩ := hY ss x w2 hJ2 (by omega)
      dsimp only [u64E] at hy
      clear hat hkey hv hs2
      gi_wp2
      refine hR.mono ?_
      rintro e W3 (⟨rfl, hJ3, hk3⟩ | ⟨rfl, hJx3⟩)
      · have hrg3 := hrg2.of_walks hk3
        clear hk3
        gi_wp2
        go_roundw
        case rel => exact ⟨_, cnt2, ss ++ [x], hrg3, by simp; omega, HC2, hJ3⟩
        case measure => rw [hrg3.left_eq, hrg.left_eq]; exact hlt
      · gi_wp2
        refine bodyPost_ret (results_none rfl _ _ _) rfl ?_
        exact ⟨⟨_, rfl⟩, .inr ⟨ss ++ [x], trivial, hJx3⟩⟩
theorem keys_calls (mm : Nat) (ml : Nat) (w : World) :
    CallsIn Fence.wide mm Try.prog 65 #[.map (some ml)] w fun e w' => e = .returned (.func (.func 76) #[] #[.pointer (some ⟨w.heap.size, 0, none⟩)]) ∧ w' = w.alloc (.cells #[.map (some ml)] 72) := by
  refine callsIn_wide.2 ?_
  go_enter Try.func65, Try.ntmps65
  go_wp2
  go_ret
  exact ⟨rfl, rfl⟩
end Go.Proofs.Ytegamhjfloebgaa
namespace Go.Proofs.Ytegamhjfloebgaa
open Go.RowKit Go.Maps Go.Shelf
attribute [local go_sem] Oper.semAt_some
set_option linter.unusedVariables false

theorem Try.infoA : (Try.prog.info? 23).map (fun i => (i.zero, i.size, i.bytes)) = some (some (.int .u64 0), 1, 8) := by kernel_rfl
theorem size_le {w : World} {ml k : Nat} {D : DataW Value} (h : OwnL w ml k D) : Maps.size D ≤ k := by
  obtain ⟨es, c, _, _, hs, rfl⟩ := h
  show ((es.toList.map _).foldr DataW.insert []).length ≤ k
  rw [length_sorted]
  simpa using hs
set_option maxRecDepth 100000 in
set_option maxHeartbeats 2000000 in
theorem appendseq_in (b ml k : Nat) (D0 : DataW Value) (w : World) (hk : k ≤ 1000000) (hb : Blk w b #[.map (some ml)] 72) (hown0 : OwnL w ml k D0) :
    CallsIn Fence.wide 9 Try.prog 78 #[.slice none 0 0, .func (.func 76) #[] #[.pointer (some ⟨b, 0, none⟩)]] w fun e W' => ∃ u xs, e = .returned u ∧ KeysOf D0 xs ∧ xs.length ≤ k ∧ W'.ownsRow w.heap.size 23 1 u xs.length (xs.map (Value.int .u64)) ∧ Below w.heap.size w W' := by
  obtain ⟨i0, hi, hz0, hz1, hz2⟩ := info_parts Try.infoA
  have hbl := hb.lt
  refine callsIn_of_wp_marks Try.func78 rfl trivial ?_ rfl
  simp only [Try.ntmps78, List.size_toArray, List.length_cons, List.length_nil, Nat.reduceAdd, Nat.reduceSub, Array.replicate_succ, Array.replicate_zero, List.push_toArray, List.append_toArray, List.nil_append, List.cons_append]
  have HB := Lib.hid hb
  have HR := Lib.hid hown0
  have hml := hown0.lt
  have hszD : Maps.size D0 ≤ k := size_le hown0
  clear hb hown0
  gi_wp2
  obtain ⟨w3, hw3⟩ : ∃ w3, w3 = w.alloc (.cells #[.slice none 0 0] 102) := ⟨_, rfl⟩
  have k3 : Blk w3 w.heap.size #[.slice none 0 0] 102 := by rw [hw3]; exact Blk.new w _ _
  have hB0 : Below w.heap.size w w3 := by rw [hw3]; exact (Below.refl _ w).alloc (Nat.le_refl _) _
  have hs3 : w3.heap.size = w.heap.size + 1 := by rw [hw3]; simp
  have b3 : Blk w3 b #[.map (some ml)] 72 := HB.out.kept (Keeps.of_below' hB0) id
  have r3 : OwnL w3 ml k D0 := ownL_keeps HR.out (Keeps.of_below' hB0) (fun h => h)
  rw [← hw3]
  clear hw3
  refine wpIn_rangeFunc_ownF rfl (by omega) (gf := 76) (lb := #[.pointer (some ⟨b, 0, none⟩)]) (by simp [Act.eval]) trivial (enters_of Try.func76 (by kernel_rfl) rfl)
    (keys_stops 8 (by omega) b ml k D0 w3 b3.lt (b3.cell 0) r3.lt r3) KeepsWalks.trans (fun W l o o' hl h hc hw => walksK_b (w := w3) W l o o' hl h hc hw) (Below.refl _ _) (fun _ => rfl)
    (fun pre W => (∃ u, Blk W w.heap.size #[u] 102 ∧ W.ownsRow (w.heap.size + 1) 23 1 u pre.length (pre.map (Value.int .u64))) ∧ w.heap.size + 1 ≤ W.heap.size ∧ Below w.heap.size w W)
    (fun _ _ _ => False)
    (fun s A B row hs hg hr => by
      obtain ⟨⟨u, h1, h2⟩, h3, h4⟩ := hs
      exact ⟨⟨u, h1.put hg (fun r e => (hr r e).2), own_put h2 hg (fun r e => (hr r e).2)⟩, Nat.le_trans h3 hg.size, h4.grown hg h4.size (fun r e => by have := (hr r e).1; omega)⟩)
    (fun _ _ _ _ _ hs _ _ => hs)
    ⟨⟨_, k3, World.ownsRow_nil _ _ _ _⟩, by omega, hB0⟩
    (fun x => { tmps := #[.slice none 0 0, .func (.func 76) #[] #[.pointer (some ⟨b, 0, none⟩)], .pointer (some ⟨w.heap.size, 0, none⟩), undef, .slice none 0 0, .int .u64 x, .func (.func 76) #[] #[.pointer (some ⟨b, 0, none⟩)], .int .u64 x, undef, undef, undef, undef, undef], defers := [] }) ?assign ?body ?done ?stop
  case assign =>
    intro l x W K hK
    simp [u64E]
    gi_wp2
    exact hK
  case body =>
    rintro l2 pre x W ⟨⟨u, hk, hown⟩, hs, hB⟩ hlen
    have hc := hk.cell 0
    have hf := hk.frozen 0
    rw [show (#[u] : Array Value)[0]? = some u from rfl] at hc
    gi_wp2_with (gi_at_builtin; refine wpListIn_append_own _ rfl _ _ 102 rfl (w.heap.size + 1) 23 i0 (.int .u64 0) 1 8 Try.underlying102 hi hz0 hz1 hz2 rfl (by decide) _ _ _ rfl (hown.alloc _) ⟨W.heap.size, 0, none⟩ 1 1 [.int .u64 x] rfl rfl (cell_one_new _ _ _) (ints_oneCell .u64 [x]) (by unfold maxLen; omega) (by omega) (by simp; omega) ?_)
    intro v' w1 hown' hgrow hnil
    obtain ⟨g', cap, rfl, hg1, hg2, hg3, hg4, hg5, hg6, hg7⟩ := own_shape hown' (by omega)
    have hk1 := (hk.alloc (.cells #[.int .u64 x] 23)).grown hgrow (fun e => by have := own_base hown _ e.symm; omega)
    have hc1 := hk1.cell 0
    rw [show (#[u] : Array Value)[0]? = some u from rfl] at hc1
    have hf1 := hk1.frozen 0
    have HB1 := Lib.hid ((hB.alloc hB.size (.cells #[.int .u64 x] 23)).grown hgrow (by simp; have := hB.size; omega) (fun r e => by have := own_base hown _ e; omega))
    have HK1 := Lib.hid hk1
    have HO := Lib.hid hown'
    have HS := Lib.hid (show w.heap.size + 1 ≤ w1.heap.size by have := hgrow.size; simp at this; omega)
    have HKo := Lib.hid ((KeepsOthers.alloc W (.cells #[.int .u64 x] 23)).trans (KeepsOthers.of_grownBy hgrow (fun j o e ho => by obtain ⟨_, _, _, rfl⟩ := own_cells (hown.alloc (.cells #[.int .u64 x] 23)) j o e ho; rfl)))
    clear hk1 hown' hk hown hgrow hnil hg5 hg6 hg7 hB hs
    gi_wp2
    refine ⟨HKo.out.trans (KeepsOthers.setCell _ _ _), (HKo.out.trans (KeepsOthers.setCell _ _ _)).walks, ⟨_, by simpa using HK1.out.set 0 (.slice (some ⟨g', 0, none⟩) (pre.length + 1) cap), ?_⟩, by simpa [World.setCell] using HS.out, HB1.out.setCell (p := ⟨w.heap.size, 0, none⟩) (by simp) _⟩
    · have := ownsRow_setCell_below HO.out (a := ⟨w.heap.size, 0, none⟩) (by simp) (.slice (some ⟨g', 0, none⟩) (pre.length + 1) cap)
      simpa using this
  case done =>
    rintro D xs W hD ⟨hks, hxl⟩ ⟨⟨u, hk, hown⟩, hs, hB⟩ hK
    obtain ⟨a, lw, cw, rfl⟩ := own_slice hown
    have hc := hk.cell 0
    rw [show (#[Value.slice a lw cw] : Array Value)[0]? = some (.slice a lw cw) from rfl] at hc
    have hf := hk.frozen 0
    have hsz := hB.size
    have HB := Lib.hid hB
    have HO := Lib.hid hown
    have HKs := Lib.hid hks
    have HXl := Lib.hid (Nat.le_trans hxl hszD)
    clear hk hB hown hs hks hxl
    gi_wp2
    refine ⟨by simp, .inl ⟨_, _, rfl, run_takeDeferred hK, ?_⟩⟩
    exact ⟨.slice a lw cw, by simp [results, Try.results78, go_sem], _, _, rfl, HKs.out, HXl.out, own_mono (own_put HO.out (grownBy_putObj' _ D (.deferred none)) (fun r e => by cases e; exact ⟨_, hK, rfl⟩)) (by omega), HB.out.trans (belowK_b (w := w) (Nat.le_refl _) _ D _ _ (by omega) hK rfl rfl)⟩
  case stop =>
    rintro D c pre W _ _ h _
    exact h.elim
end Go.Proofs.Ytegamhjfloebgaa
