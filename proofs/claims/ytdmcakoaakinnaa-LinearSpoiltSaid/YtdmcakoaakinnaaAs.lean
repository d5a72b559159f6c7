/-
  slices.AppendSeq, Collect over a table's keys: contracts.
-/
import Derived.Test.YtdmcakoaakinnaaKy
import Derived.Maps.AppendAt
namespace Go.Proofs.Ytdmcakoaakinnaa
open Go.RowKit Go.Maps Go.Shelf
attribute [local go_sem] Oper.semAt_some
set_option linter.unusedVariables false

theorem Try.infoA : (Try.prog.info? 24).map (fun i => (i.zero, i.size, i.bytes)) = some (some (.int .u64 0), 1, 8) := by kernel_rfl
theorem size_le {w : World} {ml k : Nat} {D : DataW Value} (h : OwnL w ml k D) : Maps.size D ≤ k := by
  obtain ⟨es, c, _, _, hs, rfl⟩ := h
  show ((es.toList.map _).foldr DataW.insert []).length ≤ k
  rw [length_sorted]
  simpa using hs
set_option maxRecDepth 100000 in
set_option maxHeartbeats 2000000 in
theorem appendseq_in (b ml k : Nat) (D0 : DataW Value) (w : World) (hk : k ≤ 1000000) (hb : Blk w b #[.map (some ml)] 98) (hown0 : OwnL w ml k D0) :
    CallsIn Fence.wide 9 Try.prog 62 #[.slice none 0 0, .func (.func 61) #[] #[.pointer (some ⟨b, 0, none⟩)]] w fun e W' => ∃ u xs, e = .returned u ∧ KeysOf D0 xs ∧ xs.length ≤ k ∧ W'.ownsRow w.heap.size 24 1 u xs.length (xs.map (Value.int .u64)) ∧ Below w.heap.size w W' := by
  obtain ⟨i0, hi, hz0, hz1, hz2⟩ := info_parts Try.infoA
  have hbl := hb.lt
  refine callsIn_of_wp_marks Try.func62 rfl trivial ?_ rfl
  simp only [Try.ntmps62, List.size_toArray, List.length_cons, List.length_nil, Nat.reduceAdd, Nat.reduceSub, Array.replicate_succ, Array.replicate_zero, List.push_toArray, List.append_toArray, List.nil_append, List.cons_append]
  have HB := Lib.hid hb
  have HR := Lib.hid hown0
  have hml := hown0.lt
  have hszD : Maps.size D0 ≤ k := size_le hown0
  clear hb hown0
  gi_wp2
  obtain ⟨w3, hw3⟩ : ∃ w3, w3 = w.alloc (.cells #[.slice none 0 0] 80) := ⟨_, rfl⟩
  have k3 : Blk w3 w.heap.size #[.slice none 0 0] 80 := by rw [hw3]; exact Blk.new w _ _
  have hB0 : Below w.heap.size w w3 := by rw [hw3]; exact (Below.refl _ w).alloc (Nat.le_refl _) _
  have hs3 : w3.heap.size = w.heap.size + 1 := by rw [hw3]; simp
  have b3 : Blk w3 b #[.map (some ml)] 98 := HB.out.kept (Keeps.of_below' hB0) id
  have r3 : OwnL w3 ml k D0 := ownL_keeps HR.out (Keeps.of_below' hB0) (fun h => h)
  rw [← hw3]
  clear hw3
  refine wpIn_rangeFunc_ownF rfl (by omega) (gf := 61) (lb := #[.pointer (some ⟨b, 0, none⟩)]) (by simp [Act.eval]) trivial (enters_of Try.func61 (by kernel_rfl) rfl)
    (keys_stops 8 (by omega) b ml k D0 w3 b3.lt (b3.cell 0) r3.lt r3) KeepsWalks.trans (fun W l o o' hl h hc hw => walksK_b (w := w3) W l o o' hl h hc hw) (Below.refl _ _) (fun _ => rfl)
    (fun pre W => (∃ u, Blk W w.heap.size #[u] 80 ∧ W.ownsRow (w.heap.size + 1) 24 1 u pre.length (pre.map (Value.int .u64))) ∧ w.heap.size + 1 ≤ W.heap.size ∧ Below w.heap.size w W)
    (fun _ _ _ => False)
    (fun s A B row hs hg hr => by
      obtain ⟨⟨u, h1, h2⟩, h3, h4⟩ := hs
      exact ⟨⟨u, h1.put hg (fun r e => (hr r e).2), own_put h2 hg (fun r e => (hr r e).2)⟩, Nat.le_trans h3 hg.size, h4.grown hg h4.size (fun r e => by have := (hr r e).1; omega)⟩)
    (fun _ _ _ _ _ hs _ _ => hs)
    ⟨⟨_, k3, World.ownsRow_nil _ _ _ _⟩, by omega, hB0⟩
    (fun x => { tmps := #[.slice none 0 0, .func (.func 61) #[] #[.pointer (some ⟨b, 0, none⟩)], .pointer (some ⟨w.heap.size, 0, none⟩), undef, .slice none 0 0, .int .u64 x, .func (.func 61) #[] #[.pointer (some ⟨b, 0, none⟩)], .int .u64 x, undef, undef, undef, undef, undef], defers := [] }) ?assign ?body ?done ?stop
  case assign =>
    intro l x W K hK
    simp [u64E]
    gi_wp2
    exact hK
  case body =>
    rintro l2 pre x W ⟨⟨u, hk, hown⟩, hs, hB⟩ hlen
    have hc := hk.cell 0
    have hf := hk.frozen 0
    rw [show (#[u] : Array Value)[0]? = some u from rfl] at hc
    gi_wp2_with (gi_at_builtin; refine wpListIn_append_own _ rfl _ _ 80 rfl (w.heap.size + 1) 24 i0 (.int .u64 0) 1 8 Try.underlying80 hi hz0 hz1 hz2 rfl (by decide) _ _ _ rfl (hown.alloc _) ⟨W.heap.size, 0, none⟩ 1 1 [.int .u64 x] rfl rfl (cell_one_new _ _ _) (ints_oneCell .u64 [x]) (by unfold maxLen; omega) (by omega) (by simp; omega) ?_)
    intro v' w1 hown' hgrow hnil
    obtain ⟨g', cap, rfl, hg1, hg2, hg3, hg4, hg5, hg6, hg7⟩ := own_shape hown' (by omega)
    have hk1 := (hk.alloc (.cells #[.int .u64 x] 24)).grown hgrow (fun e => by have := own_base hown _ e.symm; omega)
    have hc1 := hk1.cell 0
    rw [show (#[u] : Array Value)[0]? = some u from rfl] at hc1
    have hf1 := hk1.frozen 0
    have HB1 := Lib.hid ((hB.alloc hB.size (.cells #[.int .u64 x] 24)).grown hgrow (by simp; have := hB.size; omega) (fun r e => by have := own_base hown _ e; omega))
    have HK1 := Lib.hid hk1
    have HO := Lib.hid hown'
    have HS := Lib.hid (show w.heap.size + 1 ≤ w1.heap.size by have := hgrow.size; simp at this; omega)
    have HKo := Lib.hid ((KeepsOthers.alloc W (.cells #[.int .u64 x] 24)).trans (KeepsOthers.of_grownBy hgrow (fun j o e ho => by obtain ⟨_, _, _, rfl⟩ := own_cells (hown.alloc (.cells #[.int .u64 x] 24)) j o e ho; rfl)))
    clear hk1 hown' hk hown hgrow hnil hg5 hg6 hg7 hB hs
    gi_wp2
    refine ⟨HKo.out.trans (KeepsOthers.setCell _ _ _), (HKo.out.trans (KeepsOthers.setCell _ _ _)).walks, ⟨_, by simpa using HK1.out.set 0 (.slice (some ⟨g', 0, none⟩) (pre.length + 1) cap), ?_⟩, by simpa [World.setCell] using HS.out, HB1.out.setCell (p := ⟨w.heap.size, 0, none⟩) (by simp) _⟩
    · have := ownsRow_setCell_below HO.out (a := ⟨w.heap.size, 0, none⟩) (by simp) (.slice (some ⟨g', 0, none⟩) (pre.length + 1) cap)
      simpa using this
  case done =>
    rintro D xs W hD ⟨hks, hxl⟩ ⟨⟨u, hk, hown⟩, hs, hB⟩ hK
    obtain ⟨a, lw, cw, rfl⟩ := own_slice hown
    have hc := hk.cell 0
    rw [show (#[Value.slice a lw cw] : Array Value)[0]? = some (.slice a lw cw) from rfl] at hc
    have hf := hk.frozen 0
    have hsz := hB.size
    have HB := Lib.hid hB
    have HO := Lib.hid hown
    have HKs := Lib.hid hks
    have HXl := Lib.hid (Nat.le_trans hxl hszD)
    clear hk hB hown hs hks hxl
    gi_wp2
    refine ⟨by simp, .inl ⟨_, _, rfl, run_takeDeferred hK, ?_⟩⟩
    exact ⟨.slice a lw cw, by simp [results, Try.results62, go_sem], _, _, rfl, HKs.out, HXl.out, own_mono (own_put HO.out (grownBy_putObj' _ D (.deferred none)) (fun r e => by cases e; exact ⟨_, hK, rfl⟩)) (by omega), HB.out.trans (belowK_b (w := w) (Nat.le_refl _) _ D _ _ (by omega) hK rfl rfl)⟩
  case stop =>
    rintro D c pre W _ _ h _
    exact h.elim
end Go.Proofs.Ytdmcakoaakinnaa
