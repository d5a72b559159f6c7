/-
  slices.Sorted over a table's keys; slices.All: contracts.
-/
import Derived.Test.YticgfnnmjcjnjaaSoWAs
import Derived.Test.YticgfnnmjcjnjaaAs
import Derived.Sort.OwnSorted
import Derived.ChangeSame
namespace Go.Proofs.Yticgfnnmjcjnjaa
open Go.RowKit Go.Sort
set_option linter.unusedVariables false

def srt (zs : List Int) : List Int := zs.mergeSort fun x y => decide (x ≤ y)
theorem srt_perm (zs : List Int) : (srt zs).Perm zs := List.mergeSort_perm _ _
theorem srt_len (zs : List Int) : (srt zs).length = zs.length := (srt_perm zs).length_eq
theorem srt_mem (zs : List Int) (x : Int) : x ∈ srt zs ↔ x ∈ zs := (srt_perm zs).mem_iff

theorem holds_of_blockU {w : World} {g : Nat} {cur : Array Value} {e : TypeId} {ss : List Int} (hb : w.heap[g]? = some (.cells cur e (0, 0))) (ht : cur.toList.take ss.length = ss.map (Value.int .u64)) : Holds (Value.int .u64) w g 0 ss.toArray := by
  intro j hj
  have hj' : j < ss.length := by simpa using hj
  refine ⟨?_, by simp [World.frozen?, hb]⟩
  have h1 : (cur.toList.take ss.length)[j]? = (ss.map (Value.int .u64))[j]? := by rw [ht]
  rw [List.getElem?_take_of_lt hj'] at h1
  simp only [World.cell?, hb, Nat.zero_add]
  simp only [Option.isSome_none, Bool.false_eq_true, if_false]
  rw [← Array.getElem?_toList, h1]
  simp [hj']

theorem heap_sortedU {w : World} {g n : Nat} {os : Array Obj} {cur : Array Value} {e : TypeId} {fr : Nat × Nat} (d : Array Int) (hb : w.heap[g]? = some (.cells cur e fr)) :
    (grow (putRow (Value.int .u64) (Sort.ahead w n) g 0 d) os).heap[g]? = some (.cells (putCells (Value.int .u64) 0 d cur) e fr) := by
  have hg : g < w.heap.size := (Array.getElem?_eq_some_iff.1 hb).1
  rw [heap_grow_old _ _ (by simpa using hg)]
  simp [putRow, mapBlock, Sort.ahead, Array.getElem?_modify, hb, onCells]

theorem grownBy_sortedU {w : World} {g n : Nat} {os : Array Obj} (d : Array Int) : w.grownBy (grow (putRow (Value.int .u64) (Sort.ahead w n) g 0 d) os) (some g) := by
  refine ⟨rfl, rfl, rfl, by simp, fun k hk hne => ?_⟩
  rw [heap_grow_old _ _ (by simpa using hk)]
  have : g ≠ k := fun e => hne (by rw [e])
  simp [putRow, mapBlock, Sort.ahead, Array.getElem?_modify, this]

theorem take_putCellsU (cur : Array Value) (ts : List Int) (h : ts.length ≤ cur.size) : (putCells (Value.int .u64) 0 ts.toArray cur).toList.take ts.length = ts.map (Value.int .u64) := by
  apply List.ext_getElem?
  intro j
  by_cases hj : j < ts.length
  · rw [List.getElem?_take_of_lt hj, Array.getElem?_toList]
    simp [putCells, hj, show j < cur.size by omega]
  · rw [List.getElem?_take_eq_none (by omega), List.getElem?_eq_none (by simp; omega)]

theorem sort_own (zs : List Int) (v : Value) (base : Nat) (w : World) (h : w.ownsRow base 36 1 v zs.length (zs.map (Value.int .u64))) (hn : zs.length ≤ 1000000) :
    Calls Try.prog 35 #[v] w fun e w' => e = .returned (.tuple #[]) ∧ w'.ownsRow base 36 1 v (srt zs).length ((srt zs).map (Value.int .u64)) ∧ w.grownBy w' v.ownBlock := by
  obtain ⟨hl, ⟨rfl, h0⟩ | ⟨g, cap, cur, rfl, hb, hh, h1, h2, hsz, ht⟩⟩ := h
  · have hz : zs = [] := List.eq_nil_of_length_eq_zero h0
    subst hz
    refine (Srt.So.Sort_int_nil none 0 w).mono ?_
    rintro e w' ⟨rfl, rfl⟩
    exact ⟨rfl, by rw [show srt [] = [] from by simp [srt]]; exact World.ownsRow_nil _ _ _ _, ⟨rfl, rfl, rfl, Nat.le_refl _, fun k hk _ => rfl⟩⟩
  · have hg := (Array.getElem?_eq_some_iff.1 hh).1
    rw [Nat.mul_one] at ht hsz
    refine (Srt.So.slices_Sort_int g 0 cap zs w (holds_of_blockU hh ht) hg (by omega)).mono ?_
    rintro e w' ⟨rfl, n, os, rfl⟩
    refine ⟨rfl, ?_, grownBy_sortedU _⟩
    refine ⟨by simp, .inr ⟨g, cap, _, by rw [srt_len], hb, heap_sortedU _ hh, by rw [srt_len]; exact h1, h2, by simp [putCells, hsz], ?_⟩⟩
    rw [Nat.mul_one]
    exact take_putCellsU cur (srt zs) (by rw [srt_len]; omega)
end Go.Proofs.Yticgfnnmjcjnjaa
namespace Go.Proofs.Yticgfnnmjcjnjaa
open Go.RowKit Go.Maps Go.Shelf
attribute [local go_sem] Oper.semAt_some
set_option linter.unusedVariables false

theorem collect_v (b ml k : Nat) (D0 : DataW Value) (w : World) (hk : k ≤ 1000000) (hb : Blk w b #[.map (some ml)] 42) (hown0 : OwnL w ml k D0) :
    Calls Try.prog 34 #[.func (.func 36) #[] #[.pointer (some ⟨b, 0, none⟩)]] w fun e W' => ∃ u xs, e = .returned u ∧ KeysOf D0 xs ∧ xs.length ≤ k ∧ W'.ownsRow w.heap.size 36 1 u xs.length (xs.map (Value.int .u64)) ∧ Below w.heap.size w W' := by
  have HA := Lib.hid (callsIn_wide.1 (appendseq_in b ml k D0 w hk hb hown0))
  clear hb hown0
  go_enter Try.func34, Try.ntmps34
  go_wp2_with (fail)
  refine HA.out.mono ?_
  rintro e w1 ⟨u, xs, rfl, hks, hxl, hown, hB⟩
  obtain ⟨a, n, c, rfl⟩ := own_slice hown
  have HO := Lib.hid hown
  have HB := Lib.hid hB
  have HKs := Lib.hid hks
  have HXl := Lib.hid hxl
  clear hown hB hks hxl
  go_wp2_with (fail)
  go_ret
  exact ⟨_, _, rfl, HKs.out, HXl.out, HO.out, HB.out⟩
theorem sorted_v (b ml k : Nat) (D0 : DataW Value) (w : World) (hk : k ≤ 1000000) (hb : Blk w b #[.map (some ml)] 42) (hown0 : OwnL w ml k D0) :
    Calls Try.prog 29 #[.func (.func 36) #[] #[.pointer (some ⟨b, 0, none⟩)]] w fun e W' => ∃ u xs, e = .returned u ∧ KeysOf D0 xs ∧ xs.length ≤ k ∧ W'.ownsRow w.heap.size 36 1 u (srt xs).length ((srt xs).map (Value.int .u64)) ∧ Below w.heap.size w W' := by
  have HA := Lib.hid (collect_v b ml k D0 w hk hb hown0)
  clear hb hown0
  go_enter Try.func29, Try.ntmps29
  go_wp2_with (fail)
  refine HA.out.mono ?_
  rintro e w1 ⟨u, xs, rfl, hks, hxl, hown, hB⟩
  obtain ⟨a, n, c, rfl⟩ := own_slice hown
  have HB := Lib.hid hB
  have HS := Lib.hid (sort_own xs _ _ w1 hown (by omega))
  have hob := own_base hown
  have HOB := Lib.hid hob
  have HKs := Lib.hid hks
  have HXl := Lib.hid hxl
  clear hown hB hob hks hxl
  go_wp2_with (fail)
  refine HS.out.mono ?_
  rintro e w2 ⟨rfl, ho2, hg2⟩
  have HO := Lib.hid ho2
  have HB2 := Lib.hid (HB.out.grown hg2 HB.out.size (fun r e => HOB.out r e))
  clear ho2 hg2
  go_wp2_with (fail)
  go_ret
  exact ⟨_, _, rfl, HKs.out, HXl.out, HO.out, HB2.out⟩

/-! ### slices.All -/
def encP (l : List Int) (i : Fin l.length) : Array Value := #[.int .i64 i.val, .int .u64 (l.getD i.val 0)]
def KpG (g : Nat) (A B : World) : Prop := A.heap.size ≤ B.heap.size ∧ (g < A.heap.size → B.heap[g]? = A.heap[g]?)
theorem kpG_t {g : Nat} {A B C : World} (h : KpG g A B) (k : KpG g B C) : KpG g A C := ⟨Nat.le_trans h.1 k.1, fun hg => (k.2 (Nat.lt_of_lt_of_le hg h.1)).trans (h.2 hg)⟩
theorem kpG_b {w : World} {g : Nat} (hn : g < w.heap.size) (W : World) (l : Nat) (o o' : Obj) (hl : w.heap.size ≤ l) (h : W.heap[l]? = some o) (hc : o.isCells = false) (hw : o.isWalk = false) : KpG g W (W.putObj l o') :=
  ⟨(belowK_b (w := w) (n₀ := g + 1) (by omega) W l o o' hl h hc hw).size, fun _ => (belowK_b (w := w) (n₀ := g + 1) (by omega) W l o o' hl h hc hw).block g (by omega)⟩
structure RowG (w : World) (g : Nat) (v : Value) (l : List Int) : Prop where
  sl : ∃ a c, v = .slice a l.length c ∧ (0 < l.length → a = some ⟨g, 0, none⟩)
  lt : g < w.heap.size
  ce : ∀ j, j < l.length → w.cell? ⟨g, j, none⟩ = some (.int .u64 (l.getD j 0))
theorem RowG.kept {w w' : World} {g : Nat} {v : Value} {l : List Int} (h : RowG w g v l) (hs : w.heap.size ≤ w'.heap.size) (hk : g < w.heap.size → w'.heap[g]? = w.heap[g]?) : RowG w' g v l :=
  ⟨h.sl, Nat.lt_of_lt_of_le h.lt hs, fun j hj => (World.cell?_of_block (w := w) (a := ⟨g, j, none⟩) (hk h.lt)).trans (h.ce j hj)⟩
set_option maxRecDepth 100000 in
set_option maxHeartbeats 1000000 in
theorem all_stops (mm : Nat) (hmm : 1 ≤ mm) (v : Value) (l : List Int) (b g : Nat) (w : World) (hn : l.length ≤ 1000000) (hb : Blk w b #[v] 31) (hr : RowG w g v l) :
    SeqStopsK Fence.wide mm Try.prog 33 #[.pointer (some ⟨b, 0, none⟩)] (encP l) (KpG g) (fun xs => xs = List.finRange l.length) (fun pre => pre <+: List.finRange l.length) l.length w := by
  intro ll J Jx W hW _ _ hY h0
  have hB : Blk W b #[v] 31 := (hW.block b hb.lt).trans hb
  have hR : RowG W g v l := hr.kept hW.size (fun h => hW.block g h)
  have hc0 := hB.cell 0
  rw [show (#[v] : Array Value)[0]? = some v from rfl] at hc0
  have HR := Lib.hid hR
  obtain ⟨a1, c1, rfl, ha⟩ := hR.sl
  have HA := Lib.hid ha
  clear hb hW hr hR ha hB
  refine callsIn_of_wp Try.func33 rfl trivial ?_ rfl
  simp only [Try.ntmps33, List.size_toArray, List.length_cons, List.length_nil, Nat.reduceAdd, Nat.reduceSub, Array.replicate_succ, Array.replicate_zero, List.push_toArray, List.append_toArray, List.nil_append, List.cons_append]
  gi_wp2
  gi_loopw [7] (fun iv wr => ∃ k : Nat, k ≤ l.length ∧ iv = .int .i64 k ∧ J ((List.finRange l.length).take k) wr ∧ Hid (RowG wr g (.slice a1 l.length c1) l)) (fun iv _ => l.length - (intOf iv).toNat)
  case atStart => exact ⟨0, Nat.zero_le _, rfl, h0, HR⟩
  case round =>
    obtain ⟨k, hk, rfl, hJ, hBk⟩ := hrel
    by_cases hlt : k < l.length
    · have c2 := hBk.out.ce k hlt
      obtain rfl := HA.out (by omega)
      obtain ⟨x, hx⟩ : ∃ x, l.getD k 0 = x := ⟨_, rfl⟩
      rw [hx] at c2
      have HT := Lib.hid (fin_take l.length k hlt)
      have HX := Lib.hid hx
      have b1 : (k : Int) < (l.length : Int) := by omega
      have b3 : ((k : Int)).toNat = k := by omega
      have HLT := Lib.hid hlt
      clear hx
      obtain ⟨fn, tmps, assign, body, hy, hRR⟩ := hY _ ⟨k, HLT.out⟩ wr hJ (by rw [List.length_take, List.length_finRange]; have := HLT.out; omega)
      dsimp only [encP] at hy
      rw [HX.out] at hy
      gi_wp2
      refine hRR.mono ?_
      rintro e W3 (⟨rfl, hJ3, hk3⟩ | ⟨rfl, hJx3⟩)
      · have HB3 := Lib.hid (hBk.out.kept hk3.1 hk3.2)
        clear hk3
        gi_wp2
        go_roundw
        case rel => exact ⟨k + 1, HLT.out, by go_num, by rw [HT.out]; exact hJ3, HB3⟩
        case measure => have := HLT.out; simp [intOf]; omega
      · have HP := Lib.hid (show (List.finRange l.length).take k ++ [⟨k, HLT.out⟩] <+: List.finRange l.length from by rw [← HT.out]; exact List.take_prefix _ _)
        gi_wp2
        refine bodyPost_ret (results_none rfl _ _ _) rfl ?_
        exact ⟨⟨_, rfl⟩, .inr ⟨_, HP.out, hJx3⟩⟩
    · have hk2 : k = l.length := by omega
      subst hk2
      rw [List.take_of_length_le (by rw [List.length_finRange]; exact Nat.le_refl _)] at hJ
      gi_wp2
      go_end0
      exact ⟨⟨_, rfl⟩, .inl ⟨_, rfl, hJ⟩⟩
theorem all_calls (mm : Nat) (a : Option Addr) (n c : Nat) (w : World) :
    CallsIn Fence.wide mm Try.prog 28 #[.slice a n c] w fun e w' => e = .returned (.func (.func 33) #[] #[.pointer (some ⟨w.heap.size, 0, none⟩)]) ∧ w' = w.alloc (.cells #[.slice a n c] 31) := by
  refine callsIn_wide.2 ?_
  go_enter Try.func28, Try.ntmps28
  go_wp2
  go_ret
  exact ⟨rfl, rfl⟩
end Go.Proofs.Yticgfnnmjcjnjaa
