/-
  Table.Held: its contract.
-/
import Derived.Test.YtajccnmeijgagaaHs
import Derived.RangeFuncFrom
import Derived.Maps.AppendAt
namespace Go.Proofs.Ytajccnmeijgagaa
open Go.RowKit Go.Maps Go.Shelf
attribute [local go_sem] Oper.semAt_some

theorem of_calls (m : Nat) (p : Option Addr) (c : Int) (w : World) :
    CallsIn Fence.wide m Try.prog 27 #[.pointer p, .int .i64 c] w fun e w' => e = .returned (.func (.func 41) #[] #[.pointer (some ⟨w.heap.size, 0, none⟩), .pointer (some ⟨w.heap.size + 1, 0, none⟩)]) ∧ w' = (w.alloc (.cells #[.pointer p] 23)).alloc (.cells #[.int .i64 c] 3) := by
  refine callsIn_wide.2 ?_
  go_enter Try.func27, Try.ntmps27
  go_wp2
  go_ret
  exact ⟨rfl, rfl⟩

theorem Try.infoA : (Try.prog.info? 29).map (fun i => (i.zero, i.size, i.bytes)) = some (some (.int .u64 0), 1, 8) := by kernel_rfl

theorem own_put {w w' : World} {row : Option Nat} {base : Nat} {e : TypeId} {size : Nat} {v : Value} {n : Nat} {xs : List Value} (h : w.ownsRow base e size v n xs) (hg : w.grownBy w' row)
    (hr : ∀ r, row = some r → ∃ o : Obj, w.heap[r]? = some o ∧ o.isCells = false) : w'.ownsRow base e size v n xs := by
  obtain ⟨hl, h2⟩ := h
  refine ⟨hl, ?_⟩
  rcases h2 with h2 | ⟨g, cap, cur, hv, hb, hh, r⟩
  · exact .inl h2
  · refine .inr ⟨g, cap, cur, hv, hb, ?_, r⟩
    rw [hg.block g (Array.getElem?_eq_some_iff.1 hh).1 (fun e => by obtain ⟨o, ho, hc⟩ := hr g e.symm; rw [hh] at ho; cases ho; cases hc)]
    exact hh
theorem Blk.put {w w' : World} {row : Option Nat} {b : Nat} {C : Array Value} {t : TypeId} (h : Blk w b C t) (hg : w.grownBy w' row)
    (hr : ∀ r, row = some r → ∃ o : Obj, w.heap[r]? = some o ∧ o.isCells = false) : Blk w' b C t := by
  refine h.grown hg (fun e => ?_)
  obtain ⟨o, ho, hc⟩ := hr b e.symm
  unfold Blk at h
  rw [h] at ho; cases ho; cases hc

def HeldPost (w : World) (h : Int → Option Int) (c : Int) (e : Ending) (W' : World) : Prop :=
  ∃ v xs, e = .returned v ∧ HeldOf h c xs ∧ W'.ownsRow w.heap.size 29 1 v (srt xs).length ((srt xs).map (Value.int .u64)) ∧ Below w.heap.size w W'

set_option maxRecDepth 100000 in
set_option maxHeartbeats 2000000 in
theorem held_in (w : World) (b mb : Nat) (n : Int) (h : Int → Option Int) (W0 : Nat → Int) (k : Nat) (t : Tab w b mb n h W0 k) (c : Int) (h0 : 0 ≤ c) (h1 : c < n) (hk : k ≤ 1000000) :
    CallsIn Fence.wide 9 Try.prog 13 #[.pointer (some ⟨b, 0, none⟩), .int .i64 c] w (HeldPost w h c) := by
  obtain ⟨i0, hi, hz0, hz1, hz2⟩ := info_parts Try.infoA
  obtain ⟨D, hown, hh⟩ := t.map
  have hsz : Maps.size D ≤ k := hown.size_le
  have c0 : (w.alloc (.cells #[.slice none 0 0] 37)).cell? ⟨b, 0, none⟩ = some (.int .i64 n) := by
    rw [(t.blk.alloc _).cell, tabCells_0]
  have hmb := hown.lt
  have T0 := Lib.hid t
  have HO := Lib.hid hown
  have HH := Lib.hid hh
  clear hown hh t
  refine callsIn_of_wp_marks Try.func13 rfl trivial ?_ rfl
  simp only [Try.ntmps13, List.size_toArray, List.length_cons, List.length_nil, Nat.reduceAdd, Nat.reduceSub, Array.replicate_succ, Array.replicate_zero, List.push_toArray, List.append_toArray, List.nil_append, List.cons_append]
  gi_wp2_with (first
    | (refine ⟨trivial, ?_⟩; gi_at_call 22; refine (callsIn_wide.2 (client_yes b n c h0 h1 _ c0)).mono ?_; rintro e w' ⟨rfl, rfl⟩)
    | (refine ⟨trivial, ?_⟩; gi_at_call 27; refine (of_calls _ _ c _).mono ?_; rintro e w' ⟨rfl, rfl⟩))
  obtain ⟨w3, hw3⟩ : ∃ w3, w3 = ((w.alloc (.cells #[.slice none 0 0] 37)).alloc (.cells #[.pointer (some ⟨b, 0, none⟩)] 23)).alloc (.cells #[.int .i64 c] 3) := ⟨_, rfl⟩
  have k3 : Blk w3 w.heap.size #[.slice none 0 0] 37 := by
    rw [hw3]; exact ((Blk.new w #[.slice none 0 0] 37).alloc _).alloc _
  have p3 : w3.cell? ⟨w.heap.size + 1, 0, none⟩ = some (.pointer (some ⟨b, 0, none⟩)) := by
    rw [hw3]; have := ((Blk.new (w.alloc (.cells #[.slice none 0 0] 37)) #[.pointer (some ⟨b, 0, none⟩)] 23).alloc (.cells #[.int .i64 c] 3)).cell 0; simpa using this
  have q3 : w3.cell? ⟨w.heap.size + 1 + 1, 0, none⟩ = some (.int .i64 c) := by
    rw [hw3]; have := (Blk.new ((w.alloc (.cells #[.slice none 0 0] 37)).alloc (.cells #[.pointer (some ⟨b, 0, none⟩)] 23)) #[.int .i64 c] 3).cell 0; simpa using this
  have hB0 : Below w.heap.size w w3 := by
    rw [hw3]; exact (((Below.refl _ w).alloc (Nat.le_refl _) _).alloc (by simp) _).alloc (by simp; omega) _
  have hs3 : w3.heap.size = w.heap.size + 3 := by rw [hw3]; simp
  have m3 : w3.cell? ⟨b, 1, none⟩ = some (.map (some mb)) := (hB0.cell (p := ⟨b, 1, none⟩) T0.out.blk.lt).trans (by rw [T0.out.blk.cell, tabCells_1])
  have o3 : w3.ownsMap Try.prog 29 (plainElem Try.prog 3) mb k D := by
    obtain ⟨es, clock, hb', Ft, hs, hD⟩ := HO.out
    exact ⟨es, clock, (hB0.block mb hmb).trans hb', Ft, hs, hD⟩
  have hbl : b < w.heap.size := T0.out.blk.lt
  rw [← hw3]
  clear hw3 c0
  refine wpIn_rangeFunc_ownF rfl (by omega) (gf := 41) (lb := #[.pointer (some ⟨w.heap.size + 1, 0, none⟩), .pointer (some ⟨w.heap.size + 1 + 1, 0, none⟩)]) (by simp [Act.eval]) trivial (enters_of Try.func41 (by kernel_rfl) rfl)
    (of1_stops 8 (by omega) (w.heap.size + 1) (w.heap.size + 1 + 1) b mb k c h D HH.out w3 (by omega) (by omega) (by omega) (by omega) p3 q3 m3 o3) kpO_t (kpO_b (by omega)) (Below.refl _ _) (fun _ => rfl)
    (fun pre W => (∃ v, Blk W w.heap.size #[v] 37 ∧ W.ownsRow (w.heap.size + 3) 29 1 v pre.length (pre.map (Value.int .u64))) ∧ w.heap.size + 3 ≤ W.heap.size ∧ Below w.heap.size w W)
    (fun _ _ _ => False)
    (fun s A B row hs hg hr => by
      obtain ⟨⟨v, h1, h2⟩, h3, h4⟩ := hs
      exact ⟨⟨v, h1.put hg (fun r e => (hr r e).2), own_put h2 hg (fun r e => (hr r e).2)⟩, Nat.le_trans h3 hg.size, h4.grown hg h4.size (fun r e => by have := (hr r e).1; omega)⟩)
    (fun _ _ _ _ _ hs _ _ => hs)
    ⟨⟨_, k3, World.ownsRow_nil _ _ _ _⟩, by omega, hB0⟩
    (fun x => { tmps := #[.pointer (some ⟨b, 0, none⟩), .int .i64 c, undef, undef, .pointer (some ⟨w.heap.size, 0, none⟩), .int .u64 x, .pointer (some ⟨b, 0, none⟩), .int .i64 c, .bool true, .bool false, .pointer (some ⟨b, 0, none⟩), .int .i64 c,
      .func (.func 41) #[] #[.pointer (some ⟨w.heap.size + 1, 0, none⟩), .pointer (some ⟨w.heap.size + 1 + 1, 0, none⟩)], .int .u64 x, undef, undef, undef, undef, undef, undef, undef], defers := [] }) ?assign ?body ?done ?stop
  case assign =>
    intro l x W K hK
    simp [u64E]
    gi_wp2
    exact hK
  case body =>
    rintro l pre x W ⟨⟨v, hk, hown⟩, hs, hB⟩ hlen
    have hpl : pre.length ≤ 1000000 := by omega
    have hc := hk.cell 0
    have hf := hk.frozen 0
    rw [show (#[v] : Array Value)[0]? = some v from rfl] at hc
    gi_wp2_with (gi_at_builtin; refine wpListIn_append_own _ rfl _ _ 37 rfl (w.heap.size + 3) 29 i0 (.int .u64 0) 1 8 Try.underlying37 hi hz0 hz1 hz2 rfl (by decide) _ _ _ rfl (hown.alloc _) ⟨W.heap.size, 0, none⟩ 1 1 [.int .u64 x] rfl rfl (cell_one_new _ _ _) (ints_oneCell .u64 [x]) (by unfold maxLen; omega) (by omega) (by simp; omega) ?_)
    intro v' w1 hown' hgrow hnil
    obtain ⟨g, cap, rfl, hg1, hg2, hg3, hg4, hg5, hg6, hg7⟩ := own_shape hown' (by omega)
    have hk1 := (hk.alloc (.cells #[.int .u64 x] 29)).grown hgrow (fun e => by have := own_base hown _ e.symm; omega)
    have hc1 := hk1.cell 0
    rw [show (#[v] : Array Value)[0]? = some v from rfl] at hc1
    have hf1 := hk1.frozen 0
    have hBx := (hB.alloc hB.size (.cells #[.int .u64 x] 29)).grown hgrow (by simp; have := hB.size; omega) (fun r e => by have := own_base hown _ e; omega)
    have HB1 := Lib.hid hBx
    have HK1 := Lib.hid hk1
    have HO1 := Lib.hid hown'
    have HS := Lib.hid (show w.heap.size + 3 ≤ w1.heap.size by have := hgrow.size; simp at this; omega)
    have HKo := Lib.hid ((KeepsOthers.alloc W (.cells #[.int .u64 x] 29)).trans (KeepsOthers.of_grownBy hgrow (fun j o e ho => by obtain ⟨_, _, _, rfl⟩ := own_cells (hown.alloc (.cells #[.int .u64 x] 29)) j o e ho; rfl)))
    have HB3 := Lib.hid (show w.heap.size + 1 + 1 < W.heap.size → w1.heap[w.heap.size + 1 + 1]? = W.heap[w.heap.size + 1 + 1]? from fun hb =>
      (hgrow.block (w.heap.size + 1 + 1) (by simp; omega) (fun e => by have := own_base hown _ e.symm; omega)).trans (Below.heap_alloc _ _ _ hb))
    clear hk1 hown' hk hown hgrow hnil hg5 hg6 hg7 hB hs hBx
    gi_wp2
    refine ⟨HKo.out.trans (KeepsOthers.setCell _ _ _), ⟨(HKo.out.trans (KeepsOthers.setCell _ _ _)).walks, fun hb => by rw [Below.heap_setCell _ _ _ _ (by simp; omega)]; exact HB3.out hb⟩, ⟨_, by simpa using HK1.out.set 0 (.slice (some ⟨g, 0, none⟩) (pre.length + 1) cap), ?_⟩, by simpa [World.setCell] using HS.out, HB1.out.setCell (p := ⟨w.heap.size, 0, none⟩) (by simp) _⟩
    have := ownsRow_setCell_below HO1.out (a := ⟨w.heap.size, 0, none⟩) (by simp) (.slice (some ⟨g, 0, none⟩) (pre.length + 1) cap)
    simpa using this
  case done =>
    rintro D' xs W hD hx ⟨⟨v, hk, hown⟩, hs, hB⟩ hK
    obtain ⟨a, lw, cw, rfl⟩ := own_slice hown
    have hc := hk.cell 0
    rw [show (#[Value.slice a lw cw] : Array Value)[0]? = some (.slice a lw cw) from rfl] at hc
    have hlen : xs.length ≤ 1000000 := by have := hx.2; omega
    obtain rfl : lw = xs.length := own_len hown
    have HSo := Lib.hid (sort_own xs _ _ W hown hlen)
    have HX := Lib.hid hx
    have HK := Lib.hid hK
    have HB := Lib.hid hB
    have Hk := Lib.hid hk
    have hob := Lib.hid (own_base hown)
    have hoc := Lib.hid (own_cells hown)
    clear hown hx hK hB hk
    gi_wp2_with (fail)
    refine ⟨trivial, ?_⟩
    refine (callsIn_wide.2 HSo.out).mono ?_
    rintro e w5 ⟨rfl, ho5, hg5⟩
    have hk5 := Hk.out.grown hg5 (fun e => by have := hob.out _ e.symm; omega)
    have hc5 := hk5.cell 0
    rw [show (#[Value.slice a xs.length cw] : Array Value)[0]? = some (.slice a xs.length cw) from rfl] at hc5
    have hf5 := hk5.frozen 0
    have hK5 : w5.heap[D']? = some (.deferred (some [])) := (hg5.block D' (Array.getElem?_eq_some_iff.1 HK.out).1 (fun e => by obtain ⟨_, _, _, h9⟩ := hoc.out _ _ e.symm HK.out; cases h9)).trans HK.out
    have hsz5 := hg5.size
    have hKs := (KeepsOthers.setCell w5 ⟨w.heap.size, 0, none⟩ (.slice a xs.length cw)).same D' _ hK5 rfl
    have HB5 := Lib.hid ((HB.out.grown hg5 HB.out.size (fun r e => by have := hob.out _ e; omega)).setCell (p := ⟨w.heap.size, 0, none⟩) (by simp) (.slice a xs.length cw))
    have HK1 := Lib.hid (hk5.set 0 (.slice a xs.length cw))
    have HO5 := Lib.hid (ownsRow_setCell_below ho5 (a := ⟨w.heap.size, 0, none⟩) (by simp) (.slice a xs.length cw))
    have HK5 := Lib.hid hK5
    clear hk5 ho5 hg5 hK5
    gi_wp2
    refine ⟨by simp, .inl ⟨_, _, rfl, run_takeDeferred hKs, ?_⟩⟩
    have hc7 : ((w5.setCell ⟨w.heap.size, 0, none⟩ (.slice a xs.length cw)).putObj D' (.deferred none)).cell? ⟨w.heap.size, 0, none⟩ = some (.slice a xs.length cw) := by
      have := HK1.out.grown (grownBy_putObj' _ D' (.deferred none)) (fun e => by
        have e1 := Option.some.inj e
        omega)
      rw [this.cell]; rfl
    exact ⟨.slice a xs.length cw, by simp [results, Try.results13, go_sem, hc7], _, xs, rfl, HX.out.1, own_mono (own_put HO5.out (grownBy_putObj' _ D' (.deferred none)) (fun r e => by cases e; exact ⟨_, hKs, rfl⟩)) (by omega), HB5.out.trans (belowK_b (w := w) (Nat.le_refl _) _ D' _ _ (by omega) hKs rfl rfl)⟩
  case stop =>
    rintro D' c' pre W _ _ h _
    exact h.elim

theorem held_calls (w : World) (b mb : Nat) (n : Int) (h : Int → Option Int) (W0 : Nat → Int) (k : Nat) (t : Tab w b mb n h W0 k) (c : Int) (h0 : 0 ≤ c) (h1 : c < n) (hk : k ≤ 1000000) :
    Calls Try.prog 13 #[.pointer (some ⟨b, 0, none⟩), .int .i64 c] w (HeldPost w h c) := callsIn_wide.1 (held_in w b mb n h W0 k t c h0 h1 hk)
end Go.Proofs.Ytajccnmeijgagaa
