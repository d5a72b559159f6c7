/-
  node.Places, node.Invalid: contracts.
-/
import Derived.Test.YtgmbnoimlffgcaaLe
import Derived.Maps.AppendAt
namespace Go.Proofs.Ytgmbnoimlffgcaa
open Go.RowKit Go.Shelf
attribute [local go_sem] Oper.semAt_some

def plc (pre : List (Int × Bool)) : List Int := (pre.filter (·.2)).map (·.1)
theorem plc_true (pre : List (Int × Bool)) (x : Int × Bool) (h : x.2 = true) : plc (pre ++ [x]) = plc pre ++ [x.1] := by simp [plc, h]
theorem plc_false (pre : List (Int × Bool)) (x : Int × Bool) (h : x.2 = false) : plc (pre ++ [x]) = plc pre := by simp [plc, h]
theorem plc_len (pre : List (Int × Bool)) : (plc pre).length ≤ pre.length := by
  simp only [plc, List.length_map]; exact List.length_filter_le _ _
def Nd.places (n : Nd) : List Int := plc n.ents

theorem Try.info3 : (Try.prog.info? 3).map (fun i => (i.zero, i.size, i.bytes)) = some (some (.int .i64 0), 1, 8) := by kernel_rfl

set_option maxRecDepth 100000 in
set_option maxHeartbeats 2000000 in
theorem places_in (n : Nd) (w : World) :
    CallsIn Fence.wide 9 Try.prog 91 #[.agg (ndCells n)] w fun e W' => ∃ v, e = .returned v ∧ W'.ownsRow w.heap.size 3 1 v n.places.length (n.places.map (Value.int .i64)) ∧ Below w.heap.size w W' := by
  obtain ⟨i0, hi, hz0, hz1, hz2⟩ := info_parts Try.info3
  refine callsIn_of_wp_marks Try.func91 rfl trivial ?_ rfl
  simp only [Try.ntmps91, List.size_toArray, List.length_cons, List.length_nil, Nat.reduceAdd, Nat.reduceSub, Array.replicate_succ, Array.replicate_zero, List.push_toArray, List.append_toArray, List.nil_append, List.cons_append]
  have hb0 := Blk.new w (ndCells n) 40
  have hi27 : (Try.prog.info? 40).map (·.size) = some (ndCells n).size := by rw [ndCells_size]; kernel_rfl
  have HI := Lib.hid hi27
  clear hi27
  have HL := Lib.hid (show ∀ j v, (ndCells n)[j]? = some v → ((w.alloc (.cells (ndCells n) 40)).alloc (.cells #[.slice none 0 0] 110)).cell? ⟨w.heap.size, 0 + j, none⟩ = some v from fun j v hv => by
    rw [Nat.zero_add, (hb0.alloc _).cell]; exact hv)
  clear hb0
  gi_wp2_with (first
    | (with_reducible refine wpListIn_load_part (o := ⟨some 5, _, _, _, _, _⟩) rfl 40 _ rfl w.heap.size 0 rfl (ndCells n) _ HL.out Try.underlying40 rfl HI.out ?_)
    | (refine ⟨trivial, ?_⟩; gi_at_call 94; refine (entries_calls _ n _).mono ?_; rintro e w' ⟨rfl, rfl⟩))
  obtain ⟨w3, hw3⟩ : ∃ w3, w3 = ((w.alloc (.cells (ndCells n) 40)).alloc (.cells #[.slice none 0 0] 110)).alloc (.cells (ndCells n) 40) := ⟨_, rfl⟩
  have b3 : Blk w3 (w.heap.size + 2) (ndCells n) 40 := by
    rw [hw3]; have := Blk.new ((w.alloc (.cells (ndCells n) 40)).alloc (.cells #[.slice none 0 0] 110)) (ndCells n) 40; simpa using this
  have k3 : Blk w3 (w.heap.size + 1) #[.slice none 0 0] 110 := by
    rw [hw3]; have := (Blk.new (w.alloc (.cells (ndCells n) 40)) #[.slice none 0 0] 110).alloc (.cells (ndCells n) 40); simpa using this
  have hB0 : Below w.heap.size w w3 := by
    rw [hw3]; exact (((Below.refl _ w).alloc (Nat.le_refl _) _).alloc (by simp) _).alloc (by simp; omega) _
  have hs3 : w3.heap.size = w.heap.size + 3 := by rw [hw3]; simp
  rw [← hw3]
  clear hw3 HL
  refine wpIn_rangeFunc_ownF rfl (by omega) (gf := 103) (lb := #[.pointer (some ⟨w.heap.size + 2, 0, none⟩)]) (by simp [Act.eval]) trivial (enters_of Try.func103 (by kernel_rfl) rfl)
    (entries_stops 8 (by omega) n (w.heap.size + 2) w3 b3) anyK_t anyK_b (Below.refl _ _) (fun _ => rfl)
    (fun pre W => (∃ v, Blk W (w.heap.size + 1) #[v] 110 ∧ W.ownsRow (w.heap.size + 3) 3 1 v (plc pre).length ((plc pre).map (Value.int .i64))) ∧ w.heap.size + 3 ≤ W.heap.size ∧ Below w.heap.size w W)
    (fun _ _ _ => False)
    (fun s A B row hs hg hr => by
      obtain ⟨⟨v, h1, h2⟩, h3, h4⟩ := hs
      exact ⟨⟨v, h1.put hg (fun r e => (hr r e).2), own_put h2 hg (fun r e => (hr r e).2)⟩, Nat.le_trans h3 hg.size, h4.grown hg h4.size (fun r e => by have := (hr r e).1; omega)⟩)
    (fun _ _ _ _ _ hs _ _ => hs)
    ⟨⟨_, k3, World.ownsRow_nil _ _ _ _⟩, by omega, hB0⟩
    (fun x => { tmps := #[.agg (ndCells n), .pointer (some ⟨w.heap.size, 0, none⟩), .pointer (some ⟨w.heap.size + 1, 0, none⟩), .int .i64 x.1, .bool x.2, .agg (ndCells n), .func (.func 103) #[] #[.pointer (some ⟨w.heap.size + 2, 0, none⟩)], .int .i64 x.1, .bool x.2, undef, undef, undef, undef, undef, undef], defers := [] }) ?assign ?body ?done ?stop
  case assign =>
    intro l x W K hK
    simp [encE]
    gi_wp2
    exact hK
  case body =>
    rintro l pre x W ⟨⟨v, hk, hown⟩, hs, hB⟩ hlen
    have hpl := plc_len pre
    obtain ⟨x1, x2⟩ := x
    have hc := hk.cell 0
    have hf := hk.frozen 0
    rw [show (#[v] : Array Value)[0]? = some v from rfl] at hc
    cases x2
    · have hp := Lib.hid (plc_false pre (x1, false) rfl)
      gi_wp2
      exact ⟨KeepsOthers.refl _, trivial, by rw [hp.out]; exact ⟨v, hk, hown⟩, hs, hB⟩
    · have hp := Lib.hid (plc_true pre (x1, true) rfl)
      gi_wp2_with (gi_at_builtin; refine wpListIn_append_own _ rfl _ _ 110 rfl (w.heap.size + 3) 3 i0 (.int .i64 0) 1 8 Try.underlying110 hi hz0 hz1 hz2 rfl (by decide) _ _ _ rfl (hown.alloc _) ⟨W.heap.size, 0, none⟩ 1 1 [.int .i64 x1] rfl rfl (cell_one_new _ _ _) (ints_oneCell .i64 [x1]) (by unfold maxLen; omega) (by omega) (by simp; omega) ?_)
      intro v' w1 hown' hgrow hnil
      obtain ⟨g, cap, rfl, hg1, hg2, hg3, hg4, hg5, hg6, hg7⟩ := own_shape hown' (by omega)
      have hk1 := (hk.alloc (.cells #[.int .i64 x1] 3)).grown hgrow (fun e => by have := own_base hown _ e.symm; omega)
      have hc1 := hk1.cell 0
      rw [show (#[v] : Array Value)[0]? = some v from rfl] at hc1
      have hf1 := hk1.frozen 0
      have HB1 := Lib.hid ((hB.alloc hB.size (.cells #[.int .i64 x1] 3)).grown hgrow (by simp; have := hB.size; omega) (fun r e => by have := own_base hown _ e; omega))
      have HK1 := Lib.hid hk1
      have HO := Lib.hid hown'
      have HS := Lib.hid (show w.heap.size + 3 ≤ w1.heap.size by have := hgrow.size; simp at this; omega)
      have HKo := Lib.hid ((KeepsOthers.alloc W (.cells #[.int .i64 x1] 3)).trans (KeepsOthers.of_grownBy hgrow (fun j o e ho => by obtain ⟨_, _, _, rfl⟩ := own_cells (hown.alloc (.cells #[.int .i64 x1] 3)) j o e ho; rfl)))
      clear hk1 hown' hk hown hgrow hnil hg5 hg6 hg7 hB hs
      gi_wp2
      refine ⟨HKo.out.trans (KeepsOthers.setCell _ _ _), trivial, ⟨_, by simpa using HK1.out.set 0 (.slice (some ⟨g, 0, none⟩) ((plc pre).length + 1) cap), ?_⟩, by simpa [World.setCell] using HS.out, HB1.out.setCell (p := ⟨w.heap.size + 1, 0, none⟩) (by simp) _⟩
      rw [hp.out]
      have := ownsRow_setCell_below HO.out (a := ⟨w.heap.size + 1, 0, none⟩) (by simp) (.slice (some ⟨g, 0, none⟩) ((plc pre).length + 1) cap)
      simpa using this
  case done =>
    rintro D xs W hD rfl ⟨⟨v, hk, hown⟩, hs, hB⟩ hK
    obtain ⟨a, lw, cw, rfl⟩ := own_slice hown
    have hc := hk.cell 0
    rw [show (#[Value.slice a lw cw] : Array Value)[0]? = some (.slice a lw cw) from rfl] at hc
    have hf := hk.frozen 0
    have hsz := hB.size
    have hKs := (KeepsOthers.setCell W ⟨w.heap.size + 1, 0, none⟩ (.slice a lw cw)).same D _ hK rfl
    have HB := Lib.hid (hB.setCell (p := ⟨w.heap.size + 1, 0, none⟩) (by simp) (.slice a lw cw))
    have HK1 := Lib.hid (hk.set 0 (.slice a lw cw))
    have HO := Lib.hid (ownsRow_setCell_below hown (a := ⟨w.heap.size + 1, 0, none⟩) (by simp) (.slice a lw cw))
    clear hk hB hown hs
    gi_wp2
    refine ⟨by simp, .inl ⟨_, _, rfl, run_takeDeferred hKs, ?_⟩⟩
    have hc5 : ((W.setCell ⟨w.heap.size + 1, 0, none⟩ (.slice a lw cw)).putObj D (.deferred none)).cell? ⟨w.heap.size + 1, 0, none⟩ = some (.slice a lw cw) := by
      have := HK1.out.grown (grownBy_putObj' _ D (.deferred none)) (fun e => by
        have e1 := Option.some.inj e
        omega)
      rw [this.cell]; rfl
    exact ⟨.slice a lw cw, by simp [results, Try.results91, go_sem, hc5], _, rfl, own_mono (own_put HO.out (grownBy_putObj' _ D (.deferred none)) (fun r e => by cases e; exact ⟨_, hKs, rfl⟩)) (by omega), HB.out.trans (belowK_b (w := w) (Nat.le_refl _) _ D _ _ (by omega) hKs rfl rfl)⟩
  case stop =>
    rintro D c pre W _ _ h _
    exact h.elim

def inv (pre : List (Int × Bool)) : Option Int := (pre.find? (fun x => !x.2)).map (·.1)
def Nd.invalid (n : Nd) : Int := (inv n.ents).getD (-1)
theorem inv_true (pre : List (Int × Bool)) (x : Int × Bool) (h0 : inv pre = none) (h : x.2 = true) : inv (pre ++ [x]) = none := by
  unfold inv at *; rw [List.find?_append]; simp at h0 ⊢; exact ⟨h0, h⟩
theorem inv_false (pre : List (Int × Bool)) (x : Int × Bool) (h0 : inv pre = none) (h : x.2 = false) : inv (pre ++ [x]) = some x.1 := by
  unfold inv at *; rw [List.find?_append]; simp at h0; simp [h]
  have : List.find? (fun x => !x.2) pre = none := by simpa using h0
  rw [this]; simp
theorem inv_prefix (pre xs : List (Int × Bool)) (h : pre <+: xs) (i : Int) (hi : inv pre = some i) : inv xs = some i := by
  obtain ⟨r, rfl⟩ := h
  unfold inv at *
  rw [List.find?_append]
  cases hf : List.find? (fun x => !x.2) pre with
  | none => rw [hf] at hi; cases hi
  | some y => rw [hf] at hi; simpa using hi

set_option maxRecDepth 100000 in
set_option maxHeartbeats 2000000 in
theorem invalid_in (n : Nd) (w : World) :
    CallsIn Fence.wide 9 Try.prog 90 #[.agg (ndCells n)] w fun e W' => e = .returned (.int .i64 n.invalid) ∧ Below w.heap.size w W' := by
  refine callsIn_of_wp_marks Try.func90 rfl trivial ?_ rfl
  simp only [Try.ntmps90, List.size_toArray, List.length_cons, List.length_nil, Nat.reduceAdd, Nat.reduceSub, Array.replicate_succ, Array.replicate_zero, List.push_toArray, List.append_toArray, List.nil_append, List.cons_append]
  have hb0 := Blk.new w (ndCells n) 40
  have hi27 : (Try.prog.info? 40).map (·.size) = some (ndCells n).size := by rw [ndCells_size]; kernel_rfl
  have HI := Lib.hid hi27
  clear hi27
  have HL := Lib.hid (show ∀ j v, (ndCells n)[j]? = some v → ((w.alloc (.cells (ndCells n) 40)).alloc (.cells #[.int .i64 0] 3)).cell? ⟨w.heap.size, 0 + j, none⟩ = some v from fun j v hv => by
    rw [Nat.zero_add, (hb0.alloc _).cell]; exact hv)
  clear hb0
  gi_wp2_with (first
    | (with_reducible refine wpListIn_load_part (o := ⟨some 5, _, _, _, _, _⟩) rfl 40 _ rfl w.heap.size 0 rfl (ndCells n) _ HL.out Try.underlying40 rfl HI.out ?_)
    | (refine ⟨trivial, ?_⟩; gi_at_call 94; refine (entries_calls _ n _).mono ?_; rintro e w' ⟨rfl, rfl⟩))
  obtain ⟨w3, hw3⟩ : ∃ w3, w3 = ((w.alloc (.cells (ndCells n) 40)).alloc (.cells #[.int .i64 0] 3)).alloc (.cells (ndCells n) 40) := ⟨_, rfl⟩
  have b3 : Blk w3 (w.heap.size + 2) (ndCells n) 40 := by
    rw [hw3]; have := Blk.new ((w.alloc (.cells (ndCells n) 40)).alloc (.cells #[.int .i64 0] 3)) (ndCells n) 40; simpa using this
  have k3 : Blk w3 (w.heap.size + 1) #[.int .i64 0] 3 := by
    rw [hw3]; have := (Blk.new (w.alloc (.cells (ndCells n) 40)) #[.int .i64 0] 3).alloc (.cells (ndCells n) 40); simpa using this
  have hB0 : Below w.heap.size w w3 := by
    rw [hw3]; exact (((Below.refl _ w).alloc (Nat.le_refl _) _).alloc (by simp) _).alloc (by simp; omega) _
  have hs3 : w3.heap.size = w.heap.size + 3 := by rw [hw3]; simp
  rw [← hw3]
  clear hw3 HL
  refine wpIn_rangeFunc_ownF rfl (by omega) (gf := 103) (lb := #[.pointer (some ⟨w.heap.size + 2, 0, none⟩)]) (by simp [Act.eval]) trivial (enters_of Try.func103 (by kernel_rfl) rfl)
    (entries_stops 8 (by omega) n (w.heap.size + 2) w3 b3) anyK_t anyK_b (Below.refl _ _) (fun _ => rfl)
    (fun pre W => (inv pre = none ∧ Blk W (w.heap.size + 1) #[.int .i64 0] 3) ∧ Below w.heap.size w W)
    (fun c pre W => (c = .ret ∧ ∃ i, inv pre = some i ∧ Blk W (w.heap.size + 1) #[.int .i64 i] 3) ∧ Below w.heap.size w W)
    (fun s A B row hs hg hr => by
      obtain ⟨⟨h1, h2⟩, h4⟩ := hs
      exact ⟨⟨h1, h2.put hg (fun r e => (hr r e).2)⟩, h4.grown hg h4.size (fun r e => by have := (hr r e).1; omega)⟩)
    (fun c s A B row hs hg hr => by
      obtain ⟨⟨h1, i, h2, h3⟩, h4⟩ := hs
      exact ⟨⟨h1, i, h2, h3.put hg (fun r e => (hr r e).2)⟩, h4.grown hg h4.size (fun r e => by have := (hr r e).1; omega)⟩)
    ⟨⟨rfl, k3⟩, hB0⟩
    (fun x => { tmps := #[.agg (ndCells n), .pointer (some ⟨w.heap.size, 0, none⟩), .pointer (some ⟨w.heap.size + 1, 0, none⟩), .int .i64 x.1, .bool x.2, .agg (ndCells n), .func (.func 103) #[] #[.pointer (some ⟨w.heap.size + 2, 0, none⟩)], .int .i64 x.1, .bool x.2, undef, undef, undef], defers := [] }) ?assign ?body ?done ?stop
  case assign =>
    intro l x W K hK
    simp [encE]
    gi_wp2
    exact hK
  case body =>
    rintro l pre x W ⟨⟨h0, hk⟩, hB⟩ hlen
    obtain ⟨x1, x2⟩ := x
    have hc := hk.cell 0
    have hf := hk.frozen 0
    rw [show (#[Value.int .i64 0] : Array Value)[0]? = some (.int .i64 0) from rfl] at hc
    have H0 := Lib.hid h0
    have HK := Lib.hid hk
    have HB := Lib.hid hB
    clear h0 hk hB
    cases x2
    · gi_wp2
      exact ⟨KeepsOthers.setCell _ _ _, ⟨rfl, x1, inv_false pre (x1, false) H0.out rfl, by simpa using HK.out.set 0 (.int .i64 x1)⟩, HB.out.setCell (p := ⟨w.heap.size + 1, 0, none⟩) (by simp) _⟩
    · gi_wp2
      exact ⟨KeepsOthers.refl _, trivial, ⟨inv_true pre (x1, true) H0.out rfl, HK.out⟩, HB.out⟩
  case done =>
    rintro D xs W hD rfl ⟨⟨h0, hk⟩, hB⟩ hK
    have hc := hk.cell 0
    rw [show (#[Value.int .i64 0] : Array Value)[0]? = some (.int .i64 0) from rfl] at hc
    have hf := hk.frozen 0
    have hsz := hB.size
    have hKs := (KeepsOthers.setCell W ⟨w.heap.size + 1, 0, none⟩ (.int .i64 (-1))).same D _ hK rfl
    have HB := Lib.hid (hB.setCell (p := ⟨w.heap.size + 1, 0, none⟩) (by simp) (.int .i64 (-1)))
    have HK1 := Lib.hid (hk.set 0 (.int .i64 (-1)))
    have H0 := Lib.hid (show n.invalid = -1 by unfold Nd.invalid; rw [h0]; rfl)
    clear hk hB h0
    gi_wp2
    refine ⟨by simp, .inl ⟨_, _, rfl, run_takeDeferred hKs, ?_⟩⟩
    have hc5 : ((W.setCell ⟨w.heap.size + 1, 0, none⟩ (.int .i64 (-1))).putObj D (.deferred none)).cell? ⟨w.heap.size + 1, 0, none⟩ = some (.int .i64 (-1)) := by
      have := HK1.out.grown (grownBy_putObj' _ D (.deferred none)) (fun e => by
        have e1 := Option.some.inj e
        omega)
      rw [this.cell]; rfl
    exact ⟨.int .i64 (-1), by simp [results, Try.results90, go_sem, hc5], by rw [H0.out], HB.out.trans (belowK_b (w := w) (Nat.le_refl _) _ D _ _ (by omega) hKs rfl rfl)⟩
  case stop =>
    rintro D c pre W hD hpre ⟨⟨rfl, i, hi, hk⟩, hB⟩ hK
    have H0 := Lib.hid (show n.invalid = i by unfold Nd.invalid; rw [inv_prefix _ _ hpre i hi]; rfl)
    have hsz := hB.size
    have HK1 := Lib.hid hk
    have HB := Lib.hid hB
    clear hk hB hi
    gi_wp2
    refine ⟨by simp, .inl ⟨_, _, rfl, run_takeDeferred hK, ?_⟩⟩
    have hc5 : (W.putObj D (.deferred none)).cell? ⟨w.heap.size + 1, 0, none⟩ = some (.int .i64 i) := by
      have := HK1.out.grown (grownBy_putObj' _ D (.deferred none)) (fun e => by
        have e1 := Option.some.inj e
        omega)
      rw [this.cell]; rfl
    exact ⟨.int .i64 i, by simp [results, Try.results90, go_sem, hc5], by rw [H0.out], HB.out.trans (belowK_b (w := w) (Nat.le_refl _) _ D _ _ (by omega) hK rfl rfl)⟩

theorem invalid_calls (n : Nd) (w : World) : Calls Try.prog 90 #[.agg (ndCells n)] w fun e W' => e = .returned (.int .i64 n.invalid) ∧ Below w.heap.size w W' := callsIn_wide.1 (invalid_in n w)
theorem places_calls (n : Nd) (w : World) : Calls Try.prog 91 #[.agg (ndCells n)] w fun e W' => ∃ v, e = .returned v ∧ W'.ownsRow w.heap.size 3 1 v n.places.length (n.places.map (Value.int .i64)) ∧ Below w.heap.size w W' := callsIn_wide.1 (places_in n w)
end Go.Proofs.Ytgmbnoimlffgcaa
