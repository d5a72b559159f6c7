/-
  node.entries, node.Len: contracts.
-/
import Derived.Test.YtbpaefhihdhdeaaEn
namespace Go.Proofs.Ytbpaefhihdhdeaa
open Go.RowKit Go.Shelf
attribute [local go_sem] Oper.semAt_some

theorem entries_calls (m : Nat) (n : Nd) (w : World) :
    CallsIn Fence.wide m Try.prog 48 #[.agg (ndCells n)] w fun e w' => e = .returned (.func (.func 68) #[] #[.pointer (some ⟨w.heap.size, 0, none⟩)]) ∧ w' = w.alloc (.cells (ndCells n) 27) := by
  refine callsIn_wide.2 ?_
  go_enter Try.func48, Try.ntmps48
  go_wp2
  go_ret
  exact ⟨rfl, rfl⟩

theorem anyK_t {A B C : World} (_ : AnyW A B) (_ : AnyW B C) : AnyW A C := trivial
theorem anyK_b {w : World} (W : World) (l : Nat) (o o' : Obj) (_ : w.heap.size ≤ l) (_ : W.heap[l]? = some o) (_ : o.isCells = false) (_ : o.isWalk = false) : AnyW W (W.putObj l o') := trivial

set_option maxRecDepth 100000 in
set_option maxHeartbeats 2000000 in
theorem len_in (n : Nd) (w : World) :
    CallsIn Fence.wide 9 Try.prog 46 #[.agg (ndCells n)] w fun e W' => e = .returned (.int .i64 n.len) ∧ Below w.heap.size w W' := by
  refine callsIn_of_wp_marks Try.func46 rfl trivial ?_ rfl
  simp only [Try.ntmps46, List.size_toArray, List.length_cons, List.length_nil, Nat.reduceAdd, Nat.reduceSub, Array.replicate_succ, Array.replicate_zero, List.push_toArray, List.append_toArray, List.nil_append, List.cons_append]
  have hb0 := Blk.new w (ndCells n) 27
  have hi27 : (Try.prog.info? 27).map (·.size) = some (ndCells n).size := by rw [ndCells_size]; kernel_rfl
  have HI := Lib.hid hi27
  clear hi27
  have HL := Lib.hid (show ∀ j v, (ndCells n)[j]? = some v → ((w.alloc (.cells (ndCells n) 27)).alloc (.cells #[.int .i64 0] 3)).cell? ⟨w.heap.size, 0 + j, none⟩ = some v from fun j v hv => by
    rw [Nat.zero_add, (hb0.alloc _).cell]; exact hv)
  clear hb0
  gi_wp2_with (first
    | (with_reducible refine wpListIn_load_part (o := ⟨some 3, _, _, _, _, _⟩) rfl 27 _ rfl w.heap.size 0 rfl (ndCells n) _ HL.out Try.underlying27 rfl HI.out ?_)
    | (refine ⟨trivial, ?_⟩; gi_at_call 48; refine (entries_calls _ n _).mono ?_; rintro e w' ⟨rfl, rfl⟩))
  obtain ⟨w3, hw3⟩ : ∃ w3, w3 = ((w.alloc (.cells (ndCells n) 27)).alloc (.cells #[.int .i64 0] 3)).alloc (.cells (ndCells n) 27) := ⟨_, rfl⟩
  have b3 : Blk w3 (w.heap.size + 2) (ndCells n) 27 := by
    rw [hw3]; have := Blk.new ((w.alloc (.cells (ndCells n) 27)).alloc (.cells #[.int .i64 0] 3)) (ndCells n) 27; simpa using this
  have k3 : Blk w3 (w.heap.size + 1) #[.int .i64 0] 3 := by
    rw [hw3]; have := (Blk.new (w.alloc (.cells (ndCells n) 27)) #[.int .i64 0] 3).alloc (.cells (ndCells n) 27); simpa using this
  have hB0 : Below w.heap.size w w3 := by
    rw [hw3]; exact (((Below.refl _ w).alloc (Nat.le_refl _) _).alloc (by simp) _).alloc (by simp; omega) _
  have hs3 : w3.heap.size = w.heap.size + 3 := by rw [hw3]; simp
  rw [← hw3]
  clear hw3 HL
  refine wpIn_rangeFunc_ownF rfl (by omega) (gf := 68) (lb := #[.pointer (some ⟨w.heap.size + 2, 0, none⟩)]) (by simp [Act.eval]) trivial (enters_of Try.func68 (by kernel_rfl) rfl)
    (entries_stops 8 (by omega) n (w.heap.size + 2) w3 b3) anyK_t anyK_b (Below.refl _ _) (fun _ => rfl)
    (fun pre W => Blk W (w.heap.size + 1) #[.int .i64 pre.length] 3 ∧ Below w.heap.size w W)
    (fun _ _ _ => False)
    (fun s A B row hs hg hr => ⟨hs.1.grown hg (fun e => by obtain ⟨_, o, ho, hc⟩ := hr _ e.symm; have := hs.1; unfold Blk at this; rw [this] at ho; cases ho; cases hc), hs.2.grown hg hs.2.size (fun r e => by have := (hr r e).1; omega)⟩)
    (fun _ _ _ _ _ hs _ _ => hs)
    ⟨k3, hB0⟩
    (fun x => { tmps := #[.agg (ndCells n), .pointer (some ⟨w.heap.size, 0, none⟩), .pointer (some ⟨w.heap.size + 1, 0, none⟩), .agg (ndCells n), .func (.func 68) #[] #[.pointer (some ⟨w.heap.size + 2, 0, none⟩)], .int .i64 x.1, .bool x.2, undef, undef, undef], defers := [] }) ?assign ?body ?done ?stop
  case assign =>
    intro l x W K hK
    gi_wp2
    simp [encE]
    exact hK
  case body =>
    rintro l pre x W ⟨hk, hB⟩ hlen
    have hc := hk.cell 0
    have hf := hk.frozen 0
    have hk1 := hk.set 0 (.int .i64 ((pre.length : Int) + 1))
    have hB1 := hB.setCell (p := ⟨w.heap.size + 1, 0, none⟩) (by simp) (.int .i64 ((pre.length : Int) + 1))
    have HK1 := Lib.hid hk1
    have HB1 := Lib.hid hB1
    clear hk1 hB1 hk hB
    gi_wp2
    exact ⟨KeepsOthers.setCell _ _ _, trivial, by simpa using HK1.out, HB1.out⟩
  case done =>
    rintro D xs W hD rfl ⟨hk, hB⟩ hK
    rw [ents_len] at hk
    have hc := hk.cell 0
    have hf := hk.frozen 0
    have hsz := hB.size
    have hKs := (KeepsOthers.setCell W ⟨w.heap.size + 1, 0, none⟩ (.int .i64 n.len)).same D _ hK rfl
    have HB := Lib.hid (hB.setCell (p := ⟨w.heap.size + 1, 0, none⟩) (by simp) (.int .i64 n.len))
    have HK1 := Lib.hid (hk.set 0 (.int .i64 n.len))
    clear hk hB
    gi_wp2
    refine ⟨by simp, .inl ⟨_, _, rfl, run_takeDeferred hKs, ?_⟩⟩
    have hc5 : ((W.setCell ⟨w.heap.size + 1, 0, none⟩ (.int .i64 n.len)).putObj D (.deferred none)).cell? ⟨w.heap.size + 1, 0, none⟩ = some (.int .i64 n.len) := by
      have := HK1.out.grown (grownBy_putObj' _ D (.deferred none)) (fun e => by
        have e1 := Option.some.inj e
        omega)
      rw [this.cell]; rfl
    exact ⟨.int .i64 n.len, by simp [results, Try.results46, go_sem, hc5], rfl, HB.out.trans (belowK_b (w := w) (Nat.le_refl _) _ D _ _ (by omega) hKs rfl rfl)⟩
  case stop =>
    rintro D c pre W _ _ h _
    exact h.elim

theorem len_calls (n : Nd) (w : World) : Calls Try.prog 46 #[.agg (ndCells n)] w fun e W' => e = .returned (.int .i64 n.len) ∧ Below w.heap.size w W' := callsIn_wide.1 (len_in n w)
end Go.Proofs.Ytbpaefhihdhdeaa
