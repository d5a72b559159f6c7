/-
  bits.Count: a contract.
-/
import Derived.Test.YtdekjfbaoaobeaaJm
namespace Go.Proofs.Ytdekjfbaoaobeaa
open Go.RowKit Go.Shelf
attribute [local go_sem] Oper.semAt_some

set_option maxRecDepth 100000 in
set_option maxHeartbeats 2000000 in
theorem count_in (m : Nat) (hm : m < 18446744073709551616) (w : World) :
    CallsIn Fence.wide 9 Try.prog 22 #[.int .u64 m] w fun e W' => e = .returned (.int .i64 (bitsL m).length) ∧ Below w.heap.size w W' := by
  refine callsIn_of_wp_marks Try.func22 rfl trivial ?_ rfl
  simp only [Try.ntmps22, List.size_toArray, List.length_cons, List.length_nil, Nat.reduceAdd, Nat.reduceSub, Array.replicate_succ, Array.replicate_zero, List.push_toArray, List.append_toArray, List.nil_append, List.cons_append]
  gi_wp2_with (refine ⟨trivial, ?_⟩; gi_at_call 21; refine (all_calls _ m _).mono ?_; rintro e w' ⟨rfl, rfl⟩)
  obtain ⟨w3, hw3⟩ : ∃ w3, w3 = (w.alloc (.cells #[.int .i64 0] 3)).alloc (.cells #[.int .u64 m] 22) := ⟨_, rfl⟩
  have b3 : Blk w3 (w.heap.size + 1) #[.int .u64 m] 22 := by
    rw [hw3]; have := Blk.new (w.alloc (.cells #[.int .i64 0] 3)) #[.int .u64 m] 22; simpa using this
  have k3 : Blk w3 w.heap.size #[.int .i64 0] 3 := by
    rw [hw3]; exact (Blk.new w #[.int .i64 0] 3).alloc _
  have hB0 : Below w.heap.size w w3 := by
    rw [hw3]; exact ((Below.refl _ w).alloc (Nat.le_refl _) _).alloc (by simp) _
  have hs3 : w3.heap.size = w.heap.size + 2 := by rw [hw3]; simp
  rw [← hw3]
  clear hw3
  refine wpIn_rangeFunc_ownF rfl (by omega) (gf := 38) (lb := #[.pointer (some ⟨w.heap.size + 1, 0, none⟩)]) (by simp [Act.eval]) trivial (enters_of Try.func38 (by kernel_rfl) rfl)
    (all_stops 8 (by omega) m hm (w.heap.size + 1) w3 b3) kpB_t (kpB_b (by omega)) (Below.refl _ _) (fun _ => rfl)
    (fun pre W => (Blk W w.heap.size #[.int .i64 pre.length] 3 ∧ w.heap.size + 2 ≤ W.heap.size) ∧ Below w.heap.size w W)
    (fun _ _ _ => False)
    (fun s A B row hs hg hr => by
      obtain ⟨⟨h1, h2⟩, h4⟩ := hs
      exact ⟨⟨h1.put hg (fun r e => (hr r e).2), Nat.le_trans h2 hg.size⟩, h4.grown hg h4.size (fun r e => by have := (hr r e).1; omega)⟩)
    (fun _ _ _ _ _ hs _ _ => hs)
    ⟨⟨k3, by omega⟩, hB0⟩
    (fun x => { tmps := #[.int .u64 m, undef, .pointer (some ⟨w.heap.size, 0, none⟩), .int .u64 m, .func (.func 38) #[] #[.pointer (some ⟨w.heap.size + 1, 0, none⟩)], .int .i64 x, undef, undef, undef], defers := [] }) ?assign ?body ?done ?stop
  case assign =>
    intro l x W K hK
    simp [encI]
    gi_wp2
    exact hK
  case body =>
    rintro l pre x W ⟨⟨hk, hz⟩, hB⟩ hlen
    have hc := hk.cell 0
    have hf := hk.frozen 0
    rw [show (#[Value.int .i64 (pre.length : Int)] : Array Value)[0]? = some (.int .i64 pre.length) from rfl] at hc
    have HK := Lib.hid (hk.set 0 (.int .i64 ((pre.length : Int) + 1)))
    have HB := Lib.hid (hB.setCell (p := ⟨w.heap.size, 0, none⟩) (Nat.le_refl _) (.int .i64 ((pre.length : Int) + 1)))
    have HZ := Lib.hid hz
    clear hk hB hz
    gi_wp2
    exact ⟨KeepsOthers.setCell _ _ _, ⟨by simp, fun _ => heap_setCell_other _ _ _ _ (by show _ ≠ w.heap.size; omega)⟩, ⟨by simpa using HK.out, by simpa using HZ.out⟩, HB.out⟩
  case done =>
    rintro D xs W hD rfl ⟨⟨hk, hz⟩, hB⟩ hK
    have hc := hk.cell 0
    have hf := hk.frozen 0
    rw [show (#[Value.int .i64 ((bitsL m).length : Int)] : Array Value)[0]? = some (.int .i64 (bitsL m).length) from rfl] at hc
    have hsz := hB.size
    obtain ⟨q, hq⟩ : ∃ q, (bitsL m).length = q := ⟨_, rfl⟩
    rw [hq] at hc hk
    have HQ := Lib.hid hq
    clear hq
    have hKs := (KeepsOthers.setCell W ⟨w.heap.size, 0, none⟩ (.int .i64 q)).same D _ hK rfl
    have HB := Lib.hid (hB.setCell (p := ⟨w.heap.size, 0, none⟩) (Nat.le_refl _) (.int .i64 q))
    have HK1 := Lib.hid (hk.set 0 (.int .i64 q))
    clear hk hB hz
    gi_wp2
    refine ⟨by simp, .inl ⟨_, _, rfl, run_takeDeferred hKs, ?_⟩⟩
    have hc5 : ((W.setCell ⟨w.heap.size, 0, none⟩ (.int .i64 q)).putObj D (.deferred none)).cell? ⟨w.heap.size, 0, none⟩ = some (.int .i64 q) := by
      have := HK1.out.grown (grownBy_putObj' _ D (.deferred none)) (fun e => by
        have e1 := Option.some.inj e
        omega)
      rw [this.cell]; rfl
    exact ⟨.int .i64 q, by simp [results, Try.results22, go_sem, hc5], by rw [HQ.out], HB.out.trans (belowK_b (w := w) (Nat.le_refl _) _ D _ _ (by omega) hKs rfl rfl)⟩
  case stop =>
    rintro D c pre W _ _ h _
    exact h.elim

theorem count_calls (m : Nat) (hm : m < 18446744073709551616) (w : World) : Calls Try.prog 22 #[.int .u64 m] w fun e W' => e = .returned (.int .i64 (bitsL m).length) ∧ Below w.heap.size w W' := callsIn_wide.1 (count_in m hm w)
end Go.Proofs.Ytdekjfbaoaobeaa
