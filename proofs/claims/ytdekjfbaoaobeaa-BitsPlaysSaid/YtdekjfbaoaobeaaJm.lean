/-
  bits.All, May, Count: contracts.
-/
import Derived.Test.YtdekjfbaoaobeaaJa
namespace Go.Proofs.Ytdekjfbaoaobeaa
open Go.RowKit Go.Shelf
attribute [local go_sem] Oper.semAt_some

theorem Blk.put {w w' : World} {row : Option Nat} {b : Nat} {C : Array Value} {t : TypeId} (h : Blk w b C t) (hg : w.grownBy w' row)
    (hr : ∀ r, row = some r → ∃ o : Obj, w.heap[r]? = some o ∧ o.isCells = false) : Blk w' b C t := by
  refine h.grown hg (fun e => ?_)
  obtain ⟨o, ho, hc⟩ := hr b e.symm
  unfold Blk at h
  rw [h] at ho; cases ho; cases hc

theorem all_calls (mm m : Nat) (w : World) :
    CallsIn Fence.wide mm Try.prog 21 #[.int .u64 m] w fun e w' => e = .returned (.func (.func 38) #[] #[.pointer (some ⟨w.heap.size, 0, none⟩)]) ∧ w' = w.alloc (.cells #[.int .u64 m] 22) := by
  refine callsIn_wide.2 ?_
  go_enter Try.func21, Try.ntmps21
  go_wp2
  go_ret
  exact ⟨rfl, rfl⟩

def mayB (m : Nat) (n : Int) : Bool := (bitsL m).all (fun x => decide (x < n))

set_option maxRecDepth 100000 in
set_option maxHeartbeats 2000000 in
theorem may_in (m : Nat) (hm : m < 18446744073709551616) (n : Int) (w : World) :
    CallsIn Fence.wide 9 Try.prog 18 #[.int .u64 m, .int .i64 n] w fun e W' => e = .returned (.bool (mayB m n)) ∧ Below w.heap.size w W' := by
  refine callsIn_of_wp_marks Try.func18 rfl trivial ?_ rfl
  simp only [Try.ntmps18, List.size_toArray, List.length_cons, List.length_nil, Nat.reduceAdd, Nat.reduceSub, Array.replicate_succ, Array.replicate_zero, List.push_toArray, List.append_toArray, List.nil_append, List.cons_append]
  gi_wp2_with (refine ⟨trivial, ?_⟩; gi_at_call 21; refine (all_calls _ m _).mono ?_; rintro e w' ⟨rfl, rfl⟩)
  obtain ⟨w3, hw3⟩ : ∃ w3, w3 = ((w.alloc (.cells #[.int .i64 n] 3)).alloc (.cells #[.bool false] 4)).alloc (.cells #[.int .u64 m] 22) := ⟨_, rfl⟩
  have b3 : Blk w3 (w.heap.size + 2) #[.int .u64 m] 22 := by
    rw [hw3]; have := Blk.new ((w.alloc (.cells #[.int .i64 n] 3)).alloc (.cells #[.bool false] 4)) #[.int .u64 m] 22; simpa using this
  have k3 : Blk w3 (w.heap.size + 1) #[.bool false] 4 := by
    rw [hw3]; have := (Blk.new (w.alloc (.cells #[.int .i64 n] 3)) #[.bool false] 4).alloc (.cells #[.int .u64 m] 22); simpa using this
  have n3 : Blk w3 w.heap.size #[.int .i64 n] 3 := by
    rw [hw3]; exact ((Blk.new w #[.int .i64 n] 3).alloc _).alloc _
  have hB0 : Below w.heap.size w w3 := by
    rw [hw3]; exact (((Below.refl _ w).alloc (Nat.le_refl _) _).alloc (by simp) _).alloc (by simp; omega) _
  have hs3 : w3.heap.size = w.heap.size + 3 := by rw [hw3]; simp
  rw [← hw3]
  clear hw3
  refine wpIn_rangeFunc_ownF rfl (by omega) (gf := 38) (lb := #[.pointer (some ⟨w.heap.size + 2, 0, none⟩)]) (by simp [Act.eval]) trivial (enters_of Try.func38 (by kernel_rfl) rfl)
    (all_stops 8 (by omega) m hm (w.heap.size + 2) w3 b3) kpB_t (kpB_b (by omega)) (Below.refl _ _) (fun _ => rfl)
    (fun pre W => ((∀ x ∈ pre, x < n) ∧ Blk W w.heap.size #[.int .i64 n] 3 ∧ Blk W (w.heap.size + 1) #[.bool false] 4) ∧ Below w.heap.size w W)
    (fun c pre W => (c = .ret ∧ (∃ x ∈ pre, n ≤ x) ∧ Blk W (w.heap.size + 1) #[.bool false] 4) ∧ Below w.heap.size w W)
    (fun s A B row hs hg hr => by
      obtain ⟨⟨h1, h2, h3⟩, h4⟩ := hs
      exact ⟨⟨h1, h2.put hg (fun r e => (hr r e).2), h3.put hg (fun r e => (hr r e).2)⟩, h4.grown hg h4.size (fun r e => by have := (hr r e).1; omega)⟩)
    (fun c s A B row hs hg hr => by
      obtain ⟨⟨h1, h2, h3⟩, h4⟩ := hs
      exact ⟨⟨h1, h2, h3.put hg (fun r e => (hr r e).2)⟩, h4.grown hg h4.size (fun r e => by have := (hr r e).1; omega)⟩)
    ⟨⟨(fun x hx => by cases hx), n3, k3⟩, hB0⟩
    (fun x => { tmps := #[.int .u64 m, .int .i64 n, undef, .pointer (some ⟨w.heap.size, 0, none⟩), .pointer (some ⟨w.heap.size + 1, 0, none⟩), .int .i64 x, .int .u64 m, .func (.func 38) #[] #[.pointer (some ⟨w.heap.size + 2, 0, none⟩)], .int .i64 x, undef, undef, undef], defers := [] }) ?assign ?body ?done ?stop
  case assign =>
    intro l x W K hK
    simp [encI]
    gi_wp2
    exact hK
  case body =>
    rintro l pre x W ⟨⟨h0, hn, hk⟩, hB⟩ hlen
    have hc0 := hn.cell 0
    rw [show (#[Value.int .i64 n] : Array Value)[0]? = some (.int .i64 n) from rfl] at hc0
    have hc := hk.cell 0
    have hf := hk.frozen 0
    rw [show (#[Value.bool false] : Array Value)[0]? = some (.bool false) from rfl] at hc
    have H0 := Lib.hid h0
    have HN := Lib.hid hn
    have HK := Lib.hid hk
    have HB := Lib.hid hB
    clear h0 hk hB hn
    by_cases hx : n ≤ x
    · gi_wp2
      exact ⟨KeepsOthers.setCell _ _ _, ⟨rfl, ⟨x, by simp, hx⟩, by simpa using HK.out.set 0 (.bool false)⟩, HB.out.setCell (p := ⟨w.heap.size + 1, 0, none⟩) (by simp) _⟩
    · gi_wp2
      exact ⟨KeepsOthers.refl _, ⟨Nat.le_refl _, fun _ => rfl⟩, ⟨fun y hy => by
        rcases List.mem_append.1 hy with h | h
        · exact H0.out y h
        · rw [List.mem_singleton] at h; subst h; omega, HN.out, HK.out⟩, HB.out⟩
  case done =>
    rintro D xs W hD rfl ⟨⟨h0, hn, hk⟩, hB⟩ hK
    have hc := hk.cell 0
    have hf := hk.frozen 0
    rw [show (#[Value.bool false] : Array Value)[0]? = some (.bool false) from rfl] at hc
    have hsz := hB.size
    have hKs := (KeepsOthers.setCell W ⟨w.heap.size + 1, 0, none⟩ (.bool true)).same D _ hK rfl
    have HB := Lib.hid (hB.setCell (p := ⟨w.heap.size + 1, 0, none⟩) (by simp) (.bool true))
    have HK1 := Lib.hid (hk.set 0 (.bool true))
    have H0 := Lib.hid (show mayB m n = true from by unfold mayB; rw [List.all_eq_true]; exact fun x hx => decide_eq_true (h0 x hx))
    clear hk hB h0 hn
    gi_wp2
    refine ⟨by simp, .inl ⟨_, _, rfl, run_takeDeferred hKs, ?_⟩⟩
    have hc5 : ((W.setCell ⟨w.heap.size + 1, 0, none⟩ (.bool true)).putObj D (.deferred none)).cell? ⟨w.heap.size + 1, 0, none⟩ = some (.bool true) := by
      have := HK1.out.grown (grownBy_putObj' _ D (.deferred none)) (fun e => by
        have e1 := Option.some.inj e
        omega)
      rw [this.cell]; rfl
    exact ⟨.bool true, by simp [results, Try.results18, go_sem, hc5], by rw [H0.out], HB.out.trans (belowK_b (w := w) (Nat.le_refl _) _ D _ _ (by omega) hKs rfl rfl)⟩
  case stop =>
    rintro D c pre W hD hpre ⟨⟨rfl, ⟨x, hx, hnx⟩, hk⟩, hB⟩ hK
    have H0 := Lib.hid (show mayB m n = false from by
      unfold mayB
      rw [List.all_eq_false]
      exact ⟨x, hpre.subset hx, by simpa using hnx⟩)
    have hsz := hB.size
    have HK1 := Lib.hid hk
    have HB := Lib.hid hB
    clear hk hB hx hnx
    gi_wp2
    refine ⟨by simp, .inl ⟨_, _, rfl, run_takeDeferred hK, ?_⟩⟩
    have hc5 : (W.putObj D (.deferred none)).cell? ⟨w.heap.size + 1, 0, none⟩ = some (.bool false) := by
      have := HK1.out.grown (grownBy_putObj' _ D (.deferred none)) (fun e => by
        have e1 := Option.some.inj e
        omega)
      rw [this.cell]; rfl
    exact ⟨.bool false, by simp [results, Try.results18, go_sem, hc5], by rw [H0.out], HB.out.trans (belowK_b (w := w) (Nat.le_refl _) _ D _ _ (by omega) hK rfl rfl)⟩

theorem may_calls (m : Nat) (hm : m < 18446744073709551616) (n : Int) (w : World) : Calls Try.prog 18 #[.int .u64 m, .int .i64 n] w fun e W' => e = .returned (.bool (mayB m n)) ∧ Below w.heap.size w W' := callsIn_wide.1 (may_in m hm n w)
end Go.Proofs.Ytdekjfbaoaobeaa
