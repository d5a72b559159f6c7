/-
  THE ITERATOR OVER A TABLE's KEYS (maps.Keys of the memory's lines): its contract.
-/
import Derived.Test.YtdmcakoaakinnaaQka
import Derived.RangeFuncNested
import Derived.RangeFuncBound
import Derived.RangeFuncCalls
import Derived.RangeFuncLeaves
import Derived.RangeFuncBox
import Derived.RangeFuncMany
import Derived.Sort.MapsRangeIn
import Derived.Sort.KeysCollected
import Derived.Shelf.Abstract
import Derived.Shelf.RegionOpen
import Derived.OwnWalkIn
import Derived.TacticsInMore
import Derived.RegionIn
import Derived.LoopNIn
import Derived.LoopIn
import Derived.Outline
namespace Go.Proofs.Ytdmcakoaakinnaa
open Go.RowKit Go.Maps Go.Shelf
attribute [local go_sem] Oper.semAt_some
set_option linter.unusedVariables false

def u64E (x : Int) : Array Value := #[.int .u64 x]
/-- a table's keys -/
def KeysOf (D : DataW Value) (xs : List Int) : Prop := xs.Nodup ∧ (∀ a, a ∈ xs ↔ Maps.has D (.int .u64 a) = true) ∧ ∀ a, a ∈ xs → (Lit.int .u64 a).wf = true
def CollK (D : DataW Value) (left : Lit → Bool) (ss : List Int) : Prop := ss.Nodup ∧ (∀ a, a ∈ ss ↔ (Maps.has D (.int .u64 a) = true ∧ left (.int .u64 a) = false)) ∧ ∀ a, a ∈ ss → (Lit.int .u64 a).wf = true
theorem CollK.start (D : DataW Value) : CollK D (Maps.has D) [] :=
  ⟨List.nodup_nil, (fun a => by
    constructor
    · intro h; cases h
    · rintro ⟨h1, h2⟩
      rw [h1] at h2; cases h2), (fun a h => by cases h)⟩
theorem same_u64 (a x : Int) : (Lit.int .u64 a).sameKey (.int .u64 x) = decide (a = x) := by
  simp [Lit.sameKey]
theorem CollK.step {D : DataW Value} {left : Lit → Bool} {ss : List Int} (hC : CollK D left ss) {x : Int} (hlk : left (.int .u64 x) = true) (hx : Maps.has D (.int .u64 x) = true) (hwf : (Lit.int .u64 x).wf = true) :
    CollK D (fun z => left z && !z.sameKey (.int .u64 x)) (ss ++ [x]) := by
  obtain ⟨h1, h2, h3⟩ := hC
  have hn : x ∉ ss := fun hm => by have := ((h2 x).1 hm).2; rw [hlk] at this; cases this
  refine ⟨List.nodup_append.2 ⟨h1, by simp, by intro a ha b hb e; simp at hb; subst hb; subst e; exact hn ha⟩, fun a => ?_, fun a ha => by
    rcases List.mem_append.1 ha with h | h
    · exact h3 a h
    · simp at h; subst h; exact hwf⟩
  rw [List.mem_append, h2 a]
  simp only [same_u64]
  by_cases e : a = x
  · subst e; simp [hx]
  · simp [e]
theorem CollK.done {D : DataW Value} {left : Lit → Bool} {ss : List Int} (hC : CollK D left ss) (hl : ∀ kl, left kl = false) : KeysOf D ss :=
  ⟨hC.1, (fun a => by rw [hC.2.1 a, hl]; simp), hC.2.2⟩
set_option maxRecDepth 100000 in
set_option maxHeartbeats 1000000 in
theorem keys_stops (m : Nat) (hm1 : 1 ≤ m) (bt ml k : Nat) (D0 : DataW Value) (w : World) (hbt : bt < w.heap.size) (ht : w.cell? ⟨bt, 0, none⟩ = some (.map (some ml))) (hml : ml < w.heap.size)
    (hown : OwnL w ml k D0) :
    SeqStopsK Fence.wide m Try.prog 61 #[.pointer (some ⟨bt, 0, none⟩)] u64E KeepsWalks (fun xs => KeysOf D0 xs ∧ xs.length ≤ Maps.size D0) (fun _ => True) (Maps.size D0) w := by
  intro l J Jx W hW hJ _ hY h0
  have ht' : W.cell? ⟨bt, 0, none⟩ = some (.map (some ml)) := (hW.cell (p := ⟨bt, 0, none⟩) hbt).trans ht
  have hown' : W.ownsMap Try.prog 24 RV ml k D0 := by
    obtain ⟨es, clock, hb', Ft, hs, hD⟩ := hown
    exact ⟨es, clock, (hW.block ml hml).trans hb', Ft, hs, hD⟩
  clear hown ht hW
  refine callsIn_of_wp Try.func61 rfl trivial ?_ rfl
  simp only [Try.ntmps61, List.size_toArray, List.length_cons, List.length_nil, Nat.reduceAdd, Nat.reduceSub, Array.replicate_succ, Array.replicate_zero, List.push_toArray, List.append_toArray, List.nil_append, List.cons_append]
  gi_wp2_with (gi_at_range; refine wpListIn_range_own _ rfl _ 98 rfl 24 4 kA Try.underlying98 _ ml k _ rfl hown' ?_; intro w0 hrg0 hg0 hs0)
  go_frame
  gi_loopw [3] (fun _ wr => ∃ (left : Lit → Bool) (cnt : Nat) (ss : List Int), wr.ranges Try.prog 24 RV ml W.heap.size k D0 left cnt ∧ ss.length + cnt ≤ Maps.size D0 ∧ Hid (CollK D0 left ss) ∧ J ss wr)
    (fun _ wr => wr.rangeLeft ml W.heap.size)
  case atStart =>
    exact ⟨_, _, [], hrg0, by simp, Lib.hid (CollK.start D0), hJ [] W w0 none h0 hg0 (fun r e => by cases e)⟩
  case round =>
    obtain ⟨left, cnt, ss, hrg, hcs, hC, hJs⟩ := hrel
    gi_wp2_with (gi_at_next; refine wpListIn_next_ranges _ rfl _ rfl 24 kA RV (Value.int .u64) (fun v : Value => v) (fun key kl hk => by obtain ⟨x, hx, _⟩ := Maps.keyOf_int_inv Try.underlying24 hk; exact ⟨x, hx⟩) (fun v y hv => ⟨v, rfl⟩) ml W.heap.size k _ _ _ rfl hrg ?_ ?_)
    · intro hc0 hl0
      have HF := Lib.hid (hC.out.done hl0)
      gi_wp2
      go_end0
      exact ⟨⟨_, rfl⟩, .inl ⟨ss, ⟨HF.out, by omega⟩, hJs⟩⟩
    · intro x v kl yd yp w2 cnt2 hkey hlk hv hat hrg2 hlt hg2 hs2 hen
      obtain ⟨x', ex, rfl, hwf⟩ := Maps.keyOf_int_inv Try.underlying24 hkey
      obtain rfl : x = x' := by simpa using ex
      have hJ2 : J ss w2 := hJ ss wr w2 (some W.heap.size) hJs hg2 (fun r e => by cases e; exact ⟨Nat.le_refl _, hrg.iter_walk⟩)
      have HC2 := Lib.hid (hC.out.step hlk (Maps.has_true_of_atKey hat) hwf)
      obtain ⟨fn, tmps, assign, body, hy, hR⟩ := hY ss x w2 hJ2 (by omega)
      dsimp only [u64E] at hy
      clear hat hkey hv hs2
      gi_wp2
      refine hR.mono ?_
      rintro e W3 (⟨rfl, hJ3, hk3⟩ | ⟨rfl, hJx3⟩)
      · have hrg3 := hrg2.of_walks hk3
        clear hk3
        gi_wp2
        go_roundw
        case rel => exact ⟨_, cnt2, ss ++ [x], hrg3, by simp; omega, HC2, hJ3⟩
        case measure => rw [hrg3.left_eq, hrg.left_eq]; exact hlt
      · gi_wp2
        refine bodyPost_ret (results_none rfl _ _ _) rfl ?_
        exact ⟨⟨_, rfl⟩, .inr ⟨ss ++ [x], trivial, hJx3⟩⟩
theorem keys_calls (mm : Nat) (ml : Nat) (w : World) :
    CallsIn Fence.wide mm Try.prog 54 #[.map (some ml)] w fun e w' => e = .returned (.func (.func 61) #[] #[.pointer (some ⟨w.heap.size, 0, none⟩)]) ∧ w' = w.alloc (.cells #[.map (some ml)] 98) := by
  refine callsIn_wide.2 ?_
  go_enter Try.func54, Try.ntmps54
  go_wp2
  go_ret
  exact ⟨rfl, rfl⟩
end Go.Proofs.Ytdmcakoaakinnaa
