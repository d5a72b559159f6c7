/-
  Changes that are asked for, and turns, that came in.
-/
import Derived.Test.YtgmbnoimlffgcaaMog
import Derived.Test.YtgmbnoimlffgcaaWn
import Derived.Deep.Slices
import Derived.Deep.Grids
namespace Go.Proofs.Ytgmbnoimlffgcaa
open Go.RowKit Go.ChangeShapes Go.WideShapes Go.Deep
set_option linter.unusedVariables false

set_option maxRecDepth 100000 in
theorem open_turns {H : Type} {enc : TypeId × Value → H} {W : World} {base : Nat} {v : Value} {d : DataW H} {p : List MemPlace} (hv : Value.okWide Try.prog W .any base 71 v) (h : DataW.Trod enc Try.prog W 0 (fun _ => true) true 71 v d p) :
    ∃ (a : Option Addr) (n cap : Nat) (f : Nat → Bool), v = .slice a n cap ∧ n ≤ 9223372036854775807 ∧ BoolsAt W a n f := by
  obtain ⟨a0, len0, cap0, rfl⟩ := okWide_slice Try.underlying71 hv
  obtain ⟨fuel, hf⟩ := h
  rcases open_bools (x := (d, p)) Try.underlying71 Try.underlying4 (by kernel_rfl) hf with ⟨hcs, _⟩ | ⟨a, len, cap, B, hcs, _, hl, hm, _, hc⟩
  · cases hcs
    exact ⟨none, 0, 0, fun _ => false, rfl, by omega, fun h => by omega⟩
  · obtain ⟨rfl, rfl, rfl⟩ : a0 = some a ∧ len0 = len ∧ cap0 = cap := by
      have e1 := (List.cons.inj hcs).1
      exact ⟨(Value.slice.inj e1).1, (Value.slice.inj e1).2.1, (Value.slice.inj e1).2.2⟩
    refine ⟨some a, _, _, B, rfl, by unfold maxLen at hm; omega, fun hl0 => ?_⟩
    have h0 := hc 0 (by omega)
    rw [show a.add 0 = a by simp [Addr.add]] at h0
    have hsp := spot_none h0
    refine ⟨a.block, a.off, by rw [← hsp], by have := World.block_lt_of_cell? W _ h0; exact this, fun i hil => ?_⟩
    rw [← hc i (by omega)]
    congr 1
    rw [hsp]
    unfold Addr.add
    split
    · rename_i h; simp [h]
    · rfl
set_option maxRecDepth 100000 in
theorem open_asks {H : Type} {enc : TypeId × Value → H} {W : World} {base : Nat} {v : Value} {d : DataW H} {p : List MemPlace} (hv : Value.okWide Try.prog W .any base 70 v) (h : DataW.Trod enc Try.prog W 0 (fun _ => true) true 70 v d p) :
    ∃ (a : Option Addr) (l : List Rq) (cap : Nat), v = .slice a l.length cap ∧ AskAt W W.heap.size (.slice a l.length cap) l ∧ l.length ≤ 9223372036854775807 ∧ ∀ x ∈ l, U64 x.2.1 ∧ U64 x.2.2 := by
  have hv0 := hv
  have h0 := h
  obtain ⟨a, len, cap, rfl, hlen, hx⟩ := open_fields Try.underlying70 Try.underlying104 (by kernel_rfl) (by kernel_rfl) (by decide) hv h
  have hcap : len ≤ cap := by
    obtain ⟨fuel, hf⟩ := h0
    rcases open_slice_fields (x := (d, p)) Try.underlying70 Try.underlying104 (by kernel_rfl) (by kernel_rfl) hf with ⟨hcs, _⟩ | ⟨a', len', cap', m, D, Pl, hcs, _, hl, _⟩
    · cases hcs
      omega
    · have e1 := (List.cons.inj hcs).1
      rw [(Value.slice.inj e1).2.1, (Value.slice.inj e1).2.2]
      exact hl
  have each : ∀ i, i < len → ∃ q : Rq, ∀ g o, a = some ⟨g, o, none⟩ → (∀ j u, (rqC q)[j]? = some u → W.cell? ⟨g, o + 3 * i + j, none⟩ = some u) ∧ U64 q.2.1 ∧ U64 q.2.2 := by
    intro i hi
    obtain ⟨g, o, rfl, hg, hc⟩ := hx (by omega)
    obtain ⟨v0, y0, n0, c0, t0⟩ := hc i hi 0 _ rfl
    obtain ⟨v1, y1, n1, c1, t1⟩ := hc i hi 1 _ rfl
    obtain ⟨v2, y2, n2, c2, t2⟩ := hc i hi 2 _ rfl
    obtain ⟨a0, e0, _, w0⟩ := DataW.trod_int Try.underlying3 t0
    obtain ⟨a1, e1, _, w1⟩ := DataW.trod_int Try.underlying23 t1
    obtain ⟨a2, e2, _, w2⟩ := DataW.trod_int Try.underlying24 t2
    cases e0; cases e1; cases e2
    refine ⟨(a0, a1, a2), fun g' o' e => ?_⟩
    injection e with e
    injection e with q1 q2
    subst q1 q2
    refine ⟨fun j u hj => ?_, u64_bounds w1, u64_bounds w2⟩
    have hj3 : j < 3 := (Array.getElem?_eq_some_iff.1 hj).1
    have hc : j = 0 ∨ j = 1 ∨ j = 2 := by omega
    rcases hc with rfl | rfl | rfl
    · have e : some (Value.int .i64 a0) = some u := hj
      rw [← e, ← c0]
      congr 2
      show o + 3 * i + 0 = o + (i * 3 + 0)
      omega
    · have e : some (Value.int .u64 a1) = some u := hj
      rw [← e, ← c1]
      congr 2
      show o + 3 * i + 1 = o + (i * 3 + 1)
      omega
    · have e : some (Value.int .u64 a2) = some u := hj
      rw [← e, ← c2]
      congr 2
      show o + 3 * i + 2 = o + (i * 3 + 2)
      omega
  obtain ⟨q, hq⟩ := Go.Deep.choose_lt each
  have hget : ∀ j x, ((List.range len).map q)[j]? = some x → j < len ∧ q j = x := fun j x hj => by
    rw [List.getElem?_map] at hj
    by_cases h : j < len
    · rw [List.getElem?_range h] at hj
      exact ⟨h, Option.some.inj hj⟩
    · rw [List.getElem?_eq_none (by simp; omega)] at hj
      cases hj
  refine ⟨a, (List.range len).map q, cap, by simp, ⟨a, cap, rfl, by simpa using hcap, fun h0 => ?_⟩, by unfold maxLen at hlen; simp; omega, fun x hx' => ?_⟩
  · obtain ⟨g, o, rfl, hg, hc⟩ := hx (by simpa using h0)
    refine ⟨g, o, rfl, hg, fun j x hj => ?_⟩
    obtain ⟨h1, rfl⟩ := hget j x hj
    exact (hq j h1 g o rfl).1
  · obtain ⟨j, hj, rfl⟩ := List.mem_map.1 hx'
    have hj' : j < len := by simpa using hj
    obtain ⟨g, o, rfl, hg, hc⟩ := hx (by omega)
    exact (hq j hj' g o rfl).2
end Go.Proofs.Ytgmbnoimlffgcaa
