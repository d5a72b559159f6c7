/-
  TURNS, EVICTIONS, NUMBERS THAT CAME IN.
-/
import Derived.Test.YtefgahcadfmmoaaRop
import Derived.Test.YtefgahcadfmmoaaRtw
import Derived.Deep.Grids
namespace Go.Proofs.Ytefgahcadfmmoaa
open Go.RowKit Go.ChangeShapes Go.WideShapes Go.Deep

set_option maxRecDepth 100000 in
theorem open_turns {H : Type} {enc : TypeId × Value → H} {W : World} {base : Nat} {v : Value} {d : DataW H} {p : List MemPlace} (hv : Value.okWide Try.prog W .any base 53 v) (h : DataW.Trod enc Try.prog W 0 (fun _ => true) true 53 v d p) :
    ∃ (a : Option Addr) (n cap : Nat) (f : Nat → Bool), v = .slice a n cap ∧ n ≤ 9223372036854775807 ∧ BoolsAt W a n f := by
  obtain ⟨a0, len0, cap0, rfl⟩ := okWide_slice Try.underlying53 hv
  obtain ⟨fuel, hf⟩ := h
  rcases open_bools (x := (d, p)) Try.underlying53 Try.underlying4 (by kernel_rfl) hf with ⟨hcs, _⟩ | ⟨a, len, cap, B, hcs, _, hl, hm, _, hc⟩
  · cases hcs
    exact ⟨none, 0, 0, fun _ => false, rfl, by omega, fun h => by omega⟩
  · obtain ⟨rfl, rfl, rfl⟩ : a0 = some a ∧ len0 = len ∧ cap0 = cap := by
      have e1 := (List.cons.inj hcs).1
      exact ⟨(Value.slice.inj e1).1, (Value.slice.inj e1).2.1, (Value.slice.inj e1).2.2⟩
    refine ⟨some a, _, _, B, rfl, by unfold maxLen at hm; omega, fun hl0 => ?_⟩
    have h0 := hc 0 (by omega)
    rw [show a.add 0 = a by simp [Addr.add]] at h0
    have hsp := spot_none h0
    refine ⟨a.block, a.off, by rw [← hsp], by have := World.block_lt_of_cell? W _ h0; exact this, fun i hil => ?_⟩
    rw [← hc i (by omega)]
    congr 1
    rw [hsp]
    unfold Addr.add
    split
    · rename_i h; simp [h]
    · rfl
set_option maxRecDepth 100000 in
theorem open_early {H : Type} {enc : TypeId × Value → H} {W : World} {base : Nat} {v : Value} {d : DataW H} {p : List MemPlace} (hv : Value.okWide Try.prog W .any base 54 v) (h : DataW.Trod enc Try.prog W 0 (fun _ => true) true 54 v d p) :
    ∃ (a : Option Addr) (n cap : Nat) (f : Nat → Int × Int), v = .slice a n cap ∧ n ≤ 9223372036854775807 ∧ EarlyAt W a n f ∧ ∀ i, i < n → (-9223372036854775808 ≤ (f i).1 ∧ (f i).1 ≤ 9223372036854775807) ∧ (f i).2 ≤ 9223372036854775807 := by
  obtain ⟨a, len, cap, rfl, hlen, hx⟩ := open_fields Try.underlying54 Try.underlying59 (by kernel_rfl) (by kernel_rfl) (by decide) hv h
  by_cases hl : 0 < len
  · obtain ⟨g, o, rfl, hg, hc⟩ := hx hl
    have each : ∀ i, i < len → ∃ q : Int × Int, W.cell? ⟨g, o + i * 2, none⟩ = some (.int .i64 q.1) ∧ W.cell? ⟨g, o + i * 2 + 1, none⟩ = some (.int .i64 q.2) ∧ (Lit.int .i64 q.1).wf = true ∧ (Lit.int .i64 q.2).wf = true := by
      intro i hi
      obtain ⟨v0, y0, n0, c0, t0⟩ := hc i hi 0 _ rfl
      obtain ⟨v1, y1, n1, c1, t1⟩ := hc i hi 1 _ rfl
      obtain ⟨a0, e0, _, w0⟩ := DataW.trod_int Try.underlying3 t0
      obtain ⟨a1, e1, _, w1⟩ := DataW.trod_int Try.underlying3 t1
      cases e0; cases e1
      exact ⟨(a0, a1), by simpa using c0, by simpa [Nat.add_assoc] using c1, w0, w1⟩
    obtain ⟨q, hq⟩ := Go.Deep.choose_lt each
    exact ⟨_, len, cap, q, rfl, by unfold maxLen at hlen; omega, fun _ => ⟨g, o, rfl, hg, fun i hi => ⟨(hq i hi).1, (hq i hi).2.1⟩⟩, fun i hi => ⟨i64_bounds (hq i hi).2.2.1, (i64_bounds (hq i hi).2.2.2).2⟩⟩
  · have : len = 0 := by omega
    subst this
    exact ⟨a, 0, cap, fun _ => (0, 0), rfl, by omega, fun h => absurd h (by omega), fun i hi => absurd hi (by omega)⟩
end Go.Proofs.Ytefgahcadfmmoaa
