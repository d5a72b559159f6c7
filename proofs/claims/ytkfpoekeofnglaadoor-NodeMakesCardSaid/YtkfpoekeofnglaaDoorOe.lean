/-
  ENTRIES THAT CAME IN, opened.
-/
import Derived.Test.YtkfpoekeofnglaaDoorLk
import Derived.Test.YtkfpoekeofnglaaDoorLift
import Derived.Deep.Slices
namespace Go.Proofs.YtkfpoekeofnglaaDoor
open Go.RowKit Go.ChangeShapes Go.WideShapes Go.ChangeAt
set_option linter.unusedVariables false

set_option maxRecDepth 100000 in
theorem open_ents {H : Type} {enc : TypeId × Value → H} {W : World} {base : Nat} {v : Value} {d : DataW H} {p : List MemPlace} (hv : Value.okWide Tryd.prog W .any base 38 v) (h : DataW.Trod enc Tryd.prog W 0 (fun _ => true) true 38 v d p) :
    ∃ (a : Option Addr) (l : List (Int × Int)) (cap : Nat), v = .slice a l.length cap ∧ EntsIn W a l := by
  obtain ⟨a, len, cap, rfl, hlen, hx⟩ := open_fields Tryd.underlying38 Tryd.underlying57 (by kernel_rfl) (by kernel_rfl) (by decide) hv h
  by_cases hl : 0 < len
  · obtain ⟨g, o, rfl, hg, hc⟩ := hx hl
    have each : ∀ i, i < len → ∃ q : Int × Int, W.cell? ⟨g, o + i * 2, none⟩ = some (.int .u64 q.1) ∧ W.cell? ⟨g, o + i * 2 + 1, none⟩ = some (.int .u64 q.2) := by
      intro i hi
      obtain ⟨v0, y0, n0, c0, t0⟩ := hc i hi 0 _ rfl
      obtain ⟨v1, y1, n1, c1, t1⟩ := hc i hi 1 _ rfl
      obtain ⟨a0, e0, _, w0⟩ := DataW.trod_int Tryd.underlying22 t0
      obtain ⟨a1, e1, _, _⟩ := DataW.trod_int Tryd.underlying23 t1
      cases e0; cases e1
      exact ⟨(a0, a1), by simpa using c0, by simpa [Nat.add_assoc] using c1⟩
    obtain ⟨q, hq⟩ := Go.Deep.choose_lt each
    have hel : ∀ i, i < len → eK ((List.range len).map q) i = (q i).1 ∧ eP ((List.range len).map q) i = (q i).2 := fun i hi => by
      simp [eK, eP, List.getD, hi]
    refine ⟨_, (List.range len).map q, cap, by simp, fun _ => ⟨g, o, rfl, hg, fun i hi => ?_⟩⟩
    have hi' : i < len := by simpa using hi
    rw [(hel i hi').1, (hel i hi').2]
    exact ⟨(hq i hi').1, (hq i hi').2⟩
  · have : len = 0 := by omega
    subst this
    exact ⟨a, [], cap, rfl, fun h => absurd h (by simp)⟩
end Go.Proofs.YtkfpoekeofnglaaDoor
