/-
  A LIST OF CALLS THAT CAME IN, opened.
-/
import Derived.Test.YtajccnmeijgagaaLp
import Derived.Test.YtajccnmeijgagaaLift
import Derived.WalkKit
import Derived.ProofKit
import Derived.OpenShut
import Derived.ShutString
import Derived.Deep.Slices
import Derived.Deep.Fields
import Derived.ChangeSame
namespace Go.Proofs.Ytajccnmeijgagaa
open Go.ChangeShapes Go.WideShapes Go.ChangeAt Go.RowKit
set_option linter.unusedVariables false

/-- the acts, opened -/
theorem open_acts {H : Type} {enc : TypeId × Value → H} {W : World} {base : Nat} {v : Value} {d : DataW H} {p : List MemPlace} (hv : Value.okWide Try.prog W .any base 32 v) (h : DataW.Trod enc Try.prog W 0 (fun _ => true) true 32 v d p) :
    ∃ (a : Option Addr) (len cap : Nat), v = .slice a len cap ∧ len ≤ maxLen ∧ (0 < len → ∃ (g o : Nat) (l : List (Int × Int × Int)), a = some ⟨g, o, none⟩ ∧ l.length = len ∧ g < W.heap.size ∧ ActsAt W g o l) := by
  obtain ⟨a, len, cap, rfl, hlen, hx⟩ := open_fields Try.underlying32 Try.underlying34 (by kernel_rfl) (by kernel_rfl) (by decide) hv h
  refine ⟨a, len, cap, rfl, hlen, fun hl => ?_⟩
  obtain ⟨g, o, rfl, hg, hc⟩ := hx hl
  have each : ∀ i, i < len → ∃ q : Int × Int × Int, W.cell? ⟨g, o + i * 3, none⟩ = some (.int .i64 q.1) ∧ W.cell? ⟨g, o + i * 3 + 1, none⟩ = some (.int .i64 q.2.1) ∧ W.cell? ⟨g, o + i * 3 + 2, none⟩ = some (.int .u64 q.2.2) ∧ (Lit.int .u64 q.2.2).wf = true := by
    intro i hi
    obtain ⟨v0, y0, n0, c0, t0⟩ := hc i hi 0 _ rfl
    obtain ⟨v1, y1, n1, c1, t1⟩ := hc i hi 1 _ rfl
    obtain ⟨v2, y2, n2, c2, t2⟩ := hc i hi 2 _ rfl
    obtain ⟨a0, e0, _, _⟩ := DataW.trod_int Try.underlying3 t0
    obtain ⟨a1, e1, _, _⟩ := DataW.trod_int Try.underlying3 t1
    obtain ⟨a2, e2, _, w2⟩ := DataW.trod_int Try.underlying29 t2
    cases e0; cases e1; cases e2
    exact ⟨(a0, a1, a2), by simpa using c0, by simpa [Nat.add_assoc] using c1, by simpa [Nat.add_assoc] using c2, w2⟩
  obtain ⟨q, hq⟩ := Go.Deep.choose_lt each
  refine ⟨g, o, (List.range len).map q, rfl, by simp, hg, fun i hi => ?_⟩
  have hi' : i < len := by simpa using hi
  have := hq i hi'
  rw [show ((List.range len).map q).getD i (0, 0, 0) = q i by simp [hi']]
  exact this

end Go.Proofs.Ytajccnmeijgagaa
