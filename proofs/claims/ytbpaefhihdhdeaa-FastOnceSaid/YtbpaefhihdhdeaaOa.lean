/-
  A CHANGE THAT IS ASKED FOR, that came in.
-/
import Derived.Test.YtbpaefhihdhdeaaOn
import Derived.Test.YtbpaefhihdhdeaaMd
namespace Go.Proofs.Ytbpaefhihdhdeaa
open Go.RowKit Go.ChangeShapes Go.WideShapes Go.Deep
set_option linter.unusedVariables false

set_option maxRecDepth 100000 in
theorem open_ask {H : Type} {enc : TypeId × Value → H} {W : World} {base : Nat} {v : Value} {d : DataW H} {p : List MemPlace} (hv : Value.okWide Try.prog W .any base 39 v) (h : DataW.Trod enc Try.prog W 0 (fun _ => true) true 39 v d p) :
    ∃ kind key ptr : Int, v = .agg (askC kind key ptr) ∧ (Lit.int .i64 kind).wf = true ∧ (Lit.int .u64 key).wf = true ∧ (Lit.int .u64 ptr).wf = true := by
  obtain ⟨cs, rfl, hsz⟩ := okWide_struct Try.underlying39 hv
  have h3 : Try.prog.cellsOf 39 = 3 := by kernel_rfl
  rw [h3] at hsz
  obtain ⟨fuel, hf⟩ := h
  obtain ⟨xs, m, _, _, _, hl, hx⟩ := DataW.trod_struct Try.underlying39 hf
  have hs : ∀ i, i < 3 → xs[i]? ≠ none := fun i hi => by
    have : i < xs.length := by rw [hl]; exact hi
    rw [List.getElem?_eq_getElem this]; simp
  obtain ⟨a, e0, w0⟩ := trod_int_at Try.underlying3 (by kernel_rfl) (hs 0 (by omega)) (hx 0 _ rfl)
  obtain ⟨b, e1, w1⟩ := trod_int_at Try.underlying22 (by kernel_rfl) (hs 1 (by omega)) (hx 1 _ rfl)
  obtain ⟨c, e2, w2⟩ := trod_int_at Try.underlying23 (by kernel_rfl) (hs 2 (by omega)) (hx 2 _ rfl)
  refine ⟨a, b, c, congrArg Value.agg ?_, w0, w1, w2⟩
  simp only [Value.cells, Array.getElem?_toList] at e0 e1 e2
  apply Array.ext_getElem?
  intro i
  rcases Nat.lt_or_ge i 3 with hi | hi
  · have hc : i = 0 ∨ i = 1 ∨ i = 2 := by omega
    rcases hc with rfl | rfl | rfl
    · exact e0
    · exact e1
    · exact e2
  · rw [Array.getElem?_eq_none (by omega), Array.getElem?_eq_none (by simp [askC]; omega)]
end Go.Proofs.Ytbpaefhihdhdeaa
