/-
  STORES THAT CAME IN.
-/
import Derived.Test.YtefgahcadfmmoaaRwi
import Derived.Test.YtefgahcadfmmoaaLift
import Derived.Deep.Slices
namespace Go.Proofs.Ytefgahcadfmmoaa
open Go.RowKit Go.ChangeShapes Go.WideShapes Go.Deep

theorem take1R {l : List Value} {off : Nat} {v : Value} (h : (l.drop off).take 1 = [v]) : l[off]? = some v := by
  have : ((l.drop off).take 1)[0]? = some v := by rw [h]; rfl
  simpa [List.getElem?_take, List.getElem?_drop] using this
section
variable {H : Type} {enc : TypeId × Value → H} {P : Program} {w : World} {base : Nat} {spare : Nat → Bool} {held : Bool}
theorem trod_int_atR {t : TypeId} {k : IntKind} {m off : Nat} {l : List Value} {y : Option (DataW H × List MemPlace)} (ht : P.underlying t = some (.int k)) (hc : P.cellsOf t = 1) (hy : y ≠ none) (h : DataW.trod enc P w base spare held m t ((l.drop off).take (P.cellsOf t)) = y) :
    ∃ a, l[off]? = some (.int k a) ∧ (Lit.int k a).wf = true := by
  cases y with
  | none => exact absurd rfl hy
  | some y =>
    rw [hc] at h
    obtain ⟨a, e, _, hw⟩ := DataW.trod_int ht h
    exact ⟨a, take1R e, hw⟩
end
set_option maxRecDepth 100000 in
theorem open_put {H : Type} {enc : TypeId × Value → H} {W : World} {base : Nat} {v : Value} {d : DataW H} {p : List MemPlace} (hv : Value.okWide Try.prog W .any base 25 v) (h : DataW.Trod enc Try.prog W 0 (fun _ => true) true 25 v d p) :
    ∃ p0 p1 : Int, v = .agg #[.int .u64 p0, .int .u64 p1] ∧ (0 ≤ p0 ∧ p0 ≤ 18446744073709551615) ∧ 0 ≤ p1 ∧ p1 ≤ 18446744073709551615 := by
  obtain ⟨cs, rfl, hsz⟩ := okWide_struct Try.underlying25 hv
  have h2 : Try.prog.cellsOf 25 = 2 := by kernel_rfl
  rw [h2] at hsz
  obtain ⟨fuel, hf⟩ := h
  obtain ⟨xs, m, _, _, _, hl, hx⟩ := DataW.trod_struct Try.underlying25 hf
  have hs : ∀ i, i < 2 → xs[i]? ≠ none := fun i hi => by
    have : i < xs.length := by rw [hl]; exact hi
    rw [List.getElem?_eq_getElem this]; simp
  obtain ⟨p0, e0, w0⟩ := trod_int_atR Try.underlying23 (by kernel_rfl) (hs 0 (by omega)) (hx 0 _ rfl)
  obtain ⟨p1, e1, w1⟩ := trod_int_atR Try.underlying22 (by kernel_rfl) (hs 1 (by omega)) (hx 1 _ rfl)
  refine ⟨p0, p1, ?_, u64_bounds w0, u64_bounds w1⟩
  refine congrArg Value.agg ?_
  apply Array.ext_getElem?
  intro i
  match i with
  | 0 => exact (show cs[0]? = _ from by have := e0; simp only [Value.cells, Array.getElem?_toList] at this; exact this)
  | 1 => exact (show cs[1]? = _ from by have := e1; simp only [Value.cells, Array.getElem?_toList] at this; exact this)
  | i + 2 =>
    rw [Array.getElem?_eq_none (by omega), Array.getElem?_eq_none (by simp)]
set_option maxRecDepth 100000 in
theorem open_puts {H : Type} {enc : TypeId × Value → H} {W : World} {base : Nat} {v : Value} {d : DataW H} {p : List MemPlace} (hv : Value.okWide Try.prog W .any base 34 v) (h : DataW.Trod enc Try.prog W 0 (fun _ => true) true 34 v d p) :
    ∃ (a : Option Addr) (l : List (Int × Int)) (cap : Nat), v = .slice a l.length cap ∧ PutsAt W a l ∧ l.length ≤ 9223372036854775807 ∧ ∀ i, i < l.length → (0 ≤ eK l i ∧ eK l i ≤ 18446744073709551615) ∧ 0 ≤ eP l i ∧ eP l i ≤ 18446744073709551615 := by
  obtain ⟨a, len, cap, rfl, hlen, hx⟩ := open_fields Try.underlying34 Try.underlying25 (by kernel_rfl) (by kernel_rfl) (by decide) hv h
  by_cases hl : 0 < len
  · obtain ⟨g, o, rfl, hg, hc⟩ := hx hl
    have each : ∀ i, i < len → ∃ q : Int × Int, W.cell? ⟨g, o + i * 2, none⟩ = some (.int .u64 q.1) ∧ W.cell? ⟨g, o + i * 2 + 1, none⟩ = some (.int .u64 q.2) ∧ (Lit.int .u64 q.1).wf = true ∧ (Lit.int .u64 q.2).wf = true := by
      intro i hi
      obtain ⟨v0, y0, n0, c0, t0⟩ := hc i hi 0 _ rfl
      obtain ⟨v1, y1, n1, c1, t1⟩ := hc i hi 1 _ rfl
      obtain ⟨a0, e0, _, w0⟩ := DataW.trod_int Try.underlying23 t0
      obtain ⟨a1, e1, _, w1⟩ := DataW.trod_int Try.underlying22 t1
      cases e0; cases e1
      exact ⟨(a0, a1), by simpa using c0, by simpa [Nat.add_assoc] using c1, w0, w1⟩
    obtain ⟨q, hq⟩ := Go.Deep.choose_lt each
    have hel : ∀ i, i < len → eK ((List.range len).map q) i = (q i).1 ∧ eP ((List.range len).map q) i = (q i).2 := fun i hi => by
      simp [eK, eP, List.getD, hi]
    refine ⟨_, (List.range len).map q, cap, by simp, fun _ => ⟨g, o, rfl, hg, fun i hi => ?_⟩, by unfold maxLen at hlen; simp; omega, fun i hi => ?_⟩
    · have hi' : i < len := by simpa using hi
      rw [(hel i hi').1, (hel i hi').2]
      exact ⟨(hq i hi').1, (hq i hi').2.1⟩
    · have hi' : i < len := by simpa using hi
      rw [(hel i hi').1, (hel i hi').2]
      exact ⟨u64_bounds (hq i hi').2.2.1, u64_bounds (hq i hi').2.2.2⟩
  · have : len = 0 := by omega
    subst this
    exact ⟨a, [], cap, rfl, fun h => absurd h (by simp), by simp, fun i hi => absurd hi (by simp)⟩
end Go.Proofs.Ytefgahcadfmmoaa
