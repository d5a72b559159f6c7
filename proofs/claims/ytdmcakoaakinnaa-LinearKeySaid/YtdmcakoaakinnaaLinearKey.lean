/-
  LinearKey: called with any pairs, any eras and any key, in whatever memory, the Go function returns true, and what was there stays as it was. No condition.
-/
import Derived.Test.YtdmcakoaakinnaaRows
import Derived.Test.YtdmcakoaakinnaaLrg
import Derived.SizedLaws
import Derived.Test.YtdmcakoaakinnaaLift
import Derived.Deep.Slices
namespace Go.Proofs.Ytdmcakoaakinnaa.linearKeyP
open Go.ChangeShapes Go.WideShapes Go.ChangeAt Go.RowKit
open Go.ChangeMaps (open_string shut_string)
set_option linter.unusedVariables false

theorem own : ownKnob Try.prog.godebug = none := by kernel_rfl

/-! ### THE ROW's STEP -/
set_option maxRecDepth 100000 in
theorem lifted (os : Os) (started : os.Started) (H : Type) (enc : TypeId × Value → H) :
    ReturnsInHanded {} Try.checked os 3 .any (Rows.linearKeySpec.pre6 enc Try.prog Try.f3 Rows.linearKeyRow.domain false) (Rows.linearKeySpec.post enc Try.prog Try.f3 false true false false) := by
  refine returnsInHanded_of_change_sized (C := Try.checked) own started (by kernel_rfl) Try.func3
    (ChangeSpec.witness6 (enc := enc) (C := Try.checked) false ⟨#[], #[.slice none 0 0, .slice none 0 0, .int .u64 0], []⟩ 8 (by kernel_rfl) (by kernel_rfl) (by kernel_rfl) (by kernel_rfl)) ?_
  intro W base args ds gs before hval0 hW hcnd hsz _
  have hval : ∀ (j : Nat) t v, Try.f3.params[j]? = some t → args[j]? = some v → Value.okWide Try.prog W .any base t v := hval0
  have hW' := hW
  obtain ⟨p, q, hA0, hV, rfl, hfz, hnd⟩ := hW
  have hA : DataW.TrodAll enc Try.prog W 0 (fun _ => true) true Try.f3.params.toList args.toList ds p := hA0
  rw [Try.params3] at hA hval
  obtain ⟨v0, vs0, d0, ds0, p0, q0, hargs, rfl, rfl, h0, r0⟩ := trodAll_cons hA
  obtain ⟨v1, vs1, d1, ds1, p1, q1, rfl, rfl, rfl, h1, r1⟩ := trodAll_cons r0
  obtain ⟨v2, vs2, d2, ds2, p2, q2, rfl, rfl, rfl, h2, r2⟩ := trodAll_cons r1
  obtain ⟨rfl, rfl, rfl⟩ := trodAll_nil r2
  obtain rfl : args = #[v0, v1, v2] := by cases args; simp_all
  obtain ⟨rfl, rfl⟩ := trodVars_none hV
  have hsd : ∀ (j : Nat) t d, Try.f3.params[j]? = some t → [d0, d1, d2][j]? = some d → SzD Try.prog t d := fun j t d ht hd n hn => by
    have h := List.all_eq_true.1 hsz n (DataW.weights_mem_each (j := j) (t := t) (d := d) (by
      rw [List.getElem?_append_left (by
        have := (Array.getElem?_eq_some_iff.1 ht).1
        simpa using this)]
      rw [Array.getElem?_toList]; exact ht) (by
      rw [List.getElem?_append_left (List.getElem?_eq_some_iff.1 hd).1]; exact hd) n hn)
    simpa using h
  obtain ⟨a0, n0, c0, rfl⟩ := okWide_slice Try.underlying22 (hval 0 22 v0 rfl rfl)
  obtain ⟨a1, n1, c1, rfl⟩ := okWide_slice Try.underlying23 (hval 1 23 v1 rfl rfl)
  obtain ⟨key, rfl, rfl, rfl, w2⟩ := open_int Try.underlying24 (hval 2 24 v2 rfl rfl) h2
  obtain ⟨f0, hf0⟩ := h0
  obtain ⟨f1, hf1⟩ := h1
  obtain ⟨b0, e0, first, hv0, hF, hFg, hFl⟩ := open_prs hf0 (hsd 0 _ _ rfl rfl)
  obtain ⟨b1, e1, l, hv1, hE, hEg, hEl⟩ := open_ers hf1 (hsd 1 _ _ rfl rfl)
  rw [hv0, hv1] at hW' hA0 ⊢
  have hr : reachBytes ≤ 140737488355328 := Nat.le_of_lt reachBytes_lt
  have main := lkey_v first l key b0 b1 e0 e1 W (by omega) (by omega) (fun e he => ⟨by have := (hEg e he).2.2.1; omega, by have := (hEg e he).2.2.2.2.2; omega, fun d hd => by
      have h9 := ((hEg e he).2.1 d hd).2.2.2.2
      show d.ps.length ≤ _
      omega⟩) (fun e he => by have := (hEg e he).2.2.1; omega) (fun p hp => (hFg p hp).2) (fun e he d hd => ((hEg e he).2.1 d hd).2.1) hF hE

  refine main.mono fun e W' ⟨he, hk⟩ => ?_
  subst he
  exact ⟨_, rfl, law_post (tb := 4) (by kernel_rfl) (by kernel_rfl) rfl Try.underlying4 rfl rfl hW' hA0 hk rfl⟩

theorem over : Rows.linearKeyRow.holds Try.pinned (OpenSpec.ofChange Rows.linearKeySpec) :=
  OpenClaim.holds_of_wide 3 Try.f3 rfl rfl rfl rfl rfl rfl rfl ⟨rfl, rfl, rfl, rfl, rfl⟩ rfl rfl rfl rfl rfl (by kernel_rfl) Try.func3 (by kernel_rfl)
    (of_decide_eq_true (by kernel_rfl)) (by unfold Func.isWrapper; first | (rw [if_pos (by decide +kernel)]; kernel_rfl) | (rw [if_neg (by decide +kernel)]; exact ⟨rfl, rfl⟩))
    (fun os started H enc _ => lifted os started H enc)

/-- ████ THE STATEMENT ████ -/
theorem proved : Rows.LinearKeySaid :=
  over
#print axioms proved
end Go.Proofs.Ytdmcakoaakinnaa.linearKeyP
