/-
  ValueTorn: called with any text and any numbers of stores that are kept the Go function returns true, and what was there stays as it was. No condition.
-/
import Derived.Test.YtegamhjfloebgaaRows
import Derived.Test.YtegamhjfloebgaaVt
import Derived.Test.YtegamhjfloebgaaLift
namespace Go.Proofs.Ytegamhjfloebgaa.valueTornP
open Go.ChangeShapes Go.WideShapes Go.ChangeAt Go.RowKit
open Go.ChangeMaps (open_string shut_string)
set_option linter.unusedVariables false      -- a walk need not use every 'w<i>' (that an integer argument fits its kind)

theorem own : ownKnob Try.prog.godebug = none := by kernel_rfl

/-! ### THE ROW's STEP -/
set_option maxRecDepth 100000 in
theorem lifted (os : Os) (started : os.Started) (H : Type) (enc : TypeId × Value → H) :
    ReturnsInHanded {} Try.checked os 7 .any (Rows.valueTornSpec.pre6 enc Try.prog Try.f7 Rows.valueTornRow.domain false) (Rows.valueTornSpec.post enc Try.prog Try.f7 false true false false) := by
  refine returnsInHanded_of_change (C := Try.checked) own started (by kernel_rfl) Try.func7
    (ChangeSpec.witness6 (enc := enc) (C := Try.checked) false ⟨#[], #[.string ⟨#[]⟩, .slice none 0 0], []⟩ 8 (by kernel_rfl) (by kernel_rfl) (by kernel_rfl) (by kernel_rfl)) ?_
  intro W base args ds gs before hval0 hW hcnd _
  have hval : ∀ (j : Nat) t v, Try.f7.params[j]? = some t → args[j]? = some v → Value.okWide Try.prog W .any base t v := hval0
  have hW' := hW
  obtain ⟨p, q, hA0, hV, rfl, hfz, hnd⟩ := hW
  have hA : DataW.TrodAll enc Try.prog W 0 (fun _ => true) true Try.f7.params.toList args.toList ds p := hA0
  rw [Try.params7] at hA hval
  obtain ⟨v0, vs0, d0, ds0, p0, q0, hargs, rfl, rfl, h0, r0⟩ := trodAll_cons hA
  obtain ⟨v1, vs1, d1, ds1, p1, q1, rfl, rfl, rfl, h1, r1⟩ := trodAll_cons r0
  obtain ⟨rfl, rfl, rfl⟩ := trodAll_nil r1
  obtain rfl : args = #[v0, v1] := by cases args; simp_all
  obtain ⟨rfl, rfl⟩ := trodVars_none hV
  obtain ⟨s, rfl, rfl, rfl, w0⟩ := open_string Try.underlying9 (hval 0 9 v0 rfl rfl) h0
  obtain ⟨a, len, cap, xs, rfl, hl, hm, _, hwf, hc⟩ := open_nums Try.underlying61 Try.underlying3 (by kernel_rfl) (hval 1 61 v1 rfl rfl) h1
  subst hl
  have main : Calls Try.prog 7 #[.string s, .slice a xs.length cap] W fun e w' => e = .returned (.bool true) ∧ Below W.heap.size W w' := by
    by_cases hb : 120 < s.size ∨ 20 < xs.length
    · exact vtorn_long s a _ cap W hm w0 hb
    · have hsl : s.data.toList.length = s.size := by simp
      have := vtorn_in s.data.toList a cap xs W (by omega) (by omega) (fun x hx => i64_bounds (hwf x hx)) ⟨by simp, fun h0 => by
        obtain ⟨g, o, rfl, hg, hcl⟩ := hc h0
        refine ⟨⟨g, o, none⟩, rfl, hg, fun j u hu => ?_⟩
        have hj : j < xs.length := by have := (List.getElem?_eq_some_iff.1 hu).1; simpa using this
        have e1 : (⟨g, o, none⟩ : Addr).add j = ⟨g, o + j, none⟩ := by unfold Addr.add; split; (rename_i h; subst h; rfl); rfl
        rw [e1, hcl j hj]
        simp [hj] at hu ⊢
        exact hu⟩
      rwa [Array.toArray_toList] at this
  refine main.mono fun e W' ⟨he, hk⟩ => ?_
  subst he
  exact ⟨_, rfl, law_post (tb := 4) (by kernel_rfl) (by kernel_rfl) rfl Try.underlying4 rfl rfl hW' hA0 hk rfl⟩

theorem over : Rows.valueTornRow.holds Try.pinned (OpenSpec.ofChange Rows.valueTornSpec) :=
  OpenClaim.holds_of_wide 7 Try.f7 rfl rfl rfl rfl rfl rfl rfl ⟨rfl, rfl, rfl, rfl, rfl⟩ rfl rfl rfl rfl rfl (by kernel_rfl) Try.func7 (by kernel_rfl)
    (of_decide_eq_true (by kernel_rfl)) (by unfold Func.isWrapper; first | (rw [if_pos (by decide +kernel)]; kernel_rfl) | (rw [if_neg (by decide +kernel)]; exact ⟨rfl, rfl⟩))
    (fun os started H enc _ => lifted os started H enc)

/-- ████ THE STATEMENT ████ -/
theorem proved : Rows.ValueTornSaid :=
  over
#print axioms proved
end Go.Proofs.Ytegamhjfloebgaa.valueTornP
