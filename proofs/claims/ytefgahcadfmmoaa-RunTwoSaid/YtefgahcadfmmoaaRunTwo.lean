/-
  RunTwo: called with any number of lines, any stores of two runs, any turns, any evictions and anything that is kept, in whatever memory, the Go function returns true, and what was there stays as it was. No condition.
-/
import Derived.Test.YtefgahcadfmmoaaRows
import Derived.Test.YtefgahcadfmmoaaRoq
import Derived.Test.YtefgahcadfmmoaaRop
import Derived.Deep.Slices
namespace Go.Proofs.Ytefgahcadfmmoaa.runTwoP
open Go.ChangeShapes Go.WideShapes Go.ChangeAt Go.RowKit
open Go.ChangeMaps (open_string shut_string)
set_option linter.unusedVariables false

theorem own : ownKnob Try.prog.godebug = none := by kernel_rfl

/-! ### THE ROW's STEP -/
set_option maxRecDepth 100000 in
theorem lifted (os : Os) (started : os.Started) (H : Type) (enc : TypeId × Value → H) :
    ReturnsInHanded {} Try.checked os 7 .any (Rows.runTwoSpec.pre6 enc Try.prog Try.f7 Rows.runTwoRow.domain false) (Rows.runTwoSpec.post enc Try.prog Try.f7 false true false false) := by
  refine returnsInHanded_of_change (C := Try.checked) own started (by kernel_rfl) Try.func7
    (ChangeSpec.witness6 (enc := enc) (C := Try.checked) false ⟨#[], #[.int .i64 0, .slice none 0 0, .slice none 0 0, .slice none 0 0, .slice none 0 0, .slice none 0 0], []⟩ 8 (by kernel_rfl) (by kernel_rfl) (by kernel_rfl) (by kernel_rfl)) ?_
  intro W base args ds gs before hval0 hW hcnd _
  have hval : ∀ (j : Nat) t v, Try.f7.params[j]? = some t → args[j]? = some v → Value.okWide Try.prog W .any base t v := hval0
  have hW' := hW
  obtain ⟨p, q, hA0, hV, rfl, hfz, hnd⟩ := hW
  have hA : DataW.TrodAll enc Try.prog W 0 (fun _ => true) true Try.f7.params.toList args.toList ds p := hA0
  rw [Try.params7] at hA hval
  obtain ⟨v0, vs0, d0, ds0, p0, q0, hargs, rfl, rfl, h0, r0⟩ := trodAll_cons hA
  obtain ⟨v1, vs1, d1, ds1, p1, q1, rfl, rfl, rfl, h1, r1⟩ := trodAll_cons r0
  obtain ⟨v2, vs2, d2, ds2, p2, q2, rfl, rfl, rfl, h2, r2⟩ := trodAll_cons r1
  obtain ⟨v3, vs3, d3, ds3, p3, q3, rfl, rfl, rfl, h3, r3⟩ := trodAll_cons r2
  obtain ⟨v4, vs4, d4, ds4, p4, q4, rfl, rfl, rfl, h4, r4⟩ := trodAll_cons r3
  obtain ⟨v5, vs5, d5, ds5, p5, q5, rfl, rfl, rfl, h5, r5⟩ := trodAll_cons r4
  obtain ⟨rfl, rfl, rfl⟩ := trodAll_nil r5
  obtain rfl : args = #[v0, v1, v2, v3, v4, v5] := by cases args; simp_all
  obtain ⟨rfl, rfl⟩ := trodVars_none hV
  obtain ⟨a0, rfl, rfl, rfl, w0⟩ := open_int Try.underlying3 (hval 0 3 v0 rfl rfl) h0
  obtain ⟨pa, la, ca, rfl, hpa, hlla, hua⟩ := open_puts (hval 1 34 v1 rfl rfl) h1
  obtain ⟨pb, lb, cb, rfl, hpb, hllb, hub⟩ := open_puts (hval 2 34 v2 rfl rfl) h2
  obtain ⟨pt, nt, ct, ft, rfl, hnt, hbt⟩ := open_turns (hval 3 53 v3 rfl rfl) h3
  obtain ⟨pe, ne, ce, fe, rfl, hne, hee, heb⟩ := open_early (hval 4 54 v4 rfl rfl) h4
  obtain ⟨pk, nk, ck, ks, rfl, hkl, hkm, hkc, hkw, hka⟩ := open_nums Try.underlying55 Try.underlying3 (by kernel_rfl) (hval 5 55 v5 rfl rfl) h5
  subst hkl
  have main := rtwo_v a0 pa pb pt pe pk la lb nt ne ft fe ks ca cb ct ce ck W (i64_bounds w0) hlla hllb hnt hne (by unfold maxLen at hkm; omega) hpa hua hpb hub hbt hee heb hka (fun x hx => i64_bounds (hkw x hx))

  refine main.mono fun e W' ⟨he, hk⟩ => ?_
  subst he
  exact ⟨_, rfl, law_post (tb := 4) (by kernel_rfl) (by kernel_rfl) rfl Try.underlying4 rfl rfl hW' hA0 hk rfl⟩

theorem over : Rows.runTwoRow.holds Try.pinned (OpenSpec.ofChange Rows.runTwoSpec) :=
  OpenClaim.holds_of_wide 7 Try.f7 rfl rfl rfl rfl rfl rfl rfl ⟨rfl, rfl, rfl, rfl, rfl⟩ rfl rfl rfl rfl rfl (by kernel_rfl) Try.func7 (by kernel_rfl)
    (of_decide_eq_true (by kernel_rfl)) (by unfold Func.isWrapper; first | (rw [if_pos (by decide +kernel)]; kernel_rfl) | (rw [if_neg (by decide +kernel)]; exact ⟨rfl, rfl⟩))
    (fun os started H enc _ => lifted os started H enc)

/-- ████ THE STATEMENT ████ -/
theorem proved : Rows.RunTwoSaid :=
  over
#print axioms proved
end Go.Proofs.Ytefgahcadfmmoaa.runTwoP
