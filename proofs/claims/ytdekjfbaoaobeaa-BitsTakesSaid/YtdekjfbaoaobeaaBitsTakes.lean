/-
  BitsTakes: called with any two lists of addresses the Go function returns true, and what was there stays as it was. No condition.
-/
import Derived.Test.YtdekjfbaoaobeaaRows
import Derived.Test.YtdekjfbaoaobeaaTl
import Derived.Test.YtdekjfbaoaobeaaLift
namespace Go.Proofs.Ytdekjfbaoaobeaa.bitsTakesP
open Go.ChangeShapes Go.WideShapes Go.ChangeAt Go.RowKit
open Go.ChangeMaps (open_string shut_string)
set_option linter.unusedVariables false      -- a walk need not use every 'w<i>' (that an integer argument fits its kind)

theorem own : ownKnob Try.prog.godebug = none := by kernel_rfl

theorem readL_of {W : World} {a : Option Addr} {xs : List Int} (h : 0 < xs.length → ∃ (g o : Nat), a = some ⟨g, o, none⟩ ∧ g < W.heap.size ∧ ∀ i, i < xs.length → W.cell? ⟨g, o + i, none⟩ = some (.int .u64 (xs.getD i 0))) : ReadL W a xs := by
  by_cases h0 : xs = []
  · exact .inl h0
  · obtain ⟨g, o, h1, h2, h3⟩ := h (List.length_pos_iff.2 h0)
    exact .inr ⟨g, o, h1, h2, h3⟩

/-! ### THE ROW's STEP -/
set_option maxRecDepth 100000 in
theorem lifted (os : Os) (started : os.Started) (H : Type) (enc : TypeId × Value → H) :
    ReturnsInHanded {} Try.checked os 6 .any (Rows.bitsTakesSpec.pre6 enc Try.prog Try.f6 Rows.bitsTakesRow.domain false) (Rows.bitsTakesSpec.post enc Try.prog Try.f6 false true false false) := by
  refine returnsInHanded_of_change (C := Try.checked) own started (by kernel_rfl) Try.func6
    (ChangeSpec.witness6 (enc := enc) (C := Try.checked) false ⟨#[], #[.slice none 0 0, .slice none 0 0], []⟩ 8 (by kernel_rfl) (by kernel_rfl) (by kernel_rfl) (by kernel_rfl)) ?_
  intro W base args ds gs before hval0 hW hcnd _
  have hval : ∀ (j : Nat) t v, Try.f6.params[j]? = some t → args[j]? = some v → Value.okWide Try.prog W .any base t v := hval0
  have hW' := hW
  obtain ⟨p, q, hA0, hV, rfl, hfz, hnd⟩ := hW
  have hA : DataW.TrodAll enc Try.prog W 0 (fun _ => true) true Try.f6.params.toList args.toList ds p := hA0
  rw [Try.params6] at hA hval
  obtain ⟨v0, vs0, d0, ds0, p0, q0, hargs, rfl, rfl, h0, r0⟩ := trodAll_cons hA
  obtain ⟨v1, vs1, d1, ds1, p1, q1, rfl, rfl, rfl, h1, r1⟩ := trodAll_cons r0
  obtain ⟨rfl, rfl, rfl⟩ := trodAll_nil r1
  obtain rfl : args = #[v0, v1] := by cases args; simp_all
  obtain ⟨rfl, rfl⟩ := trodVars_none hV
  obtain ⟨a, len, cap, L, rfl, hl, hm, _, hwf, hc⟩ := open_nums Try.underlying35 Try.underlying39 (by kernel_rfl) (hval 0 35 v0 rfl rfl) h0
  obtain ⟨a2, len2, cap2, O, rfl, hl2, hm2, _, _, hc2⟩ := open_nums Try.underlying35 Try.underlying39 (by kernel_rfl) (hval 1 35 v1 rfl rfl) h1
  subst hl hl2
  have main : Calls Try.prog 6 #[.slice a L.length cap, .slice a2 O.length cap2] W fun e w' => e = .returned (.bool true) ∧ Below W.heap.size W w' := by
    by_cases hn : 200 < L.length ∨ 200 < O.length
    · exact takes_out a a2 _ cap _ cap2 W hm hm2 hn
    · refine takes_in a a2 cap cap2 L O W (readL_of hc) (readL_of hc2) (by omega) (by omega) (fun x hx => ?_)
      exact (u64_bounds (hwf x hx)).1
  refine main.mono fun e W' ⟨he, hk⟩ => ?_
  subst he
  exact ⟨_, rfl, law_post (tb := 4) (by kernel_rfl) (by kernel_rfl) rfl Try.underlying4 rfl rfl hW' hA0 hk rfl⟩

theorem over : Rows.bitsTakesRow.holds Try.pinned (OpenSpec.ofChange Rows.bitsTakesSpec) :=
  OpenClaim.holds_of_wide 6 Try.f6 rfl rfl rfl rfl rfl rfl rfl ⟨rfl, rfl, rfl, rfl, rfl⟩ rfl rfl rfl rfl rfl (by kernel_rfl) Try.func6 (by kernel_rfl)
    (of_decide_eq_true (by kernel_rfl)) (by unfold Func.isWrapper; first | (rw [if_pos (by decide +kernel)]; kernel_rfl) | (rw [if_neg (by decide +kernel)]; exact ⟨rfl, rfl⟩))
    (fun os started H enc _ => lifted os started H enc)

/-- ████ THE STATEMENT ████ -/
theorem proved : Rows.BitsTakesSaid :=
  over
#print axioms proved
end Go.Proofs.Ytdekjfbaoaobeaa.bitsTakesP
