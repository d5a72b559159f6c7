/-
  FastApplies: called with any address, any node and any list of stores the Go function returns true, and what was there stays as it was. No condition.
-/
import Derived.Test.YtbpaefhihdhdeaaRows
import Derived.Test.YtbpaefhihdhdeaaAl
import Derived.Test.YtbpaefhihdhdeaaOn
import Derived.Deep.Slices
namespace Go.Proofs.Ytbpaefhihdhdeaa.fastAppliesP
open Go.ChangeShapes Go.WideShapes Go.ChangeAt Go.RowKit
open Go.ChangeMaps (open_string shut_string)
set_option linter.unusedVariables false      -- a walk need not use every 'w<i>' (that an integer argument fits its kind)

theorem own : ownKnob Try.prog.godebug = none := by kernel_rfl

set_option maxRecDepth 100000 in
/-- the stores, opened -/
theorem open_puts {H : Type} {enc : TypeId × Value → H} {W : World} {base : Nat} {v : Value} {d : DataW H} {p : List MemPlace} (hv : Value.okWide Try.prog W .any base 28 v) (h : DataW.Trod enc Try.prog W 0 (fun _ => true) true 28 v d p) :
    ∃ (a : Option Addr) (l : List (Int × Int)) (cap : Nat), v = .slice a l.length cap ∧ PutsIn W a l ∧ ∀ i, i < l.length → 0 ≤ eK l i ∧ eK l i < 18446744073709551616 := by
  obtain ⟨a, len, cap, rfl, hlen, hx⟩ := open_fields Try.underlying28 Try.underlying36 (by kernel_rfl) (by kernel_rfl) (by decide) hv h
  by_cases hl : 0 < len
  · obtain ⟨g, o, rfl, hg, hc⟩ := hx hl
    have each : ∀ i, i < len → ∃ q : Int × Int, W.cell? ⟨g, o + i * 2, none⟩ = some (.int .u64 q.1) ∧ W.cell? ⟨g, o + i * 2 + 1, none⟩ = some (.int .u64 q.2) ∧ (Lit.int .u64 q.1).wf = true := by
      intro i hi
      obtain ⟨v0, y0, n0, c0, t0⟩ := hc i hi 0 _ rfl
      obtain ⟨v1, y1, n1, c1, t1⟩ := hc i hi 1 _ rfl
      obtain ⟨a0, e0, _, w0⟩ := DataW.trod_int Try.underlying23 t0
      obtain ⟨a1, e1, _, _⟩ := DataW.trod_int Try.underlying22 t1
      cases e0; cases e1
      exact ⟨(a0, a1), by simpa using c0, by simpa [Nat.add_assoc] using c1, w0⟩
    obtain ⟨q, hq⟩ := Go.Deep.choose_lt each
    have hel : ∀ i, i < len → eK ((List.range len).map q) i = (q i).1 ∧ eP ((List.range len).map q) i = (q i).2 := fun i hi => by
      simp [eK, eP, List.getD, hi]
    refine ⟨_, (List.range len).map q, cap, by simp, fun _ => ⟨g, o, rfl, hg, fun i hi => ?_⟩, fun i hi => ?_⟩
    · have hi' : i < len := by simpa using hi
      rw [(hel i hi').1, (hel i hi').2]
      exact ⟨(hq i hi').1, (hq i hi').2.1⟩
    · have hi' : i < len := by simpa using hi
      rw [(hel i hi').1]
      have := u64_bounds (hq i hi').2.2
      omega
  · have : len = 0 := by omega
    subst this
    exact ⟨a, [], cap, rfl, fun h => absurd h (by simp), fun i hi => absurd hi (by simp)⟩

/-! ### THE ROW's STEP -/
set_option maxRecDepth 100000 in
theorem lifted (os : Os) (started : os.Started) (H : Type) (enc : TypeId × Value → H) :
    ReturnsInHanded {} Try.checked os 3 .any (Rows.fastAppliesSpec.pre6 enc Try.prog Try.f3 Rows.fastAppliesRow.domain false) (Rows.fastAppliesSpec.post enc Try.prog Try.f3 false true false false) := by
  refine returnsInHanded_of_change (C := Try.checked) own started (by kernel_rfl) Try.func3
    (ChangeSpec.witness6 (enc := enc) (C := Try.checked) false ⟨#[], #[.int .u64 0, .agg (ndCells ⟨0, 0, 0, 0, 0, fun _ => 0, fun _ => 0⟩), .slice none 0 0], []⟩ 8 (by kernel_rfl) (by kernel_rfl) (by kernel_rfl) (by kernel_rfl)) ?_
  intro W base args ds gs before hval0 hW hcnd _
  have hval : ∀ (j : Nat) t v, Try.f3.params[j]? = some t → args[j]? = some v → Value.okWide Try.prog W .any base t v := hval0
  have hW' := hW
  obtain ⟨p, q, hA0, hV, rfl, hfz, hnd⟩ := hW
  have hA : DataW.TrodAll enc Try.prog W 0 (fun _ => true) true Try.f3.params.toList args.toList ds p := hA0
  rw [Try.params3] at hA hval
  obtain ⟨v0, vs0, d0, ds0, p0, q0, hargs, rfl, rfl, h0, r0⟩ := trodAll_cons hA
  obtain ⟨v1, vs1, d1, ds1, p1, q1, rfl, rfl, rfl, h1, r1⟩ := trodAll_cons r0
  obtain ⟨v2, vs2, d2, ds2, p2, q2, rfl, rfl, rfl, h2, r2⟩ := trodAll_cons r1
  obtain ⟨rfl, rfl, rfl⟩ := trodAll_nil r2
  obtain rfl : args = #[v0, v1, v2] := by cases args; simp_all
  obtain ⟨rfl, rfl⟩ := trodVars_none hV
  obtain ⟨a0, rfl, rfl, rfl, w0⟩ := open_int Try.underlying23 (hval 0 23 v0 rfl rfl) h0
  obtain ⟨n, rfl, wn⟩ := open_node (hval 1 27 v1 rfl rfl) h1
  obtain ⟨a, l, cap, rfl, hl, hu⟩ := open_puts (hval 2 28 v2 rfl rfl) h2
  have hb := u64_bounds w0
  have main : Calls Try.prog 3 #[.int .u64 a0, .agg (ndCells n), .slice a l.length cap] W fun e w' => e = .returned (.bool true) ∧ Below W.heap.size W w' := by
    by_cases hn : 40 < l.length
    · exact applies_out a0 n a _ cap W hn
    · exact applies_in a0 hb.1 n a l cap W (by omega) hl hu
  refine main.mono fun e W' ⟨he, hk⟩ => ?_
  subst he
  exact ⟨_, rfl, law_post (tb := 4) (by kernel_rfl) (by kernel_rfl) rfl Try.underlying4 rfl rfl hW' hA0 hk rfl⟩

theorem over : Rows.fastAppliesRow.holds Try.pinned (OpenSpec.ofChange Rows.fastAppliesSpec) :=
  OpenClaim.holds_of_wide 3 Try.f3 rfl rfl rfl rfl rfl rfl rfl ⟨rfl, rfl, rfl, rfl, rfl⟩ rfl rfl rfl rfl rfl (by kernel_rfl) Try.func3 (by kernel_rfl)
    (of_decide_eq_true (by kernel_rfl)) (by unfold Func.isWrapper; first | (rw [if_pos (by decide +kernel)]; kernel_rfl) | (rw [if_neg (by decide +kernel)]; exact ⟨rfl, rfl⟩))
    (fun os started H enc _ => lifted os started H enc)

/-- ████ THE STATEMENT ████ -/
theorem proved : Rows.FastAppliesSaid :=
  over
#print axioms proved
end Go.Proofs.Ytbpaefhihdhdeaa.fastAppliesP
