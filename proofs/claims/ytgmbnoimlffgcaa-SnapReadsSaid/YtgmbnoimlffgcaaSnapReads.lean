/-
  SnapReads: called with any list of stores and any address the Go function returns true, and what was there stays as it was. No condition.
-/
import Derived.Test.YtgmbnoimlffgcaaRows
import Derived.Test.YtgmbnoimlffgcaaSnq
import Derived.Test.YtgmbnoimlffgcaaWn
import Derived.Deep.Slices
namespace Go.Proofs.Ytgmbnoimlffgcaa.snapReadsP
open Go.ChangeShapes Go.WideShapes Go.ChangeAt Go.RowKit
open Go.ChangeMaps (open_string shut_string)
set_option linter.unusedVariables false

theorem own : ownKnob Try.prog.godebug = none := by kernel_rfl

set_option maxRecDepth 100000 in
/-- the stores, opened -/
theorem open_puts {H : Type} {enc : TypeId × Value → H} {W : World} {base : Nat} {v : Value} {d : DataW H} {p : List MemPlace} (hv : Value.okWide Try.prog W .any base 22 v) (h : DataW.Trod enc Try.prog W 0 (fun _ => true) true 22 v d p) :
    ∃ (a : Option Addr) (l : List (Int × Int)) (cap : Nat), v = .slice a l.length cap ∧ l.length ≤ maxLen ∧ PutsIn W a l ∧ ∀ i, i < l.length → (0 ≤ eK l i ∧ eK l i < 18446744073709551616) ∧ 0 ≤ eP l i ∧ eP l i ≤ 18446744073709551615 := by
  obtain ⟨a, len, cap, rfl, hlen, hx⟩ := open_fields Try.underlying22 Try.underlying32 (by kernel_rfl) (by kernel_rfl) (by decide) hv h
  by_cases hl : 0 < len
  · obtain ⟨g, o, rfl, hg, hc⟩ := hx hl
    have each : ∀ i, i < len → ∃ q : Int × Int, W.cell? ⟨g, o + i * 2, none⟩ = some (.int .u64 q.1) ∧ W.cell? ⟨g, o + i * 2 + 1, none⟩ = some (.int .u64 q.2) ∧ (Lit.int .u64 q.1).wf = true ∧ (Lit.int .u64 q.2).wf = true := by
      intro i hi
      obtain ⟨v0, y0, n0, c0, t0⟩ := hc i hi 0 _ rfl
      obtain ⟨v1, y1, n1, c1, t1⟩ := hc i hi 1 _ rfl
      obtain ⟨a0, e0, _, w0⟩ := DataW.trod_int Try.underlying24 t0
      obtain ⟨a1, e1, _, w1⟩ := DataW.trod_int Try.underlying23 t1
      cases e0; cases e1
      exact ⟨(a0, a1), by simpa using c0, by simpa [Nat.add_assoc] using c1, w0, w1⟩
    obtain ⟨q, hq⟩ := Go.Deep.choose_lt each
    have hel : ∀ i, i < len → eK ((List.range len).map q) i = (q i).1 ∧ eP ((List.range len).map q) i = (q i).2 := fun i hi => by
      simp [eK, eP, List.getD, hi]
    refine ⟨_, (List.range len).map q, cap, by simp, by simpa using hlen, fun _ => ⟨g, o, rfl, hg, fun i hi => ?_⟩, fun i hi => ?_⟩
    · have hi' : i < len := by simpa using hi
      rw [(hel i hi').1, (hel i hi').2]
      exact ⟨(hq i hi').1, (hq i hi').2.1⟩
    · have hi' : i < len := by simpa using hi
      rw [(hel i hi').1, (hel i hi').2]
      have h1 := u64_bounds (hq i hi').2.2.1
      have h2 := u64_bounds (hq i hi').2.2.2
      omega
  · have : len = 0 := by omega
    subst this
    exact ⟨a, [], cap, rfl, by simp, fun h => absurd h (by simp), fun i hi => absurd hi (by simp)⟩

/-! ### THE ROW's STEP -/
set_option maxRecDepth 100000 in
theorem lifted (os : Os) (started : os.Started) (H : Type) (enc : TypeId × Value → H) :
    ReturnsInHanded {} Try.checked os 3 .any (Rows.snapReadsSpec.pre6 enc Try.prog Try.f3 Rows.snapReadsRow.domain false) (Rows.snapReadsSpec.post enc Try.prog Try.f3 false true false false) := by
  refine returnsInHanded_of_change (C := Try.checked) own started (by kernel_rfl) Try.func3
    (ChangeSpec.witness6 (enc := enc) (C := Try.checked) false ⟨#[], #[.slice none 0 0, .int .u64 0], []⟩ 8 (by kernel_rfl) (by kernel_rfl) (by kernel_rfl) (by kernel_rfl)) ?_
  intro W base args ds gs before hval0 hW hcnd _
  have hval : ∀ (j : Nat) t v, Try.f3.params[j]? = some t → args[j]? = some v → Value.okWide Try.prog W .any base t v := hval0
  have hW' := hW
  obtain ⟨p, q, hA0, hV, rfl, hfz, hnd⟩ := hW
  have hA : DataW.TrodAll enc Try.prog W 0 (fun _ => true) true Try.f3.params.toList args.toList ds p := hA0
  rw [Try.params3] at hA hval
  obtain ⟨v0, vs0, d0, ds0, p0, q0, hargs, rfl, rfl, h0, r0⟩ := trodAll_cons hA
  obtain ⟨v1, vs1, d1, ds1, p1, q1, rfl, rfl, rfl, h1, r1⟩ := trodAll_cons r0
  obtain ⟨rfl, rfl, rfl⟩ := trodAll_nil r1
  obtain rfl : args = #[v0, v1] := by cases args; simp_all
  obtain ⟨rfl, rfl⟩ := trodVars_none hV
  obtain ⟨a, l, cap, rfl, hm, hl, hu⟩ := open_puts (hval 0 22 v0 rfl rfl) h0
  obtain ⟨a1, rfl, rfl, rfl, w1⟩ := open_int Try.underlying24 (hval 1 24 v1 rfl rfl) h1
  have hb := u64_bounds w1
  have main : Calls Try.prog 3 #[.slice a l.length cap, .int .u64 a1] W fun e w' => e = .returned (.bool true) ∧ Below W.heap.size W w' := by
    by_cases hn : 40 < l.length
    · exact sreads_out a _ cap a1 W hn hm
    · exact sreads_in a l cap a1 hb.1 (by omega) W (by omega) hl hu
  refine main.mono fun e W' ⟨he, hk⟩ => ?_
  subst he
  exact ⟨_, rfl, law_post (tb := 4) (by kernel_rfl) (by kernel_rfl) rfl Try.underlying4 rfl rfl hW' hA0 hk rfl⟩

theorem over : Rows.snapReadsRow.holds Try.pinned (OpenSpec.ofChange Rows.snapReadsSpec) :=
  OpenClaim.holds_of_wide 3 Try.f3 rfl rfl rfl rfl rfl rfl rfl ⟨rfl, rfl, rfl, rfl, rfl⟩ rfl rfl rfl rfl rfl (by kernel_rfl) Try.func3 (by kernel_rfl)
    (of_decide_eq_true (by kernel_rfl)) (by unfold Func.isWrapper; first | (rw [if_pos (by decide +kernel)]; kernel_rfl) | (rw [if_neg (by decide +kernel)]; exact ⟨rfl, rfl⟩))
    (fun os started H enc _ => lifted os started H enc)

/-- ████ THE STATEMENT ████ -/
theorem proved : Rows.SnapReadsSaid :=
  over
#print axioms proved
end Go.Proofs.Ytgmbnoimlffgcaa.snapReadsP
