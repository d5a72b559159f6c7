/-
  LockOne: called with any number of clients and any list of calls the Go function returns true, and what was there stays as it was. No condition.
-/
import Derived.Test.YtajccnmeijgagaaRows
import Derived.Test.YtajccnmeijgagaaLo
import Derived.Test.YtajccnmeijgagaaLift
import Derived.WalkKit
import Derived.ProofKit
import Derived.OpenShut
import Derived.ShutString
import Derived.Deep.Slices
import Derived.Deep.Fields
import Derived.ChangeSame
namespace Go.Proofs.Ytajccnmeijgagaa.lockOneP
open Go.ChangeShapes Go.WideShapes Go.ChangeAt Go.RowKit
open Go.ChangeMaps (open_string shut_string)
set_option linter.unusedVariables false      -- a walk need not use every 'w<i>' (that an integer argument fits its kind)

theorem own : ownKnob Try.prog.godebug = none := by kernel_rfl

/-- the acts, opened -/
theorem open_acts {H : Type} {enc : TypeId × Value → H} {W : World} {base : Nat} {v : Value} {d : DataW H} {p : List MemPlace} (hv : Value.okWide Try.prog W .any base 32 v) (h : DataW.Trod enc Try.prog W 0 (fun _ => true) true 32 v d p) :
    ∃ (a : Option Addr) (len cap : Nat), v = .slice a len cap ∧ len ≤ maxLen ∧ (0 < len → ∃ (g o : Nat) (l : List (Int × Int × Int)), a = some ⟨g, o, none⟩ ∧ l.length = len ∧ g < W.heap.size ∧ ActsAt W g o l) := by
  obtain ⟨a, len, cap, rfl, hlen, hx⟩ := open_fields Try.underlying32 Try.underlying34 (by kernel_rfl) (by kernel_rfl) (by decide) hv h
  refine ⟨a, len, cap, rfl, hlen, fun hl => ?_⟩
  obtain ⟨g, o, rfl, hg, hc⟩ := hx hl
  have each : ∀ i, i < len → ∃ q : Int × Int × Int, W.cell? ⟨g, o + i * 3, none⟩ = some (.int .i64 q.1) ∧ W.cell? ⟨g, o + i * 3 + 1, none⟩ = some (.int .i64 q.2.1) ∧ W.cell? ⟨g, o + i * 3 + 2, none⟩ = some (.int .u64 q.2.2) ∧ (Lit.int .u64 q.2.2).wf = true := by
    intro i hi
    obtain ⟨v0, y0, n0, c0, t0⟩ := hc i hi 0 _ rfl
    obtain ⟨v1, y1, n1, c1, t1⟩ := hc i hi 1 _ rfl
    obtain ⟨v2, y2, n2, c2, t2⟩ := hc i hi 2 _ rfl
    obtain ⟨a0, e0, _, _⟩ := DataW.trod_int Try.underlying3 t0
    obtain ⟨a1, e1, _, _⟩ := DataW.trod_int Try.underlying3 t1
    obtain ⟨a2, e2, _, w2⟩ := DataW.trod_int Try.underlying29 t2
    cases e0; cases e1; cases e2
    exact ⟨(a0, a1, a2), by simpa using c0, by simpa [Nat.add_assoc] using c1, by simpa [Nat.add_assoc] using c2, w2⟩
  obtain ⟨q, hq⟩ := Go.Deep.choose_lt each
  refine ⟨g, o, (List.range len).map q, rfl, by simp, hg, fun i hi => ?_⟩
  have hi' : i < len := by simpa using hi
  have := hq i hi'
  rw [show ((List.range len).map q).getD i (0, 0, 0) = q i by simp [hi']]
  exact this

/-! ### THE ROW's STEP -/
set_option maxRecDepth 100000 in
theorem lifted (os : Os) (started : os.Started) (H : Type) (enc : TypeId × Value → H) :
    ReturnsInHanded {} Try.checked os 4 .any (Rows.lockOneSpec.pre6 enc Try.prog Try.f4 Rows.lockOneRow.domain false) (Rows.lockOneSpec.post enc Try.prog Try.f4 false true false false) := by
  refine returnsInHanded_of_change (C := Try.checked) own started (by kernel_rfl) Try.func4
    (ChangeSpec.witness6 (enc := enc) (C := Try.checked) false ⟨#[], #[.int .i64 0, .slice none 0 0], []⟩ 8 (by kernel_rfl) (by kernel_rfl) (by kernel_rfl) (by kernel_rfl)) ?_
  intro W base args ds gs before hval0 hW hcnd _
  have hval : ∀ (j : Nat) t v, Try.f4.params[j]? = some t → args[j]? = some v → Value.okWide Try.prog W .any base t v := hval0
  have hW' := hW
  obtain ⟨p, q, hA0, hV, rfl, hfz, hnd⟩ := hW
  have hA : DataW.TrodAll enc Try.prog W 0 (fun _ => true) true Try.f4.params.toList args.toList ds p := hA0
  rw [Try.params4] at hA hval
  obtain ⟨v0, vs0, d0, ds0, p0, q0, hargs, rfl, rfl, h0, r0⟩ := trodAll_cons hA
  obtain ⟨v1, vs1, d1, ds1, p1, q1, rfl, rfl, rfl, h1, r1⟩ := trodAll_cons r0
  obtain ⟨rfl, rfl, rfl⟩ := trodAll_nil r1
  obtain rfl : args = #[v0, v1] := by cases args; simp_all
  obtain ⟨rfl, rfl⟩ := trodVars_none hV
  obtain ⟨a0, rfl, rfl, rfl, w0⟩ := open_int Try.underlying3 (hval 0 3 v0 rfl rfl) h0
  obtain ⟨a, len, cap, rfl, hlen, hacts⟩ := open_acts (hval 1 32 _ rfl rfl) h1
  have main : Calls Try.prog 4 #[.int .i64 a0, .slice a len cap] W fun e w' => e = .returned (.bool true) ∧ Keeps NoB W w' := by
    by_cases hc : 100 < len ∨ 8 < a0 ∨ a0 < 1
    · exact one_out a0 a len cap W hc hlen
    · by_cases hl0 : 0 < len
      · obtain ⟨g, o, l, rfl, rfl, hg, hat⟩ := hacts hl0
        exact one_in a0 l _ cap g o W (by omega) (by omega) (by omega) (fun _ => ⟨rfl, hg, hat⟩)
      · obtain rfl : len = 0 := by omega
        exact one_in a0 [] a cap 0 0 W (by omega) (by omega) (by simp) (fun h => by cases h)
  refine main.mono fun e W' ⟨he, hk⟩ => ?_
  subst he
  exact ⟨_, rfl, law_post (tb := 4) (by kernel_rfl) (by kernel_rfl) rfl Try.underlying4 rfl rfl hW' hA0 hk.below rfl⟩

theorem over : Rows.lockOneRow.holds Try.pinned (OpenSpec.ofChange Rows.lockOneSpec) :=
  OpenClaim.holds_of_wide 4 Try.f4 rfl rfl rfl rfl rfl rfl rfl ⟨rfl, rfl, rfl, rfl, rfl⟩ rfl rfl rfl rfl rfl (by kernel_rfl) Try.func4 (by kernel_rfl)
    (of_decide_eq_true (by kernel_rfl)) (by unfold Func.isWrapper; first | (rw [if_pos (by decide +kernel)]; kernel_rfl) | (rw [if_neg (by decide +kernel)]; exact ⟨rfl, rfl⟩))
    (fun os started H enc _ => lifted os started H enc)

/-- ████ THE STATEMENT ████ -/
theorem proved : Rows.LockOneSaid :=
  over
#print axioms proved
end Go.Proofs.Ytajccnmeijgagaa.lockOneP
