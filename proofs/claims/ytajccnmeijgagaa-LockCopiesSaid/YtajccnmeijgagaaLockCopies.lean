/-
  LockCopies: called with any number of clients and any three lists of calls the Go function returns true, and what was there stays as it was. No condition.
-/
import Derived.Test.YtajccnmeijgagaaRows
import Derived.Test.YtajccnmeijgagaaLc
import Derived.Test.YtajccnmeijgagaaOac
import Derived.Test.YtajccnmeijgagaaLift
import Derived.WalkKit
import Derived.ProofKit
import Derived.OpenShut
import Derived.ShutString
import Derived.Deep.Slices
import Derived.Deep.Fields
import Derived.ChangeSame
namespace Go.Proofs.Ytajccnmeijgagaa.lockCopiesP
open Go.ChangeShapes Go.WideShapes Go.ChangeAt Go.RowKit
open Go.ChangeMaps (open_string shut_string)
set_option linter.unusedVariables false      -- a walk need not use every 'w<i>' (that an integer argument fits its kind)

theorem own : ownKnob Try.prog.godebug = none := by kernel_rfl

/-! ### THE ROW's STEP -/
set_option maxRecDepth 100000 in
theorem lifted (os : Os) (started : os.Started) (H : Type) (enc : TypeId × Value → H) :
    ReturnsInHanded {} Try.checked os 6 .any (Rows.lockCopiesSpec.pre6 enc Try.prog Try.f6 Rows.lockCopiesRow.domain false) (Rows.lockCopiesSpec.post enc Try.prog Try.f6 false true false false) := by
  refine returnsInHanded_of_change (C := Try.checked) own started (by kernel_rfl) Try.func6
    (ChangeSpec.witness6 (enc := enc) (C := Try.checked) false ⟨#[], #[.int .i64 0, .slice none 0 0, .slice none 0 0, .slice none 0 0], []⟩ 8 (by kernel_rfl) (by kernel_rfl) (by kernel_rfl) (by kernel_rfl)) ?_
  intro W base args ds gs before hval0 hW hcnd _
  have hval : ∀ (j : Nat) t v, Try.f6.params[j]? = some t → args[j]? = some v → Value.okWide Try.prog W .any base t v := hval0
  have hW' := hW
  obtain ⟨p, q, hA0, hV, rfl, hfz, hnd⟩ := hW
  have hA : DataW.TrodAll enc Try.prog W 0 (fun _ => true) true Try.f6.params.toList args.toList ds p := hA0
  rw [Try.params6] at hA hval
  obtain ⟨v0, vs0, d0, ds0, p0, q0, hargs, rfl, rfl, h0, r0⟩ := trodAll_cons hA
  obtain ⟨v1, vs1, d1, ds1, p1, q1, rfl, rfl, rfl, h1, r1⟩ := trodAll_cons r0
  obtain ⟨v2, vs2, d2, ds2, p2, q2, rfl, rfl, rfl, h2, r2⟩ := trodAll_cons r1
  obtain ⟨v3, vs3, d3, ds3, p3, q3, rfl, rfl, rfl, h3, r3⟩ := trodAll_cons r2
  obtain ⟨rfl, rfl, rfl⟩ := trodAll_nil r3
  obtain rfl : args = #[v0, v1, v2, v3] := by cases args; simp_all
  obtain ⟨rfl, rfl⟩ := trodVars_none hV
  obtain ⟨a0, rfl, rfl, rfl, w0⟩ := open_int Try.underlying3 (hval 0 3 v0 rfl rfl) h0
  obtain ⟨a1, n1, c1, rfl, hl1, hx1⟩ := open_acts (hval 1 32 _ rfl rfl) h1
  obtain ⟨a2, n2, c2, rfl, hl2, hx2⟩ := open_acts (hval 2 32 _ rfl rfl) h2
  obtain ⟨a3, n3, c3, rfl, hl3, hx3⟩ := open_acts (hval 3 32 _ rfl rfl) h3
  have main : Calls Try.prog 6 #[.int .i64 a0, .slice a1 n1 c1, .slice a2 n2 c2, .slice a3 n3 c3] W fun e w' => e = .returned (.bool true) ∧ Keeps NoB W w' := by
    by_cases hc : 60 < n1 ∨ 20 < n2 ∨ 20 < n3 ∨ a0 < 1 ∨ 8 < a0
    · exact copies_no a0 a1 a2 a3 n1 n2 n3 c1 c2 c3 W hc hl1 hl2 hl3
    · obtain ⟨n, rfl⟩ : ∃ n : Nat, (n : Int) = a0 := ⟨a0.toNat, by omega⟩
      have each : ∀ (a : Option Addr) (len : Nat), (0 < len → ∃ (g o : Nat) (l : List (Int × Int × Int)), a = some ⟨g, o, none⟩ ∧ l.length = len ∧ g < W.heap.size ∧ ActsAt W g o l) → ∃ (g o : Nat) (l : List (Int × Int × Int)), l.length = len ∧ (0 < l.length → a = some ⟨g, o, none⟩ ∧ g < W.heap.size ∧ ActsAt W g o l) := by
        intro a len hx
        by_cases hl0 : 0 < len
        · obtain ⟨g, o, l, e1, e2, e3, e4⟩ := hx hl0
          exact ⟨g, o, l, e2, fun _ => ⟨e1, e3, e4⟩⟩
        · exact ⟨0, 0, [], by simp; omega, fun h => by cases h⟩
      obtain ⟨g1, o1, l1, rfl, y1⟩ := each a1 n1 hx1
      obtain ⟨g2, o2, l2, rfl, y2⟩ := each a2 n2 hx2
      obtain ⟨g3, o3, l3, rfl, y3⟩ := each a3 n3 hx3
      exact copies_in n l1 l2 l3 a1 a2 a3 c1 c2 c3 g1 g2 g3 o1 o2 o3 W (by omega) (by omega) (by omega) (by omega) (by omega) y1 y2 y3
  refine main.mono fun e W' ⟨he, hk⟩ => ?_
  subst he
  exact ⟨_, rfl, law_post (tb := 4) (by kernel_rfl) (by kernel_rfl) rfl Try.underlying4 rfl rfl hW' hA0 hk.below rfl⟩

theorem over : Rows.lockCopiesRow.holds Try.pinned (OpenSpec.ofChange Rows.lockCopiesSpec) :=
  OpenClaim.holds_of_wide 6 Try.f6 rfl rfl rfl rfl rfl rfl rfl ⟨rfl, rfl, rfl, rfl, rfl⟩ rfl rfl rfl rfl rfl (by kernel_rfl) Try.func6 (by kernel_rfl)
    (of_decide_eq_true (by kernel_rfl)) (by unfold Func.isWrapper; first | (rw [if_pos (by decide +kernel)]; kernel_rfl) | (rw [if_neg (by decide +kernel)]; exact ⟨rfl, rfl⟩))
    (fun os started H enc _ => lifted os started H enc)

/-- ████ THE STATEMENT ████ -/
theorem proved : Rows.LockCopiesSaid :=
  over
#print axioms proved
end Go.Proofs.Ytajccnmeijgagaa.lockCopiesP
