/-
  LinearSpoilt: called with any calls and any number, in whatever memory, the Go function returns true, and what was there stays as it was. No condition.
-/
import Derived.Test.YtdmcakoaakinnaaRows
import Derived.Test.YtdmcakoaakinnaaLsf
import Derived.Test.YtdmcakoaakinnaaLrf
import Derived.SizedLaws
import Derived.Test.YtdmcakoaakinnaaLift
import Derived.Deep.Slices
namespace Go.Proofs.Ytdmcakoaakinnaa.linearSpoiltP
open Go.ChangeShapes Go.WideShapes Go.ChangeAt Go.RowKit
open Go.ChangeMaps (open_string shut_string)
set_option linter.unusedVariables false

theorem own : ownKnob Try.prog.godebug = none := by kernel_rfl

def CaG (c : Dn) : Prop := U64P c.key ∧ c.val.size ≤ maxLen
theorem open_ca {H : Type} {enc : TypeId × Value → H} {w : World} {base : Nat} {spare : Nat → Bool} {held : Bool} (n : Nat) (cs : List Value) (x : DataW H × List MemPlace) (hl : cs.length = 5) (h : DataW.trod enc Try.prog w base spare held n 41 cs = some x) (hz : SzD Try.prog 41 x.1) : ∃ q : Dn, cs = (caCells q).toList ∧ CaG q := by
  obtain ⟨xs, m, _, _, _, hxl, hx⟩ := DataW.trod_struct Try.underlying41 h
  have hs : ∀ i, i < 5 → xs[i]? ≠ none := fun i hi => by
    have : i < xs.length := by rw [hxl]; exact hi
    rw [List.getElem?_eq_getElem this]; simp
  obtain ⟨op, e1, w1⟩ := at_int Try.underlying39 (by kernel_rfl) (hs 0 (by omega)) (hx 0 _ rfl)
  obtain ⟨key, e2, w2⟩ := at_int Try.underlying24 (by kernel_rfl) (hs 1 (by omega)) (hx 1 _ rfl)
  obtain ⟨hi, e3, w3⟩ := at_int Try.underlying24 (by kernel_rfl) (hs 2 (by omega)) (hx 2 _ rfl)
  obtain ⟨lim, e4, w4⟩ := at_int Try.underlying3 (by kernel_rfl) (hs 3 (by omega)) (hx 3 _ rfl)
  obtain ⟨val, e5, w5⟩ := at_str Try.underlying9 (by kernel_rfl) (hs 4 (by omega)) (hx 4 _ rfl)
  refine ⟨⟨0, op, key, hi, lim, val, 0, 0, 0, ⟨#[]⟩, none, 0, []⟩, list_ext_lt (by rw [hl]; rfl) (fun j hj => ?_), u64_bounds w2, w5⟩
  match j, hj with
  | 0, _ => exact e1
  | 1, _ => exact e2
  | 2, _ => exact e3
  | 3, _ => exact e4
  | 4, _ => exact e5

/-! ### THE ROW's STEP -/
set_option maxRecDepth 100000 in
theorem lifted (os : Os) (started : os.Started) (H : Type) (enc : TypeId × Value → H) :
    ReturnsInHanded {} Try.checked os 4 .any (Rows.linearSpoiltSpec.pre6 enc Try.prog Try.f4 Rows.linearSpoiltRow.domain false) (Rows.linearSpoiltSpec.post enc Try.prog Try.f4 false true false false) := by
  refine returnsInHanded_of_change_sized (C := Try.checked) own started (by kernel_rfl) Try.func4
    (ChangeSpec.witness6 (enc := enc) (C := Try.checked) false ⟨#[], #[.slice none 0 0, .int .i64 0], []⟩ 8 (by kernel_rfl) (by kernel_rfl) (by kernel_rfl) (by kernel_rfl)) ?_
  intro W base args ds gs before hval0 hW hcnd hsz _
  have hval : ∀ (j : Nat) t v, Try.f4.params[j]? = some t → args[j]? = some v → Value.okWide Try.prog W .any base t v := hval0
  have hW' := hW
  obtain ⟨p, q, hA0, hV, rfl, hfz, hnd⟩ := hW
  have hA : DataW.TrodAll enc Try.prog W 0 (fun _ => true) true Try.f4.params.toList args.toList ds p := hA0
  rw [Try.params4] at hA hval
  obtain ⟨v0, vs0, d0, ds0, p0, q0, hargs, rfl, rfl, h0, r0⟩ := trodAll_cons hA
  obtain ⟨v1, vs1, d1, ds1, p1, q1, rfl, rfl, rfl, h1, r1⟩ := trodAll_cons r0
  obtain ⟨rfl, rfl, rfl⟩ := trodAll_nil r1
  obtain rfl : args = #[v0, v1] := by cases args; simp_all
  obtain ⟨rfl, rfl⟩ := trodVars_none hV
  have hsd : SzD Try.prog 33 d0 := fun n hn => by
    have h := List.all_eq_true.1 hsz n (DataW.weights_mem_each (j := 0) (t := 33) (d := d0) rfl rfl n hn)
    simpa using h
  obtain ⟨a0, n0, c0, rfl⟩ := okWide_slice Try.underlying33 (hval 0 33 v0 rfl rfl)
  obtain ⟨x, rfl, rfl, rfl, w1⟩ := open_int Try.underlying3 (hval 1 3 v1 rfl rfl) h1
  obtain ⟨f0, hf0⟩ := h0
  obtain ⟨b0, e0, l, hv0, hE, hEg, hEl⟩ := open_row caCells dnZ CaG 5 48 (by decide) Try.underlying33 (by kernel_rfl) (by kernel_rfl) open_ca hf0 hsd
  rw [hv0] at hW' hA0 ⊢
  have hr : reachBytes ≤ 140737488355328 := Nat.le_of_lt reachBytes_lt
  have main := spoilt_v l x b0 e0 W (by omega) (i64_bounds w1) (fun c hc => (hEg c hc).1) (fun c hc => (hEg c hc).2) hE

  refine main.mono fun e W' ⟨he, hk⟩ => ?_
  subst he
  exact ⟨_, rfl, law_post (tb := 4) (by kernel_rfl) (by kernel_rfl) rfl Try.underlying4 rfl rfl hW' hA0 hk rfl⟩

theorem over : Rows.linearSpoiltRow.holds Try.pinned (OpenSpec.ofChange Rows.linearSpoiltSpec) :=
  OpenClaim.holds_of_wide 4 Try.f4 rfl rfl rfl rfl rfl rfl rfl ⟨rfl, rfl, rfl, rfl, rfl⟩ rfl rfl rfl rfl rfl (by kernel_rfl) Try.func4 (by kernel_rfl)
    (of_decide_eq_true (by kernel_rfl)) (by unfold Func.isWrapper; first | (rw [if_pos (by decide +kernel)]; kernel_rfl) | (rw [if_neg (by decide +kernel)]; exact ⟨rfl, rfl⟩))
    (fun os started H enc _ => lifted os started H enc)

/-- ████ THE STATEMENT ████ -/
theorem proved : Rows.LinearSpoiltSaid :=
  over
#print axioms proved
end Go.Proofs.Ytdmcakoaakinnaa.linearSpoiltP
