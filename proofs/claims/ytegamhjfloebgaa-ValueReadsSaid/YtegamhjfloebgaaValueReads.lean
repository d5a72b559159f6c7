/-
  ValueReads: called with any bytes and any address the Go function returns true, and what was there stays as it was. No condition.
-/
import Derived.Test.YtegamhjfloebgaaRows
import Derived.Test.YtegamhjfloebgaaVr
import Derived.SizedLaws
import Derived.Test.YtegamhjfloebgaaLift
namespace Go.Proofs.Ytegamhjfloebgaa.valueReadsP
open Go.ChangeShapes Go.WideShapes Go.ChangeAt Go.RowKit
open Go.ChangeMaps (open_string shut_string)
set_option linter.unusedVariables false      -- a walk need not use every 'w<i>' (that an integer argument fits its kind)

theorem own : ownKnob Try.prog.godebug = none := by kernel_rfl

theorem open_nums_d {H : Type} {enc : TypeId × Value → H} {P : Program} {W : World} {base : Nat} {v : Value} {d : DataW H} {p : List MemPlace} {t e : TypeId} {k : IntKind} (ht : P.underlying t = some (.slice e)) (he : P.underlying e = some (.int k)) (hC : P.cellsOf e = 1)
    (hv : Value.okWide P W .any base t v) (h : DataW.Trod enc P W 0 (fun _ => true) true t v d p) :
    ∃ (a : Option Addr) (len cap : Nat) (xs : List Int), v = .slice a len cap ∧ xs.length = len ∧ len ≤ maxLen ∧ len ≤ cap ∧ (∀ x ∈ xs, (Lit.int k x).wf = true) ∧ (0 < len → ∃ (g o : Nat), a = some ⟨g, o, none⟩ ∧ g < W.heap.size ∧
      ∀ i, i < len → W.cell? ⟨g, o + i, none⟩ = some (.int k (xs.getD i 0))) ∧ (len = 0 ∨ ∃ el sp, d = .slice el sp ∧ el.length = len) := by
  obtain ⟨a, len, cap, xs, rfl, h1, h2, h3, h4, h5⟩ := open_nums ht he hC hv h
  refine ⟨a, len, cap, xs, rfl, h1, h2, h3, h4, h5, ?_⟩
  obtain ⟨fuel, hf⟩ := h
  rcases open_ints (x := (d, p)) ht he hC hf with ⟨hcs, _⟩ | ⟨a', len', cap', zs, hcs, _, hl, hm, hlen, hx, hc, hw⟩
  · cases hcs; exact .inl rfl
  · have e1 := (List.cons.inj hcs).1
    obtain ⟨rfl, rfl, rfl⟩ : a = some a' ∧ len = len' ∧ cap = cap' := ⟨(Value.slice.inj e1).1, (Value.slice.inj e1).2.1, (Value.slice.inj e1).2.2⟩
    refine .inr ⟨_, _, (Prod.mk.inj hx).1, ?_⟩
    have hlz : len ≤ zs.length := by rw [hlen]; simp; exact hl
    simp [lits]; omega

/-! ### THE ROW's STEP -/
set_option maxRecDepth 100000 in
theorem lifted (os : Os) (started : os.Started) (H : Type) (enc : TypeId × Value → H) :
    ReturnsInHanded {} Try.checked os 5 .any (Rows.valueReadsSpec.pre6 enc Try.prog Try.f5 Rows.valueReadsRow.domain false) (Rows.valueReadsSpec.post enc Try.prog Try.f5 false true false false) := by
  refine returnsInHanded_of_change_sized (C := Try.checked) own started (by kernel_rfl) Try.func5
    (ChangeSpec.witness6 (enc := enc) (C := Try.checked) false ⟨#[], #[.slice none 0 0, .int .u64 0], []⟩ 8 (by kernel_rfl) (by kernel_rfl) (by kernel_rfl) (by kernel_rfl)) ?_
  intro W base args ds gs before hval0 hW hcnd hsz _
  have hval : ∀ (j : Nat) t v, Try.f5.params[j]? = some t → args[j]? = some v → Value.okWide Try.prog W .any base t v := hval0
  have hW' := hW
  obtain ⟨p, q, hA0, hV, rfl, hfz, hnd⟩ := hW
  have hA : DataW.TrodAll enc Try.prog W 0 (fun _ => true) true Try.f5.params.toList args.toList ds p := hA0
  rw [Try.params5] at hA hval
  obtain ⟨v0, vs0, d0, ds0, p0, q0, hargs, rfl, rfl, h0, r0⟩ := trodAll_cons hA
  obtain ⟨v1, vs1, d1, ds1, p1, q1, rfl, rfl, rfl, h1, r1⟩ := trodAll_cons r0
  obtain ⟨rfl, rfl, rfl⟩ := trodAll_nil r1
  obtain rfl : args = #[v0, v1] := by cases args; simp_all
  obtain ⟨rfl, rfl⟩ := trodVars_none hV
  obtain ⟨a, len, cap, xs, rfl, hl, hm, _, hwf, hc, hd⟩ := open_nums_d Try.underlying48 Try.underlying5 (by kernel_rfl) (hval 0 48 v0 rfl rfl) h0
  obtain ⟨x, rfl, rfl, rfl, w1⟩ := open_int Try.underlying23 (hval 1 23 v1 rfl rfl) h1
  have b1 := u64_bounds w1
  have h47 : len < 140737488355328 := by
    rcases hd with h | ⟨el, sp, rfl, he⟩
    · omega
    · have h1 := sized_slice (j := 0) (t := 48) (e := 5) hsz rfl rfl Try.underlying48
      have h2 : Try.checked.prog.bytesOf 5 = 1 := by kernel_rfl
      rw [h2] at h1
      have h3 := reachBytes_lt
      have h4 : (2 : Nat) ^ 47 = 140737488355328 := by decide
      omega
  subst hl
  obtain ⟨L, hLl, hL⟩ := bytes_of hwf hc
  rw [← hLl] at hm hW' hA0 h47 ⊢
  have main : Calls Try.prog 5 #[.slice a L.length cap, .int .u64 x] W fun e w' => e = .returned (.bool true) ∧ Below W.heap.size W w' := by
    by_cases hmy : mayB L.length = true
    · by_cases h5 : 512 < L.length
      · exact vreads_big L a cap x W hL h47 hmy h5
      · exact vreads_in L a cap x W hL h47 hmy (by omega) b1.1 b1.2
    · exact vreads_no L a cap x W hL h47 (by simpa using hmy)
  refine main.mono fun e W' ⟨he, hk⟩ => ?_
  subst he
  exact ⟨_, rfl, law_post (tb := 4) (by kernel_rfl) (by kernel_rfl) rfl Try.underlying4 rfl rfl hW' hA0 hk rfl⟩

theorem over : Rows.valueReadsRow.holds Try.pinned (OpenSpec.ofChange Rows.valueReadsSpec) :=
  OpenClaim.holds_of_wide 5 Try.f5 rfl rfl rfl rfl rfl rfl rfl ⟨rfl, rfl, rfl, rfl, rfl⟩ rfl rfl rfl rfl rfl (by kernel_rfl) Try.func5 (by kernel_rfl)
    (of_decide_eq_true (by kernel_rfl)) (by unfold Func.isWrapper; first | (rw [if_pos (by decide +kernel)]; kernel_rfl) | (rw [if_neg (by decide +kernel)]; exact ⟨rfl, rfl⟩))
    (fun os started H enc _ => lifted os started H enc)

/-- ████ THE STATEMENT ████ -/
theorem proved : Rows.ValueReadsSaid :=
  over
#print axioms proved
end Go.Proofs.Ytegamhjfloebgaa.valueReadsP
