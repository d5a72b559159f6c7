/-
  BitsPlays: called with any list of addresses and any list of acts the Go function returns true, and what was there stays as it was. No condition.
-/
import Derived.Test.YtdekjfbaoaobeaaRows
import Derived.Test.YtdekjfbaoaobeaaBp
import Derived.Test.YtdekjfbaoaobeaaLift
import Derived.Deep.Slices
namespace Go.Proofs.Ytdekjfbaoaobeaa.bitsPlaysP
open Go.ChangeShapes Go.WideShapes Go.ChangeAt Go.RowKit
open Go.ChangeMaps (open_string shut_string)
set_option linter.unusedVariables false      -- a walk need not use every 'w<i>' (that an integer argument fits its kind)

theorem own : ownKnob Try.prog.godebug = none := by kernel_rfl

theorem readL_of {W : World} {a : Option Addr} {xs : List Int} (h : 0 < xs.length → ∃ (g o : Nat), a = some ⟨g, o, none⟩ ∧ g < W.heap.size ∧ ∀ i, i < xs.length → W.cell? ⟨g, o + i, none⟩ = some (.int .u64 (xs.getD i 0))) : ReadL W a xs := by
  by_cases h0 : xs = []
  · exact .inl h0
  · obtain ⟨g, o, h1, h2, h3⟩ := h (List.length_pos_iff.2 h0)
    exact .inr ⟨g, o, h1, h2, h3⟩

/-- the acts, opened -/
theorem open_acts {H : Type} {enc : TypeId × Value → H} {W : World} {base : Nat} {v : Value} {d : DataW H} {p : List MemPlace} (hv : Value.okWide Try.prog W .any base 45 v) (h : DataW.Trod enc Try.prog W 0 (fun _ => true) true 45 v d p) :
    ∃ (a : Option Addr) (len cap : Nat), v = .slice a len cap ∧ len ≤ maxLen ∧ ∃ K A : Nat → Int, ActsR W a len K A := by
  obtain ⟨a, len, cap, rfl, hlen, hx⟩ := open_fields Try.underlying45 Try.underlying51 (by kernel_rfl) (by kernel_rfl) (by decide) hv h
  refine ⟨a, len, cap, rfl, hlen, ?_⟩
  by_cases hl : 0 < len
  · obtain ⟨g, o, rfl, hg, hc⟩ := hx hl
    have each : ∀ i, i < len → ∃ q : Int × Int, W.cell? ⟨g, o + i * 2, none⟩ = some (.int .i64 q.1) ∧ W.cell? ⟨g, o + i * 2 + 1, none⟩ = some (.int .u64 q.2) := by
      intro i hi
      obtain ⟨v0, y0, n0, c0, t0⟩ := hc i hi 0 _ rfl
      obtain ⟨v1, y1, n1, c1, t1⟩ := hc i hi 1 _ rfl
      obtain ⟨a0, e0, _, _⟩ := DataW.trod_int Try.underlying3 t0
      obtain ⟨a1, e1, _, _⟩ := DataW.trod_int Try.underlying39 t1
      cases e0; cases e1
      exact ⟨(a0, a1), by simpa using c0, by simpa [Nat.add_assoc] using c1⟩
    obtain ⟨q, hq⟩ := Go.Deep.choose_lt each
    exact ⟨fun i => (q i).1, fun i => (q i).2, .inr ⟨g, o, rfl, hg, fun i hi => hq i hi⟩⟩
  · exact ⟨fun _ => 0, fun _ => 0, .inl (by omega)⟩

/-! ### THE ROW's STEP -/
set_option maxRecDepth 100000 in
theorem lifted (os : Os) (started : os.Started) (H : Type) (enc : TypeId × Value → H) :
    ReturnsInHanded {} Try.checked os 7 .any (Rows.bitsPlaysSpec.pre6 enc Try.prog Try.f7 Rows.bitsPlaysRow.domain false) (Rows.bitsPlaysSpec.post enc Try.prog Try.f7 false true false false) := by
  refine returnsInHanded_of_change (C := Try.checked) own started (by kernel_rfl) Try.func7
    (ChangeSpec.witness6 (enc := enc) (C := Try.checked) false ⟨#[], #[.slice none 0 0, .slice none 0 0], []⟩ 8 (by kernel_rfl) (by kernel_rfl) (by kernel_rfl) (by kernel_rfl)) ?_
  intro W base args ds gs before hval0 hW hcnd _
  have hval : ∀ (j : Nat) t v, Try.f7.params[j]? = some t → args[j]? = some v → Value.okWide Try.prog W .any base t v := hval0
  have hW' := hW
  obtain ⟨p, q, hA0, hV, rfl, hfz, hnd⟩ := hW
  have hA : DataW.TrodAll enc Try.prog W 0 (fun _ => true) true Try.f7.params.toList args.toList ds p := hA0
  rw [Try.params7] at hA hval
  obtain ⟨v0, vs0, d0, ds0, p0, q0, hargs, rfl, rfl, h0, r0⟩ := trodAll_cons hA
  obtain ⟨v1, vs1, d1, ds1, p1, q1, rfl, rfl, rfl, h1, r1⟩ := trodAll_cons r0
  obtain ⟨rfl, rfl, rfl⟩ := trodAll_nil r1
  obtain rfl : args = #[v0, v1] := by cases args; simp_all
  obtain ⟨rfl, rfl⟩ := trodVars_none hV
  obtain ⟨a, len, cap, L, rfl, hl, hm, _, hwf, hc⟩ := open_nums Try.underlying35 Try.underlying39 (by kernel_rfl) (hval 0 35 v0 rfl rfl) h0
  obtain ⟨a2, len2, cap2, rfl, hm2, hacts⟩ := open_acts (hval 1 45 v1 rfl rfl) h1
  obtain ⟨K, A, hAc⟩ := hacts
  subst hl
  have main : Calls Try.prog 7 #[.slice a L.length cap, .slice a2 len2 cap2] W fun e w' => e = .returned (.bool true) ∧ Below W.heap.size W w' := by
    by_cases hn : 100 < L.length ∨ 150 < len2
    · exact plays_out a a2 _ cap _ cap2 W hm hm2 hn
    · exact plays_in a a2 cap cap2 len2 L K A W (readL_of hc) hAc (by omega) (by omega)
  refine main.mono fun e W' ⟨he, hk⟩ => ?_
  subst he
  exact ⟨_, rfl, law_post (tb := 4) (by kernel_rfl) (by kernel_rfl) rfl Try.underlying4 rfl rfl hW' hA0 hk rfl⟩

theorem over : Rows.bitsPlaysRow.holds Try.pinned (OpenSpec.ofChange Rows.bitsPlaysSpec) :=
  OpenClaim.holds_of_wide 7 Try.f7 rfl rfl rfl rfl rfl rfl rfl ⟨rfl, rfl, rfl, rfl, rfl⟩ rfl rfl rfl rfl rfl (by kernel_rfl) Try.func7 (by kernel_rfl)
    (of_decide_eq_true (by kernel_rfl)) (by unfold Func.isWrapper; first | (rw [if_pos (by decide +kernel)]; kernel_rfl) | (rw [if_neg (by decide +kernel)]; exact ⟨rfl, rfl⟩))
    (fun os started H enc _ => lifted os started H enc)

/-- ████ THE STATEMENT ████ -/
theorem proved : Rows.BitsPlaysSaid :=
  over
#print axioms proved
end Go.Proofs.Ytdekjfbaoaobeaa.bitsPlaysP
