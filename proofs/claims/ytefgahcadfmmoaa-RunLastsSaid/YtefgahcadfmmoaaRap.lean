/-
  leveelaw10.apart: a contract.
-/
import Derived.Test.YtefgahcadfmmoaaRww
import Derived.Test.YtefgahcadfmmoaaRcm
namespace Go.Proofs.Ytefgahcadfmmoaa
open Go.RowKit
attribute [local go_sem] Oper.semAt_some
set_option linter.unusedVariables false

/-- where a group begins -/
def GrB (l : List (Int × Int)) (r : Nat) : Prop := r = 0 ∨ (0 < r ∧ eK l r / 64 ≠ eK l (r - 1) / 64)
def IntB (B : Nat) (xs : List Int) (v : Value) (W : World) : Prop := W.ownsRow B 3 1 v xs.length (xs.map (Value.int .i64))
theorem Try.infoI : (Try.prog.info? 3).map (fun i => (i.zero, i.size, i.bytes)) = some (some (.int .i64 0), 1, 8) := by kernel_rfl
set_option maxRecDepth 100000 in
set_option maxHeartbeats 40000000 in
theorem groups_v (a : Option Addr) (l : List (Int × Int)) (cap : Nat) (w1 : World) (hp : PutsAt w1 a l) (hl : l.length ≤ 1000) (hb : ∀ i, i < l.length → 0 ≤ eK l i ∧ eK l i ≤ 18446744073709551615) :
    Calls Try.prog 38 #[.slice a l.length cap] w1 fun e w' => ∃ v xs, e = .returned v ∧ IntB w1.heap.size xs v w' ∧ xs.length ≤ l.length ∧ (∀ x ∈ xs, ∃ r : Nat, x = (r : Int) ∧ r < l.length ∧ GrB l r) ∧ Below w1.heap.size w1 w' := by
  obtain ⟨i0, hi, hz0, hz1, hz2⟩ := info_parts Try.infoI
  obtain ⟨ln, hln⟩ : ∃ ln, l.length = ln := ⟨_, rfl⟩
  have HLn := Lib.hid hln
  have HPu := Lib.hid hp
  have HBd := Lib.hid hb
  have HLm := Lib.hid (show ln ≤ 1000 from by omega)
  rw [hln]
  clear hp hb hl hln
  go_enter Try.func38, Try.ntmps38
  go_wp2_with (fail)
  go_loopw [3, 4] (fun ov iv wr => ∃ (k : Nat) (xs : List Int), k ≤ ln ∧ iv = .int .i64 k ∧ IntB w1.heap.size xs ov wr ∧ xs.length ≤ k ∧ (∀ x ∈ xs, ∃ r : Nat, x = (r : Int) ∧ r < ln ∧ GrB l r) ∧ Below w1.heap.size w1 wr) (fun _ iv _ => ln - (intOf iv).toNat)
  case atStart => exact ⟨0, [], by omega, rfl, World.ownsRow_nil _ _ _ _, Nat.le_refl _, (fun x h => by cases h), Below.refl _ _⟩
  case round =>
    obtain ⟨k, xs, hk, rfl, hown, hxl, hxs, hB⟩ := hrel
    have HOw0 := Lib.hid hown
    have HXl := Lib.hid hxl
    have HXs := Lib.hid hxs
    have HB5 := Lib.hid hB
    clear hown hxl hxs hB
    by_cases hlt : k < ln
    · have hkl : k < l.length := by have := HLn.out; omega
      obtain ⟨g, o, rfl, hg, he⟩ := HPu.out (by omega)
      have hkb : (k : Int) < (ln : Int) := by omega
      have hlm := HLm.out
      have HKk := Lib.hid (show k < ln ∧ k + 1 ≤ ln from ⟨hlt, hlt⟩)
      obtain ⟨w5, hw5⟩ : ∃ w5, w5 = wr := ⟨_, rfl⟩
      rw [← hw5] at HOw0 HB5 ⊢
      have HOw := Lib.hid (show w5.drew.ownsRow w1.heap.size 3 1 u3 xs.length (xs.map (Value.int .i64)) from own_keeps HOw0.out (Keeps.refl NoB w5).drew (fun _ _ h => h))
      by_cases hk0 : k = 0
      · subst hk0
        clear hw5 he hkl hlt hk hg
        go_wp2_with (fail)
        --GEN r_gr5a
        refine wp_region_vals [Is (.int .i64 0), Is (.bool true), Is (.bool true), Any, Any, Any, Any, Any, Any, Any, Any, Any, Any, Any, Any, Any, Any, Is (.bool true)]
          (fun _ _ _ => True) (fun _ W => W = w5.drew) (by kernel_rfl) (by kernel_rfl) (by kernel_rfl) ?hst ?h0 ⟨?o0, ?o1, ?o2, ?o3, ?o4, ?o5, ?o6, ?o7, ?o8, ?o9, ?o10, ?o11, ?o12, ?o13, ?o14, ?o15, ?o16, ?o17, trivial⟩ ?he
        case hst =>
          exact ⟨(fun _ _ _ _ _ _ h _ => h), (fun _ _ _ _ _ _ h _ => h), (fun _ _ _ _ _ _ h _ => h), (fun _ _ _ _ _ _ h _ => h), (fun _ _ _ _ _ _ h _ => h), (fun _ _ _ _ _ _ h _ => h), (fun _ _ _ _ _ _ h _ => h), (fun _ _ _ _ _ _ h _ => h), (fun _ _ _ _ _ _ h _ => h), (fun _ _ _ _ _ _ h _ => h), (fun _ _ _ _ _ _ h _ => h), (fun _ _ _ _ _ _ h _ => h), (fun _ _ _ _ _ _ h _ => h), (fun _ _ _ _ _ _ h _ => h), (fun _ _ _ _ _ _ h _ => h), (fun _ _ _ _ _ _ h _ => h), (fun _ _ _ _ _ _ h _ => h), (fun _ _ _ _ _ _ h _ => h), trivial⟩
        case h0 =>
          exact rfl
        case o0 =>
          intro L vs A W H hf hd K hK
          have e4 : A.tmps[4]?.getD undef = .int .i64 0 := H.old 4 (by kernel_rfl)
          go_simp
          exact hK _ _ (trivial) rfl (H.glob)
        case o1 =>
          intro L vs A W H hf hd K hK
          have e11 := H.is 0 11 rfl rfl rfl (deps_of' hd 0 (by kernel_rfl)) (by kernel_rfl)
          go_simp
          exact hK _ _ (trivial) rfl (H.glob)
        case o2 =>
          intro L vs A W H hf hd K hK
          have e12 := H.is 1 12 rfl rfl rfl (deps_of' hd 1 (by kernel_rfl)) (by kernel_rfl)
          go_simp
          exact hK _ _ (trivial) rfl (H.glob)
        case o3 =>
          intro L vs A W H hf hd K hK
          have e13 := H.is 2 13 rfl rfl rfl (deps_of' hd 2 (by kernel_rfl)) (by kernel_rfl)
          refine if_unwanted (j := 2) (s := 13) rfl rfl rfl e13 rfl ?_
          exact hK _ _ (trivial) trivial (H.glob)
        case o4 =>
          intro L vs A W H hf hd K hK
          have e13 := H.is 2 13 rfl rfl rfl (deps_of' hd 2 (by kernel_rfl)) (by kernel_rfl)
          refine if_unwanted (j := 2) (s := 13) rfl rfl rfl e13 rfl ?_
          exact hK _ _ (trivial) trivial (H.glob)
        case o5 =>
          intro L vs A W H hf hd K hK
          have e13 := H.is 2 13 rfl rfl rfl (deps_of' hd 2 (by kernel_rfl)) (by kernel_rfl)
          refine if_unwanted (j := 2) (s := 13) rfl rfl rfl e13 rfl ?_
          exact hK _ _ (trivial) trivial (H.glob)
        case o6 =>
          intro L vs A W H hf hd K hK
          have e13 := H.is 2 13 rfl rfl rfl (deps_of' hd 2 (by kernel_rfl)) (by kernel_rfl)
          refine if_unwanted (j := 2) (s := 13) rfl rfl rfl e13 rfl ?_
          exact hK _ _ (trivial) trivial (H.glob)
        case o7 =>
          intro L vs A W H hf hd K hK
          have e13 := H.is 2 13 rfl rfl rfl (deps_of' hd 2 (by kernel_rfl)) (by kernel_rfl)
          refine if_unwanted (j := 2) (s := 13) rfl rfl rfl e13 rfl ?_
          exact hK _ _ (trivial) trivial (H.glob)
        case o8 =>
          intro L vs A W H hf hd K hK
          have e13 := H.is 2 13 rfl rfl rfl (deps_of' hd 2 (by kernel_rfl)) (by kernel_rfl)
          refine if_unwanted (j := 2) (s := 13) rfl rfl rfl e13 rfl ?_
          exact hK _ _ (trivial) trivial (H.glob)
        case o9 =>
          intro L vs A W H hf hd K hK
          have e13 := H.is 2 13 rfl rfl rfl (deps_of' hd 2 (by kernel_rfl)) (by kernel_rfl)
          refine if_unwanted (j := 2) (s := 13) rfl rfl rfl e13 rfl ?_
          exact hK _ _ (trivial) trivial (H.glob)
        case o10 =>
          intro L vs A W H hf hd K hK
          have e13 := H.is 2 13 rfl rfl rfl (deps_of' hd 2 (by kernel_rfl)) (by kernel_rfl)
          refine if_unwanted (j := 2) (s := 13) rfl rfl rfl e13 rfl ?_
          exact hK _ _ (trivial) trivial (H.glob)
        case o11 =>
          intro L vs A W H hf hd K hK
          have e13 := H.is 2 13 rfl rfl rfl (deps_of' hd 2 (by kernel_rfl)) (by kernel_rfl)
          refine if_unwanted (j := 2) (s := 13) rfl rfl rfl e13 rfl ?_
          exact hK _ _ (trivial) trivial (H.glob)
        case o12 =>
          intro L vs A W H hf hd K hK
          have e13 := H.is 2 13 rfl rfl rfl (deps_of' hd 2 (by kernel_rfl)) (by kernel_rfl)
          refine if_unwanted (j := 2) (s := 13) rfl rfl rfl e13 rfl ?_
          exact hK _ _ (trivial) trivial (H.glob)
        case o13 =>
          intro L vs A W H hf hd K hK
          have e13 := H.is 2 13 rfl rfl rfl (deps_of' hd 2 (by kernel_rfl)) (by kernel_rfl)
          refine if_unwanted (j := 2) (s := 13) rfl rfl rfl e13 rfl ?_
          exact hK _ _ (trivial) trivial (H.glob)
        case o14 =>
          intro L vs A W H hf hd K hK
          have e13 := H.is 2 13 rfl rfl rfl (deps_of' hd 2 (by kernel_rfl)) (by kernel_rfl)
          refine if_unwanted (j := 2) (s := 13) rfl rfl rfl e13 rfl ?_
          exact hK _ _ (trivial) trivial (H.glob)
        case o15 =>
          intro L vs A W H hf hd K hK
          have e13 := H.is 2 13 rfl rfl rfl (deps_of' hd 2 (by kernel_rfl)) (by kernel_rfl)
          refine if_unwanted (j := 2) (s := 13) rfl rfl rfl e13 rfl ?_
          exact hK _ _ (trivial) trivial (H.glob)
        case o16 =>
          intro L vs A W H hf hd K hK
          have e13 := H.is 2 13 rfl rfl rfl (deps_of' hd 2 (by kernel_rfl)) (by kernel_rfl)
          refine if_unwanted (j := 2) (s := 13) rfl rfl rfl e13 rfl ?_
          exact hK _ _ (trivial) trivial (H.glob)
        case o17 =>
          intro L vs A W H hf hd K hK
          have e13 := H.is 2 13 rfl rfl rfl (deps_of' hd 2 (by kernel_rfl)) (by kernel_rfl)
          obtain ⟨v27, e27, q27⟩ := H.val 16 27 rfl rfl rfl (deps_of' hd 16 (by kernel_rfl)) (by kernel_rfl)
          go_simp
          exact hK _ _ (trivial) rfl (H.glob)
        case he =>
          intro vs W hlen hv
          match vs, hlen, hv with
          | [x0_, x1_, x2_, x3_, x4_, x5_, x6_, x7_, x8_, x9_, x10_, x11_, x12_, x13_, x14_, x15_, x16_, x17_], _, hv =>
          obtain rfl : (.int .i64 0) = x0_ := by obtain ⟨z, h1, h2⟩ := hv 0 _ rfl; cases h1; exact h2.symm
          obtain rfl : (.bool true) = x1_ := by obtain ⟨z, h1, h2⟩ := hv 1 _ rfl; cases h1; exact h2.symm
          obtain rfl : (.bool true) = x2_ := by obtain ⟨z, h1, h2⟩ := hv 2 _ rfl; cases h1; exact h2.symm
          obtain rfl : (.bool true) = x17_ := by obtain ⟨z, h1, h2⟩ := hv 17 _ rfl; cases h1; exact h2.symm
          intro L hall hG
          clear hv hlen
          have HW := hG
          clear hG hall
          subst HW
          simp only [fill, if_true]
          simp [Act.put]
        --END
          go_wp2_with (at_builtin; refine wpList_append_own _ rfl _ _ 55 rfl w1.heap.size 3 i0 (.int .i64 0) 1 8 Try.underlying55 hi hz0 hz1 hz2 rfl (by decide) _ _ _ rfl (HOw.out.alloc _) ⟨w5.drew.heap.size, 0, none⟩ 1 1 [.int .i64 0] rfl rfl (cell_one_new _ _ _) (ints_oneCell .i64 [0]) (by have := HXl.out; have := HLm.out; unfold maxLen; omega) (by have := HXl.out; have := HLm.out; omega) (by have := HB5.out.size; simp; omega) ?_)
          intro v' w6 hown' hgrow hnil
          have HO6 := Lib.hid hown'
          have HB6 := Lib.hid ((HB5.out.drew.alloc HB5.out.size (.cells #[.int .i64 0] 3)).grown hgrow (by simp; have := HB5.out.size; omega) (fun r e => own_base HOw.out _ e))
          clear hown' hgrow hnil
          go_wp2_with (fail)
          go_roundw
          case rel => exact ⟨1, xs ++ [0], HKk.out.2, by go_num, by unfold IntB; rw [List.length_append, List.map_append]; exact HO6.out, by rw [List.length_append, List.length_singleton]; have := HXl.out; omega, fun x hx => by
            rcases List.mem_append.1 hx with h | h
            · exact HXs.out x h
            · rw [List.mem_singleton] at h
              exact ⟨0, h, by have := HKk.out; omega, .inl rfl⟩, HB6.out⟩
          case measure => have := HKk.out; simp [intOf]; omega
      · obtain ⟨kp, rfl⟩ : ∃ kp, k = kp + 1 := ⟨k - 1, by omega⟩
        obtain ⟨a1, ha1⟩ : ∃ a1, eK l (kp + 1) = a1 := ⟨_, rfl⟩
        obtain ⟨a2, ha2⟩ : ∃ a2, eK l kp = a2 := ⟨_, rfl⟩
        have hc1 := (he (kp + 1) hkl).1
        have hc2 := (he kp (by omega)).1
        have hb1 := HBd.out (kp + 1) hkl
        have hb2 := HBd.out kp (by omega)
        rw [ha1] at hc1 hb1
        rw [ha2] at hc2 hb2
        obtain ⟨q1, hq1⟩ : ∃ q1, a1 / 64 = q1 := ⟨_, rfl⟩
        obtain ⟨q2, hq2⟩ : ∃ q2, a2 / 64 = q2 := ⟨_, rfl⟩
        obtain ⟨bb, hbb⟩ : ∃ bb, (q1 != q2) = bb := ⟨_, rfl⟩
        obtain ⟨k, hkE⟩ : ∃ k, kp + 1 = k := ⟨_, rfl⟩
        have HG := Lib.hid (show bb = true → GrB l k from fun e => .inr ⟨by omega, by rw [← hkE, Nat.add_sub_cancel, ha1, ha2, hq1, hq2]; rw [e] at hbb; simpa using hbb⟩)
        rw [hkE] at hkb HKk HXl hc1 ⊢
        have HQ := Lib.hid (show a1.tdiv 64 = q1 ∧ IntKind.u64.wrap q1 = q1 ∧ a2.tdiv 64 = q2 ∧ IntKind.u64.wrap q2 = q2 ∧ (q1 != q2) = bb from ⟨by rw [Int.tdiv_eq_ediv_of_nonneg hb1.1]; exact hq1, IntWalk.u64_in _ (by omega), by rw [Int.tdiv_eq_ediv_of_nonneg hb2.1]; exact hq2, IntWalk.u64_in _ (by omega), hbb⟩)
        have HK0 := Lib.hid (show ((k : Int) == 0) = false ∧ (k : Int) < (ln : Int) ∧ IntKind.i64.wrap ((k : Int) - 1) = (kp : Int) ∧ (kp : Int) < (ln : Int) from ⟨beq_eq_false_iff_ne.2 (by omega), hkb, by rw [IntWalk.i64_in _ (by omega)]; omega, by omega⟩)
        have HC := Lib.hid (show w5.drew.cell? ⟨g, o + k * 2, none⟩ = some (.int .u64 a1) ∧ w5.drew.cell? ⟨g, o + kp * 2, none⟩ = some (.int .u64 a2) from ⟨(HB5.out.cell (p := ⟨g, o + k * 2, none⟩) hg).trans hc1, (HB5.out.cell (p := ⟨g, o + kp * 2, none⟩) hg).trans hc2⟩)
        clear hw5 he hkl hlt hk hg hk0 ha1 ha2 hc1 hc2 hb1 hb2 hq1 hq2 hbb hkE
        go_wp2_with (fail)
        --GEN r_gr5b
        refine wp_region_vals [Is (.int .i64 (k : Int)), Is (.bool false), Is (.bool false), Is (.slice (some ⟨g, o, none⟩) ln cap), Is (.int .i64 (k : Int)), Is (.pointer (some ⟨g, o + k * 2, none⟩)), Is (.pointer (some ⟨g, o + k * 2, none⟩)), Is (.int .u64 a1), Is (.int .u64 q1), Is (.slice (some ⟨g, o, none⟩) ln cap), Is (.int .i64 (k : Int)), Is (.int .i64 (kp : Int)), Is (.pointer (some ⟨g, o + kp * 2, none⟩)), Is (.pointer (some ⟨g, o + kp * 2, none⟩)), Is (.int .u64 a2), Is (.int .u64 q2), Is (.bool bb), Is (.bool bb)]
          (fun _ _ _ => True) (fun _ W => W = w5.drew) (by kernel_rfl) (by kernel_rfl) (by kernel_rfl) ?hst ?h0 ⟨?o0, ?o1, ?o2, ?o3, ?o4, ?o5, ?o6, ?o7, ?o8, ?o9, ?o10, ?o11, ?o12, ?o13, ?o14, ?o15, ?o16, ?o17, trivial⟩ ?he
        case hst =>
          exact ⟨(fun _ _ _ _ _ _ h _ => h), (fun _ _ _ _ _ _ h _ => h), (fun _ _ _ _ _ _ h _ => h), (fun _ _ _ _ _ _ h _ => h), (fun _ _ _ _ _ _ h _ => h), (fun _ _ _ _ _ _ h _ => h), (fun _ _ _ _ _ _ h _ => h), (fun _ _ _ _ _ _ h _ => h), (fun _ _ _ _ _ _ h _ => h), (fun _ _ _ _ _ _ h _ => h), (fun _ _ _ _ _ _ h _ => h), (fun _ _ _ _ _ _ h _ => h), (fun _ _ _ _ _ _ h _ => h), (fun _ _ _ _ _ _ h _ => h), (fun _ _ _ _ _ _ h _ => h), (fun _ _ _ _ _ _ h _ => h), (fun _ _ _ _ _ _ h _ => h), (fun _ _ _ _ _ _ h _ => h), trivial⟩
        case h0 =>
          exact rfl
        case o0 =>
          intro L vs A W H hf hd K hK
          have e4 : A.tmps[4]?.getD undef = .int .i64 (k : Int) := H.old 4 (by kernel_rfl)
          go_simp
          exact hK _ _ (trivial) rfl (H.glob)
        case o1 =>
          intro L vs A W H hf hd K hK
          have e11 := H.is 0 11 rfl rfl rfl (deps_of' hd 0 (by kernel_rfl)) (by kernel_rfl)
          have hz := HK0.out.1
          go_simp
          exact hK _ _ (trivial) rfl (H.glob)
        case o2 =>
          intro L vs A W H hf hd K hK
          have e12 := H.is 1 12 rfl rfl rfl (deps_of' hd 1 (by kernel_rfl)) (by kernel_rfl)
          go_simp
          exact hK _ _ (trivial) rfl (H.glob)
        case o3 =>
          intro L vs A W H hf hd K hK
          have e13 := H.is 2 13 rfl rfl rfl (deps_of' hd 2 (by kernel_rfl)) (by kernel_rfl)
          refine if_wanted (j := 2) (s := 13) rfl rfl rfl e13 rfl ?_
          have e0 : A.tmps[0]?.getD undef = .slice (some ⟨g, o, none⟩) ln cap := H.old 0 (by kernel_rfl)
          go_simp
          exact hK _ _ (trivial) rfl (H.glob)
        case o4 =>
          intro L vs A W H hf hd K hK
          have e13 := H.is 2 13 rfl rfl rfl (deps_of' hd 2 (by kernel_rfl)) (by kernel_rfl)
          refine if_wanted (j := 2) (s := 13) rfl rfl rfl e13 rfl ?_
          have e4 : A.tmps[4]?.getD undef = .int .i64 (k : Int) := H.old 4 (by kernel_rfl)
          go_simp
          exact hK _ _ (trivial) rfl (H.glob)
        case o5 =>
          intro L vs A W H hf hd K hK
          have e13 := H.is 2 13 rfl rfl rfl (deps_of' hd 2 (by kernel_rfl)) (by kernel_rfl)
          refine if_wanted (j := 2) (s := 13) rfl rfl rfl e13 rfl ?_
          have e14 := H.is 3 14 rfl rfl rfl (deps_of' hd 3 (by kernel_rfl)) (by kernel_rfl)
          have e15 := H.is 4 15 rfl rfl rfl (deps_of' hd 4 (by kernel_rfl)) (by kernel_rfl)
          have hkl := HK0.out.2.1
          go_simp
          exact hK _ _ (trivial) rfl (H.glob)
        case o6 =>
          intro L vs A W H hf hd K hK
          have e13 := H.is 2 13 rfl rfl rfl (deps_of' hd 2 (by kernel_rfl)) (by kernel_rfl)
          refine if_wanted (j := 2) (s := 13) rfl rfl rfl e13 rfl ?_
          have e16 := H.is 5 16 rfl rfl rfl (deps_of' hd 5 (by kernel_rfl)) (by kernel_rfl)
          go_simp
          exact hK _ _ (trivial) rfl (H.glob)
        case o7 =>
          intro L vs A W H hf hd K hK
          have e13 := H.is 2 13 rfl rfl rfl (deps_of' hd 2 (by kernel_rfl)) (by kernel_rfl)
          refine if_wanted (j := 2) (s := 13) rfl rfl rfl e13 rfl ?_
          have e17 := H.is 6 17 rfl rfl rfl (deps_of' hd 6 (by kernel_rfl)) (by kernel_rfl)
          have d : W.cell? ⟨g, o + k * 2, none⟩ = some (.int .u64 a1) := (by rw [H.glob]; exact HC.out.1)
          go_simp
          exact hK _ _ (trivial) rfl (H.glob)
        case o8 =>
          intro L vs A W H hf hd K hK
          have e13 := H.is 2 13 rfl rfl rfl (deps_of' hd 2 (by kernel_rfl)) (by kernel_rfl)
          refine if_wanted (j := 2) (s := 13) rfl rfl rfl e13 rfl ?_
          have e18 := H.is 7 18 rfl rfl rfl (deps_of' hd 7 (by kernel_rfl)) (by kernel_rfl)
          have hw := HQ.out.1
          have hw2 := HQ.out.2.1
          go_simp
          exact hK _ _ (trivial) rfl (H.glob)
        case o9 =>
          intro L vs A W H hf hd K hK
          have e13 := H.is 2 13 rfl rfl rfl (deps_of' hd 2 (by kernel_rfl)) (by kernel_rfl)
          refine if_wanted (j := 2) (s := 13) rfl rfl rfl e13 rfl ?_
          have e0 : A.tmps[0]?.getD undef = .slice (some ⟨g, o, none⟩) ln cap := H.old 0 (by kernel_rfl)
          go_simp
          exact hK _ _ (trivial) rfl (H.glob)
        case o10 =>
          intro L vs A W H hf hd K hK
          have e13 := H.is 2 13 rfl rfl rfl (deps_of' hd 2 (by kernel_rfl)) (by kernel_rfl)
          refine if_wanted (j := 2) (s := 13) rfl rfl rfl e13 rfl ?_
          have e4 : A.tmps[4]?.getD undef = .int .i64 (k : Int) := H.old 4 (by kernel_rfl)
          go_simp
          exact hK _ _ (trivial) rfl (H.glob)
        case o11 =>
          intro L vs A W H hf hd K hK
          have e13 := H.is 2 13 rfl rfl rfl (deps_of' hd 2 (by kernel_rfl)) (by kernel_rfl)
          refine if_wanted (j := 2) (s := 13) rfl rfl rfl e13 rfl ?_
          have e21 := H.is 10 21 rfl rfl rfl (deps_of' hd 10 (by kernel_rfl)) (by kernel_rfl)
          have hw := HK0.out.2.2.1
          go_simp
          exact hK _ _ (trivial) rfl (H.glob)
        case o12 =>
          intro L vs A W H hf hd K hK
          have e13 := H.is 2 13 rfl rfl rfl (deps_of' hd 2 (by kernel_rfl)) (by kernel_rfl)
          refine if_wanted (j := 2) (s := 13) rfl rfl rfl e13 rfl ?_
          have e20 := H.is 9 20 rfl rfl rfl (deps_of' hd 9 (by kernel_rfl)) (by kernel_rfl)
          have e22 := H.is 11 22 rfl rfl rfl (deps_of' hd 11 (by kernel_rfl)) (by kernel_rfl)
          have hkl := HK0.out.2.2.2
          go_simp
          exact hK _ _ (trivial) rfl (H.glob)
        case o13 =>
          intro L vs A W H hf hd K hK
          have e13 := H.is 2 13 rfl rfl rfl (deps_of' hd 2 (by kernel_rfl)) (by kernel_rfl)
          refine if_wanted (j := 2) (s := 13) rfl rfl rfl e13 rfl ?_
          have e23 := H.is 12 23 rfl rfl rfl (deps_of' hd 12 (by kernel_rfl)) (by kernel_rfl)
          go_simp
          exact hK _ _ (trivial) rfl (H.glob)
        case o14 =>
          intro L vs A W H hf hd K hK
          have e13 := H.is 2 13 rfl rfl rfl (deps_of' hd 2 (by kernel_rfl)) (by kernel_rfl)
          refine if_wanted (j := 2) (s := 13) rfl rfl rfl e13 rfl ?_
          have e24 := H.is 13 24 rfl rfl rfl (deps_of' hd 13 (by kernel_rfl)) (by kernel_rfl)
          have d : W.cell? ⟨g, o + kp * 2, none⟩ = some (.int .u64 a2) := (by rw [H.glob]; exact HC.out.2)
          go_simp
          exact hK _ _ (trivial) rfl (H.glob)
        case o15 =>
          intro L vs A W H hf hd K hK
          have e13 := H.is 2 13 rfl rfl rfl (deps_of' hd 2 (by kernel_rfl)) (by kernel_rfl)
          refine if_wanted (j := 2) (s := 13) rfl rfl rfl e13 rfl ?_
          have e25 := H.is 14 25 rfl rfl rfl (deps_of' hd 14 (by kernel_rfl)) (by kernel_rfl)
          have hw := HQ.out.2.2.1
          have hw2 := HQ.out.2.2.2.1
          go_simp
          exact hK _ _ (trivial) rfl (H.glob)
        case o16 =>
          intro L vs A W H hf hd K hK
          have e13 := H.is 2 13 rfl rfl rfl (deps_of' hd 2 (by kernel_rfl)) (by kernel_rfl)
          refine if_wanted (j := 2) (s := 13) rfl rfl rfl e13 rfl ?_
          have e19 := H.is 8 19 rfl rfl rfl (deps_of' hd 8 (by kernel_rfl)) (by kernel_rfl)
          have e26 := H.is 15 26 rfl rfl rfl (deps_of' hd 15 (by kernel_rfl)) (by kernel_rfl)
          have hw := HQ.out.2.2.2.2
          go_simp
          exact hK _ _ (trivial) rfl (H.glob)
        case o17 =>
          intro L vs A W H hf hd K hK
          have e13 := H.is 2 13 rfl rfl rfl (deps_of' hd 2 (by kernel_rfl)) (by kernel_rfl)
          have e27 := H.is 16 27 rfl rfl rfl (deps_of' hd 16 (by kernel_rfl)) (by kernel_rfl)
          go_simp
          exact hK _ _ (trivial) rfl (H.glob)
        case he =>
          intro vs W hlen hv
          match vs, hlen, hv with
          | [x0_, x1_, x2_, x3_, x4_, x5_, x6_, x7_, x8_, x9_, x10_, x11_, x12_, x13_, x14_, x15_, x16_, x17_], _, hv =>
          obtain rfl : (.int .i64 (k : Int)) = x0_ := by obtain ⟨z, h1, h2⟩ := hv 0 _ rfl; cases h1; exact h2.symm
          obtain rfl : (.bool false) = x1_ := by obtain ⟨z, h1, h2⟩ := hv 1 _ rfl; cases h1; exact h2.symm
          obtain rfl : (.bool false) = x2_ := by obtain ⟨z, h1, h2⟩ := hv 2 _ rfl; cases h1; exact h2.symm
          obtain rfl : (.slice (some ⟨g, o, none⟩) ln cap) = x3_ := by obtain ⟨z, h1, h2⟩ := hv 3 _ rfl; cases h1; exact h2.symm
          obtain rfl : (.int .i64 (k : Int)) = x4_ := by obtain ⟨z, h1, h2⟩ := hv 4 _ rfl; cases h1; exact h2.symm
          obtain rfl : (.pointer (some ⟨g, o + k * 2, none⟩)) = x5_ := by obtain ⟨z, h1, h2⟩ := hv 5 _ rfl; cases h1; exact h2.symm
          obtain rfl : (.pointer (some ⟨g, o + k * 2, none⟩)) = x6_ := by obtain ⟨z, h1, h2⟩ := hv 6 _ rfl; cases h1; exact h2.symm
          obtain rfl : (.int .u64 a1) = x7_ := by obtain ⟨z, h1, h2⟩ := hv 7 _ rfl; cases h1; exact h2.symm
          obtain rfl : (.int .u64 q1) = x8_ := by obtain ⟨z, h1, h2⟩ := hv 8 _ rfl; cases h1; exact h2.symm
          obtain rfl : (.slice (some ⟨g, o, none⟩) ln cap) = x9_ := by obtain ⟨z, h1, h2⟩ := hv 9 _ rfl; cases h1; exact h2.symm
          obtain rfl : (.int .i64 (k : Int)) = x10_ := by obtain ⟨z, h1, h2⟩ := hv 10 _ rfl; cases h1; exact h2.symm
          obtain rfl : (.int .i64 (kp : Int)) = x11_ := by obtain ⟨z, h1, h2⟩ := hv 11 _ rfl; cases h1; exact h2.symm
          obtain rfl : (.pointer (some ⟨g, o + kp * 2, none⟩)) = x12_ := by obtain ⟨z, h1, h2⟩ := hv 12 _ rfl; cases h1; exact h2.symm
          obtain rfl : (.pointer (some ⟨g, o + kp * 2, none⟩)) = x13_ := by obtain ⟨z, h1, h2⟩ := hv 13 _ rfl; cases h1; exact h2.symm
          obtain rfl : (.int .u64 a2) = x14_ := by obtain ⟨z, h1, h2⟩ := hv 14 _ rfl; cases h1; exact h2.symm
          obtain rfl : (.int .u64 q2) = x15_ := by obtain ⟨z, h1, h2⟩ := hv 15 _ rfl; cases h1; exact h2.symm
          obtain rfl : (.bool bb) = x16_ := by obtain ⟨z, h1, h2⟩ := hv 16 _ rfl; cases h1; exact h2.symm
          obtain rfl : (.bool bb) = x17_ := by obtain ⟨z, h1, h2⟩ := hv 17 _ rfl; cases h1; exact h2.symm
          intro L hall hG
          clear hv hlen
          have HW := hG
          clear hG hall
          subst HW
          simp only [fill, if_true]
          simp [Act.put]
        --END
          cases bb with
          | true =>
            go_wp2_with (at_builtin; refine wpList_append_own _ rfl _ _ 55 rfl w1.heap.size 3 i0 (.int .i64 0) 1 8 Try.underlying55 hi hz0 hz1 hz2 rfl (by decide) _ _ _ rfl (HOw.out.alloc _) ⟨w5.drew.heap.size, 0, none⟩ 1 1 [.int .i64 (k:Int)] rfl rfl (cell_one_new _ _ _) (ints_oneCell .i64 [(k:Int)]) (by have := HXl.out; have := HLm.out; unfold maxLen; omega) (by have := HXl.out; have := HLm.out; omega) (by have := HB5.out.size; simp; omega) ?_)
            intro v' w6 hown' hgrow hnil
            have HO6 := Lib.hid hown'
            have HB6 := Lib.hid ((HB5.out.drew.alloc HB5.out.size (.cells #[.int .i64 (k:Int)] 3)).grown hgrow (by simp; have := HB5.out.size; omega) (fun r e => own_base HOw.out _ e))
            clear hown' hgrow hnil
            go_wp2_with (fail)
            go_roundw
            case rel => exact ⟨k + 1, xs ++ [(k : Int)], HKk.out.2, by go_num, by unfold IntB; rw [List.length_append, List.map_append]; exact HO6.out, by rw [List.length_append, List.length_singleton]; have := HXl.out; omega, fun x hx => by
              rcases List.mem_append.1 hx with h | h
              · exact HXs.out x h
              · rw [List.mem_singleton] at h
                exact ⟨k, h, HKk.out.1, HG.out trivial⟩, HB6.out⟩
            case measure => have := HKk.out; simp [intOf]; omega
          | false =>
            go_wp2_with (fail)
            go_roundw
            case rel => exact ⟨k + 1, xs, HKk.out.2, by go_num, HOw.out, by have := HXl.out; omega, HXs.out, HB5.out.drew⟩
            case measure => have := HKk.out; simp [intOf]; omega
    · obtain rfl : k = ln := by omega
      clear hlt
      go_wp2_with (fail)
      go_ret
      exact ⟨_, xs, rfl, HOw0.out, HXl.out, HXs.out, HB5.out⟩
/-- where the group begins to which the last one of so many stores belongs -/
def FrOk (l : List (Int × Int)) (k r : Nat) : Prop := r = 0 ∨ (r < k ∧ GrB l r)
theorem FrOk.least {l : List (Int × Int)} {k r j : Nat} (h : FrOk l k r) (hj : j ≤ k) (hg : ∀ i, j ≤ i → i < k → lineOf (eK l i) = cur l k) : r ≤ j := by
  rcases h with h | ⟨hr, h | ⟨hp, hd⟩⟩
  · omega
  · omega
  · by_cases e : r ≤ j
    · exact e
    · have h1 := hg r (by omega) hr
      have h2 := hg (r - 1) (by omega) (by omega)
      exact absurd (lineOf_div.1 (h1.trans h2.symm)) hd
set_option maxRecDepth 100000 in
set_option maxHeartbeats 40000000 in
theorem from_v (a : Option Addr) (l : List (Int × Int)) (cap k : Nat) (w1 : World) (hp : PutsAt w1 a l) (hl : l.length ≤ 1000) (hb : ∀ i, i < l.length → 0 ≤ eK l i ∧ eK l i ≤ 18446744073709551615) (hk : k ≤ 1000) :
    Calls Try.prog 25 #[.slice a l.length cap, .int .i64 (k : Int)] w1 fun e w' => ∃ r : Nat, e = .returned (.int .i64 (r : Int)) ∧ FrOk l k r ∧ r ≤ 1000 ∧ Below w1.heap.size w1 w' := by
  have HG := Lib.hid (groups_v a l cap w1 hp hl hb)
  have HL := Lib.hid hl
  obtain ⟨ln, hln⟩ : ∃ ln, l.length = ln := ⟨_, rfl⟩
  rw [hln] at HG hl ⊢
  clear hp hb
  go_enter Try.func25, Try.ntmps25
  go_wp2_with (fail)
  refine HG.out.mono ?_
  rintro e w2 ⟨v, xs, rfl, hown, hxl, hxs, hB⟩
  obtain ⟨a2, n2, c2, rfl⟩ := own_slice hown
  obtain rfl : n2 = xs.length := own_len hown
  have HO := Lib.hid hown
  have HXs := Lib.hid hxs
  have HB := Lib.hid hB
  have hxl1 : (xs.length : Int) ≤ 1000 := by omega
  have HXl := Lib.hid (show xs.length ≤ 1000 from by omega)
  clear hown hxl hxs hB hln hl
  go_wp2_with (fail)
  go_loopw [5, 7] (fun av iv wr => ∃ (i r : Nat), i ≤ xs.length ∧ iv = .int .i64 i ∧ av = .int .i64 r ∧ FrOk l k r ∧ r ≤ 1000 ∧ Below w2.heap.size w2 wr) (fun _ iv _ => xs.length - (intOf iv).toNat)
  case atStart => exact ⟨0, 0, by omega, rfl, rfl, .inl rfl, by omega, Below.refl _ _⟩
  case round =>
    obtain ⟨i, r, hi, rfl, rfl, hfr, hr, hBr⟩ := hrel
    have HFr := Lib.hid (And.intro hfr hr)
    have HBr := Lib.hid hBr
    by_cases hlt : i < xs.length
    · obtain ⟨g, cp, e9, _, hg, _, _, hc, _⟩ := own_shape HO.out (by omega)
      cases e9
      obtain ⟨x, hx⟩ : ∃ x, xs[i]'hlt = x := ⟨_, rfl⟩
      have hgw : g < w2.heap.size := hg
      have d0 : wr.cell? ⟨g, i, none⟩ = some (.int .i64 x) := by
        rw [hBr.cell (p := ⟨g, i, none⟩) hgw]
        have := HO.out.cellAt i (by omega)
        rw [this, List.getElem?_map, List.getElem?_eq_getElem hlt, hx]
        rfl
      obtain ⟨r2, rfl, hr2, hg2⟩ := HXs.out x (by rw [← hx]; exact List.getElem_mem _)
      have HR2 := Lib.hid (And.intro hr2 hg2)
      have hib : (i : Int) < (xs.length : Int) := by omega
      have HLt := Lib.hid hlt
      clear hfr hr hBr hc hg hx hr2 hg2
      by_cases hrk : r2 < k
      · have hrkb : (r2 : Int) < (k : Int) := by omega
        have HRk := Lib.hid hrk
        clear hrk hlt
        go_wp2_with (fail)
        go_roundw
        case rel => exact ⟨i + 1, r2, HLt.out, by go_num, rfl, .inr ⟨HRk.out, HR2.out.2⟩, by have := HR2.out.1; have := HL.out; omega, HBr.out⟩
        case measure => have := HLt.out; simp [intOf]; omega
      · have hrkb : ¬ (r2 : Int) < (k : Int) := by omega
        clear hrk hlt
        go_wp2_with (fail)
        go_roundw
        case rel => exact ⟨i + 1, r, HLt.out, by go_num, rfl, HFr.out.1, HFr.out.2, HBr.out⟩
        case measure => have := HLt.out; simp [intOf]; omega
    · obtain rfl : i = xs.length := by omega
      clear hlt hfr hr hBr
      go_wp2_with (fail)
      go_ret
      exact ⟨r, rfl, HFr.out.1, HFr.out.2, HB.out.trans (HBr.out.mono HB.out.size)⟩
end Go.Proofs.Ytefgahcadfmmoaa
namespace Go.Proofs.Ytefgahcadfmmoaa
open Go.RowKit
attribute [local go_sem] Oper.semAt_some
set_option linter.unusedVariables false

def apLn (N odd : Nat) (a : Int) : Int := if 8 * (N : Int) ≤ (a / 64 / 2 * 2 + odd) * 64 then odd else a / 64 / 2 * 2 + odd
def apP (N odd : Nat) (p : Int × Int) : Int × Int := (64 * apLn N odd p.1 + p.1 % 64, p.2)
def apL (N odd : Nat) (l : List (Int × Int)) : List (Int × Int) := l.map (apP N odd)
theorem apL_len (N odd : Nat) (l : List (Int × Int)) : (apL N odd l).length = l.length := by simp [apL]
theorem apL_take (N odd : Nat) (l : List (Int × Int)) {k : Nat} (h : k < l.length) : apL N odd (l.take (k + 1)) = apL N odd (l.take k) ++ [apP N odd (eK l k, eP l k)] := by
  rw [take_succ_e h]
  simp [apL]
theorem apL_at (N odd : Nat) {l : List (Int × Int)} {i : Nat} (h : i < l.length) : eK (apL N odd l) i = 64 * apLn N odd (eK l i) + eK l i % 64 ∧ eP (apL N odd l) i = eP l i := by
  unfold eK eP apL
  simp [List.getD_eq_getElem?_getD, List.getElem?_map, List.getElem?_eq_getElem h, apP]
/-- even lines, odd lines -/
def OddL (odd : Nat) : Int → Prop := fun a => a / 64 % 2 = odd
theorem apL_ok (N odd : Nat) (hN : 16 ≤ N) (h8 : N % 8 = 0) (ho : odd < 2) (l : List (Int × Int)) (hl : LOk AllL N l) : LOk (OddL odd) N (apL N odd l) := by
  intro i hi
  rw [apL_len] at hi
  obtain ⟨e1, e2⟩ := apL_at N odd hi
  rw [e1, e2]
  obtain ⟨_, h0, h8', hN', hp⟩ := hl i hi
  unfold OddL lineOf apLn
  split
  · exact ⟨by omega, by omega, by omega, by omega, hp⟩
  · exact ⟨by omega, by omega, by omega, by omega, hp⟩
set_option maxRecDepth 100000 in
set_option maxHeartbeats 40000000 in
theorem apart_v (N odd : Nat) (hN : 16 ≤ N ∧ N ≤ 128) (ho : odd < 2) (a : Option Addr) (l : List (Int × Int)) (cap : Nat) (w1 : World) (hp : PutsAt w1 a l) (hl : l.length ≤ 1000) (hb : ∀ i, i < l.length → 0 ≤ eK l i ∧ eK l i ≤ 10000) :
    Calls Try.prog 21 #[.slice a l.length cap, .int .i64 odd, .int .i64 ((8 * N : Nat) : Int)] w1 fun e w' => ∃ v, e = .returned v ∧ RowB w1.heap.size (apL N odd l) v w' ∧ Below w1.heap.size w1 w' := by
  obtain ⟨i0, hi, hz0, hz1, hz2⟩ := info_parts Try.infoPut
  obtain ⟨ln, hln⟩ : ∃ ln, l.length = ln := ⟨_, rfl⟩
  obtain ⟨sz, hsz⟩ : ∃ sz : Int, ((8 * N : Nat) : Int) = sz := ⟨_, rfl⟩
  obtain ⟨od, hod⟩ : ∃ od : Int, (odd : Int) = od := ⟨_, rfl⟩
  have HLn := Lib.hid hln
  have HPu := Lib.hid hp
  have HBd := Lib.hid hb
  have HSz0 := Lib.hid (show sz = 8 * (N : Int) ∧ 0 < sz ∧ sz ≤ 8000 ∧ (odd : Int) = od ∧ 0 ≤ od ∧ od ≤ 1 from by omega)
  have HLm := Lib.hid (show ln ≤ 1000 from by omega)
  have hodb : 0 ≤ od ∧ od ≤ 1 := by omega
  rw [hln, hsz, hod]
  clear hp hb hl hN hln hsz hod ho
  go_enter Try.func21, Try.ntmps21
  go_wp2_with (fail)
  go_loopw [7, 8, 9] (fun ov iv _ wr => ∃ k : Nat, k ≤ ln ∧ iv = .int .i64 k ∧ RowB w1.heap.size (apL N odd (l.take k)) ov wr ∧ Below w1.heap.size w1 wr) (fun _ iv _ _ => ln - (intOf iv).toNat)
  case atStart => exact ⟨0, by omega, rfl, World.ownsRow_nil _ _ _ _, Below.refl _ _⟩
  case round =>
    obtain ⟨k, hk, rfl, hown, hB⟩ := hrel
    have HO := Lib.hid hown
    have HB := Lib.hid hB
    clear hown
    by_cases hlt : k < ln
    · have hkl : k < l.length := by have := HLn.out; omega
      obtain ⟨g, o, rfl, hg, he⟩ := HPu.out (by omega)
      obtain ⟨ad, had⟩ : ∃ ad, eK l k = ad := ⟨_, rfl⟩
      obtain ⟨x, hx⟩ : ∃ x, eP l k = x := ⟨_, rfl⟩
      have hck := he k hkl
      rw [had, hx] at hck
      have hbk := HBd.out k hkl
      rw [had] at hbk
      have HTk0 := Lib.hid (apL_take N odd l hkl)
      obtain ⟨l0, hl0⟩ : ∃ l0, apL N odd (l.take k) = l0 := ⟨_, rfl⟩
      rw [hl0] at HTk0 HO
      have hll : l0.length ≤ 1000 := by rw [← hl0, apL_len, List.length_take]; have := HLm.out; omega
      have d0 : wr.cell? ⟨g, o + k * 2, none⟩ = some (.int .u64 ad) := (hB.cell (p := ⟨g, o + k * 2, none⟩) hg).trans hck.1
      obtain ⟨v0, hv0⟩ : ∃ v0, u7 = v0 := ⟨_, rfl⟩
      rw [hv0] at HO ⊢
      have hkb : (k : Int) < (ln : Int) := by omega
      have HC := Lib.hid hck
      have HGl := Lib.hid hg
      have HKl := Lib.hid (show k < ln ∧ k + 1 ≤ ln from ⟨hlt, hlt⟩)
      have HLl := Lib.hid hll
      have HAd := Lib.hid hbk
      have had0 := hbk.1
      have had1 := hbk.2
      by_cases hcond : sz ≤ (ad / 64 / 2 * 2 + od) * 64
      · have hcd : sz ≤ (ad / 64 / 2 * 2 + od) * 64 := hcond
        obtain ⟨g2, hg2⟩ : ∃ g2, 64 * od = g2 := ⟨_, rfl⟩
        obtain ⟨r1, hr1⟩ : ∃ r1, ad % 64 = r1 := ⟨_, rfl⟩
        obtain ⟨r3, hr3⟩ : ∃ r3, g2 + r1 = r3 := ⟨_, rfl⟩
        have HF := Lib.hid (show IntKind.i64.wrap (64 * od) = g2 ∧ IntKind.u64.wrap g2 = g2 ∧ ad.tmod 64 = r1 ∧ IntKind.u64.wrap (g2 + r1) = r3 ∧ ad % 64 = r1 from ⟨by rw [hg2]; exact IntWalk.i64_in _ (by omega), IntWalk.u64_in _ (by omega), by rw [Int.tmod_eq_emod_of_nonneg hbk.1]; exact hr1, by rw [hr3]; exact IntWalk.u64_in _ (by omega), hr1⟩)
        have HTk := Lib.hid (show apL N odd (l.take (k + 1)) = l0 ++ [(r3, x)] from by
          rw [HTk0.out, had, hx]
          unfold apP apLn
          simp only
          rw [HSz0.out.2.2.2.1, ← HSz0.out.1, if_pos hcond, hg2, hr1, hr3])
        clear had hx hck hbk hl0 hll hg2 hr1 hr3 he hkl hlt hg hB hv0 hcond
        go_wp2_with (fail)
        --GEN r_ap8a
        refine wp_region_vals [Is v0, Is (.int .i64 od), Is (.int .i64 g2), Is (.int .u64 g2), Is (.slice (some ⟨g, o, none⟩) ln cap), Is (.int .i64 k), Is (.pointer (some ⟨g, o + k * 2, none⟩)), Is (.pointer (some ⟨g, o + k * 2, none⟩)), Is (.int .u64 ad), Is (.int .u64 r1), Is (.int .u64 r3), Is (.slice (some ⟨g, o, none⟩) ln cap), Is (.int .i64 k), Is (.pointer (some ⟨g, o + k * 2, none⟩)), Is (.pointer (some ⟨g, o + k * 2 + 1, none⟩)), Is (.int .u64 x), Is (.agg #[.int .u64 r3, .int .u64 x]), One v0 r3 x, RowB w1.heap.size (l0 ++ [(r3, x)]), RowB w1.heap.size (l0 ++ [(r3, x)])]
          (fun i => Keeps (fun g => i = 18 ∧ v0.ownBlock = some g)) (fun L W => (L 18 = true ∨ RowB w1.heap.size l0 v0 W) ∧ Below w1.heap.size w1 W) (by kernel_rfl) (by kernel_rfl) (by kernel_rfl) ?hst ?h0 ⟨?o0, ?o1, ?o2, ?o3, ?o4, ?o5, ?o6, ?o7, ?o8, ?o9, ?o10, ?o11, ?o12, ?o13, ?o14, ?o15, ?o16, ?o17, ?o18, ?o19, trivial⟩ ?he
        case hst =>
          exact ⟨(fun _ _ _ _ _ _ h _ => h), (fun _ _ _ _ _ _ h _ => h), (fun _ _ _ _ _ _ h _ => h), (fun _ _ _ _ _ _ h _ => h), (fun _ _ _ _ _ _ h _ => h), (fun _ _ _ _ _ _ h _ => h), (fun _ _ _ _ _ _ h _ => h), (fun _ _ _ _ _ _ h _ => h), (fun _ _ _ _ _ _ h _ => h), (fun _ _ _ _ _ _ h _ => h), (fun _ _ _ _ _ _ h _ => h), (fun _ _ _ _ _ _ h _ => h), (fun _ _ _ _ _ _ h _ => h), (fun _ _ _ _ _ _ h _ => h), (fun _ _ _ _ _ _ h _ => h), (fun _ _ _ _ _ _ h _ => h), (fun _ _ _ _ _ _ h _ => h), (fun _ _ _ _ _ _ h hR => by obtain ⟨H, e, hb, hn⟩ := h; exact ⟨H, e, hb.kept hR (fun hx => hn hx.2), hn⟩), (fun _ hij _ _ _ _ h hR => RowB.below h (Keeps.below (hR.mono (fun _ _ hx => hij hx.1)))), (fun i hij hw _ _ _ h hR => (if h20 : i = 18 then by (subst h20; have h3 : false = true := hw.symm.trans (by kernel_rfl); cases h3) else RowB.below h (Keeps.below (hR.mono (fun _ _ hx => h20 hx.1))))), trivial⟩
        case h0 =>
          exact ⟨.inr (HO.out.below (Below.refl _ _).drew), HB.out.drew⟩
        case o0 =>
          intro L vs A W H hf hd K hK
          have e7 : A.tmps[7]?.getD undef = v0 := H.later 7 0 hf (by kernel_rfl)
          go_simp
          exact hK _ _ (Keeps.refl _ _) rfl (H.glob)
        case o1 =>
          intro L vs A W H hf hd K hK
          have e9 : A.tmps[9]?.getD undef = .int .i64 od := H.old 9 (by kernel_rfl)
          go_simp
          exact hK _ _ (Keeps.refl _ _) rfl (H.glob)
        case o2 =>
          intro L vs A W H hf hd K hK
          have e33 := H.is 1 33 rfl rfl rfl (deps_of' hd 1 (by kernel_rfl)) (by kernel_rfl)
          have hw := HF.out.1
          go_simp
          exact hK _ _ (Keeps.refl _ _) rfl (H.glob)
        case o3 =>
          intro L vs A W H hf hd K hK
          have e34 := H.is 2 34 rfl rfl rfl (deps_of' hd 2 (by kernel_rfl)) (by kernel_rfl)
          have hw := HF.out.2.1
          go_simp
          exact hK _ _ (Keeps.refl _ _) rfl (H.glob)
        case o4 =>
          intro L vs A W H hf hd K hK
          have e0 : A.tmps[0]?.getD undef = .slice (some ⟨g, o, none⟩) ln cap := H.old 0 (by kernel_rfl)
          go_simp
          exact hK _ _ (Keeps.refl _ _) rfl (H.glob)
        case o5 =>
          intro L vs A W H hf hd K hK
          have e8 : A.tmps[8]?.getD undef = .int .i64 k := H.old 8 (by kernel_rfl)
          go_simp
          exact hK _ _ (Keeps.refl _ _) rfl (H.glob)
        case o6 =>
          intro L vs A W H hf hd K hK
          have e36 := H.is 4 36 rfl rfl rfl (deps_of' hd 4 (by kernel_rfl)) (by kernel_rfl)
          have e37 := H.is 5 37 rfl rfl rfl (deps_of' hd 5 (by kernel_rfl)) (by kernel_rfl)
          have hkl := HKl.out.1
          go_simp
          exact hK _ _ (Keeps.refl _ _) rfl (H.glob)
        case o7 =>
          intro L vs A W H hf hd K hK
          have e38 := H.is 6 38 rfl rfl rfl (deps_of' hd 6 (by kernel_rfl)) (by kernel_rfl)
          go_simp
          exact hK _ _ (Keeps.refl _ _) rfl (H.glob)
        case o8 =>
          intro L vs A W H hf hd K hK
          have e39 := H.is 7 39 rfl rfl rfl (deps_of' hd 7 (by kernel_rfl)) (by kernel_rfl)
          have d := (H.glob.2.cell (p := ⟨g, o + k * 2, none⟩) HGl.out).trans HC.out.1
          go_simp
          exact hK _ _ (Keeps.refl _ _) rfl (H.glob)
        case o9 =>
          intro L vs A W H hf hd K hK
          have e40 := H.is 8 40 rfl rfl rfl (deps_of' hd 8 (by kernel_rfl)) (by kernel_rfl)
          have hw := HF.out.2.2.1
          have hw2 := HF.out.2.2.2.2
          have hb2 := HAd.out
          go_simp
          exact hK _ _ (Keeps.refl _ _) rfl (H.glob)
        case o10 =>
          intro L vs A W H hf hd K hK
          have e35 := H.is 3 35 rfl rfl rfl (deps_of' hd 3 (by kernel_rfl)) (by kernel_rfl)
          have e41 := H.is 9 41 rfl rfl rfl (deps_of' hd 9 (by kernel_rfl)) (by kernel_rfl)
          have hw := HF.out.2.2.2.1
          go_simp
          exact hK _ _ (Keeps.refl _ _) rfl (H.glob)
        case o11 =>
          intro L vs A W H hf hd K hK
          have e0 : A.tmps[0]?.getD undef = .slice (some ⟨g, o, none⟩) ln cap := H.old 0 (by kernel_rfl)
          go_simp
          exact hK _ _ (Keeps.refl _ _) rfl (H.glob)
        case o12 =>
          intro L vs A W H hf hd K hK
          have e8 : A.tmps[8]?.getD undef = .int .i64 k := H.old 8 (by kernel_rfl)
          go_simp
          exact hK _ _ (Keeps.refl _ _) rfl (H.glob)
        case o13 =>
          intro L vs A W H hf hd K hK
          have e43 := H.is 11 43 rfl rfl rfl (deps_of' hd 11 (by kernel_rfl)) (by kernel_rfl)
          have e44 := H.is 12 44 rfl rfl rfl (deps_of' hd 12 (by kernel_rfl)) (by kernel_rfl)
          have hkl := HKl.out.1
          go_simp
          exact hK _ _ (Keeps.refl _ _) rfl (H.glob)
        case o14 =>
          intro L vs A W H hf hd K hK
          have e45 := H.is 13 45 rfl rfl rfl (deps_of' hd 13 (by kernel_rfl)) (by kernel_rfl)
          go_simp
          exact hK _ _ (Keeps.refl _ _) rfl (H.glob)
        case o15 =>
          intro L vs A W H hf hd K hK
          have e46 := H.is 14 46 rfl rfl rfl (deps_of' hd 14 (by kernel_rfl)) (by kernel_rfl)
          have d := (H.glob.2.cell (p := ⟨g, o + k * 2 + 1, none⟩) HGl.out).trans HC.out.2
          go_simp
          exact hK _ _ (Keeps.refl _ _) rfl (H.glob)
        case o16 =>
          intro L vs A W H hf hd K hK
          have e42 := H.is 10 42 rfl rfl rfl (deps_of' hd 10 (by kernel_rfl)) (by kernel_rfl)
          have e47 := H.is 15 47 rfl rfl rfl (deps_of' hd 15 (by kernel_rfl)) (by kernel_rfl)
          go_simp
          exact hK _ _ (Keeps.refl _ _) rfl (H.glob)
        case o17 =>
          intro L vs A W H hf hd K hK
          have e48 := H.is 16 48 rfl rfl rfl (deps_of' hd 16 (by kernel_rfl)) (by kernel_rfl)
          have n18 := H.notYet 18 17 rfl hf (by kernel_rfl)
          have hrow : RowB w1.heap.size l0 v0 W := by rcases H.glob.1 with h | h; (rw [n18] at h; cases h); exact h
          have hnb : v0.ownBlock ≠ some W.heap.size := fun e => by have := World.ownsRow.lt hrow _ e; omega
          have hgb := H.glob.2
          go_simp
          exact hK _ _ ((Keeps.refl _ _).alloc _) ⟨_, rfl, Blk.new _ _ _, hnb⟩ ⟨.inr (hrow.below ((Below.refl _ _).alloc (Nat.le_refl _) _)), hgb.alloc hgb.size _⟩
        case o18 =>
          intro L vs A W H hf hd K hK
          have e32 := H.is 0 32 rfl rfl rfl (deps_of' hd 0 (by kernel_rfl)) (by kernel_rfl)
          obtain ⟨v49, e49, q49⟩ := H.val 17 49 rfl rfl rfl (deps_of' hd 17 (by kernel_rfl)) (by kernel_rfl)
          have hf18 : L 18 = false := hf
          have hrow : RowB w1.heap.size l0 v0 W := by rcases H.glob.1 with h | h; (rw [hf18] at h; cases h); exact h
          have hgb := H.glob.2
          obtain ⟨H2, rfl, hb2, hn2⟩ := q49
          refine step_append_any (w := W) rfl (.tmp 32) (.tmp 49) 34 rfl w1.heap.size 25 i0 _ 2 16 Try.underlying34 hi hz0 hz1 hz2 rfl (by omega) v0 l0.length (ecells l0) (ev_tmp e32) hrow W.heap.size (some ⟨H2, 0, none⟩) 1 1 [.int .u64 r3, .int .u64 x] (ev_tmp e49) (reads_one2 hb2) (by simp [Value.oneCell']) (by unfold maxLen; have := HLl.out; omega) (by have := HLl.out; omega) hgb.size ?_
          intro v' w' hown' hg' _
          exact hK _ _ ((Keeps.refl _ _).grown hg' (fun _ e => .inl ⟨rfl, e⟩)) (row_one hown') ⟨.inl rfl, hgb.grown hg' hgb.size (fun r e => own_base hrow _ e)⟩
        case o19 =>
          intro L vs A W H hf hd K hK
          obtain ⟨v50, e50, q50⟩ := H.val 18 50 rfl rfl rfl (deps_of' hd 18 (by kernel_rfl)) (by kernel_rfl)
          rw [if_pos (show Region.wanted _ _ = true from rfl)]
          go_simp
          exact hK _ _ (Keeps.refl _ _) q50 H.glob
        case he =>
          intro vs W hlen hv
          match vs, hlen, hv with
          | [x0_, x1_, x2_, x3_, x4_, x5_, x6_, x7_, x8_, x9_, x10_, x11_, x12_, x13_, x14_, x15_, x16_, x17_, x18_, x19_], _, hv =>
          obtain rfl : v0 = x0_ := by obtain ⟨z, h1, h2⟩ := hv 0 _ rfl; cases h1; exact h2.symm
          obtain rfl : (.int .i64 od) = x1_ := by obtain ⟨z, h1, h2⟩ := hv 1 _ rfl; cases h1; exact h2.symm
          obtain rfl : (.int .i64 g2) = x2_ := by obtain ⟨z, h1, h2⟩ := hv 2 _ rfl; cases h1; exact h2.symm
          obtain rfl : (.int .u64 g2) = x3_ := by obtain ⟨z, h1, h2⟩ := hv 3 _ rfl; cases h1; exact h2.symm
          obtain rfl : (.slice (some ⟨g, o, none⟩) ln cap) = x4_ := by obtain ⟨z, h1, h2⟩ := hv 4 _ rfl; cases h1; exact h2.symm
          obtain rfl : (.int .i64 k) = x5_ := by obtain ⟨z, h1, h2⟩ := hv 5 _ rfl; cases h1; exact h2.symm
          obtain rfl : (.pointer (some ⟨g, o + k * 2, none⟩)) = x6_ := by obtain ⟨z, h1, h2⟩ := hv 6 _ rfl; cases h1; exact h2.symm
          obtain rfl : (.pointer (some ⟨g, o + k * 2, none⟩)) = x7_ := by obtain ⟨z, h1, h2⟩ := hv 7 _ rfl; cases h1; exact h2.symm
          obtain rfl : (.int .u64 ad) = x8_ := by obtain ⟨z, h1, h2⟩ := hv 8 _ rfl; cases h1; exact h2.symm
          obtain rfl : (.int .u64 r1) = x9_ := by obtain ⟨z, h1, h2⟩ := hv 9 _ rfl; cases h1; exact h2.symm
          obtain rfl : (.int .u64 r3) = x10_ := by obtain ⟨z, h1, h2⟩ := hv 10 _ rfl; cases h1; exact h2.symm
          obtain rfl : (.slice (some ⟨g, o, none⟩) ln cap) = x11_ := by obtain ⟨z, h1, h2⟩ := hv 11 _ rfl; cases h1; exact h2.symm
          obtain rfl : (.int .i64 k) = x12_ := by obtain ⟨z, h1, h2⟩ := hv 12 _ rfl; cases h1; exact h2.symm
          obtain rfl : (.pointer (some ⟨g, o + k * 2, none⟩)) = x13_ := by obtain ⟨z, h1, h2⟩ := hv 13 _ rfl; cases h1; exact h2.symm
          obtain rfl : (.pointer (some ⟨g, o + k * 2 + 1, none⟩)) = x14_ := by obtain ⟨z, h1, h2⟩ := hv 14 _ rfl; cases h1; exact h2.symm
          obtain rfl : (.int .u64 x) = x15_ := by obtain ⟨z, h1, h2⟩ := hv 15 _ rfl; cases h1; exact h2.symm
          obtain rfl : (.agg #[.int .u64 r3, .int .u64 x]) = x16_ := by obtain ⟨z, h1, h2⟩ := hv 16 _ rfl; cases h1; exact h2.symm
          have hx17 : (One v0 r3 x) x17_ W := by obtain ⟨z, h1, h2⟩ := hv 17 _ rfl; cases h1; exact h2
          have hx18 : (RowB w1.heap.size (l0 ++ [(r3, x)])) x18_ W := by obtain ⟨z, h1, h2⟩ := hv 18 _ rfl; cases h1; exact h2
          have hx19 : (RowB w1.heap.size (l0 ++ [(r3, x)])) x19_ W := by obtain ⟨z, h1, h2⟩ := hv 19 _ rfl; cases h1; exact h2
          intro L hall hG
          clear hv hlen
          have HO2 := Lib.hid hx19
          have HB2 := Lib.hid hG.2
          clear hG hall hx17 hx18 hx19
          simp only [fill, if_true]
          simp [Act.put]
          have hlm := HLm.out
          go_wp2_with (fail)
          go_roundw
          case rel => exact ⟨k + 1, HKl.out.2, by go_num, by rw [HTk.out]; exact HO2.out, HB2.out⟩
          case measure => have := HKl.out; simp [intOf]; omega
        --END
      · have hcd : ¬ sz ≤ (ad / 64 / 2 * 2 + od) * 64 := hcond
        obtain ⟨g2, hg2⟩ : ∃ g2, 64 * (ad / 64 / 2 * 2 + od) = g2 := ⟨_, rfl⟩
        obtain ⟨r1, hr1⟩ : ∃ r1, ad % 64 = r1 := ⟨_, rfl⟩
        obtain ⟨r3, hr3⟩ : ∃ r3, g2 + r1 = r3 := ⟨_, rfl⟩
        have HF := Lib.hid (show IntKind.i64.wrap (64 * (ad / 64 / 2 * 2 + od)) = g2 ∧ IntKind.u64.wrap g2 = g2 ∧ ad.tmod 64 = r1 ∧ IntKind.u64.wrap (g2 + r1) = r3 ∧ ad % 64 = r1 from ⟨by rw [hg2]; exact IntWalk.i64_in _ (by omega), IntWalk.u64_in _ (by omega), by rw [Int.tmod_eq_emod_of_nonneg hbk.1]; exact hr1, by rw [hr3]; exact IntWalk.u64_in _ (by omega), hr1⟩)
        have HTk := Lib.hid (show apL N odd (l.take (k + 1)) = l0 ++ [(r3, x)] from by
          rw [HTk0.out, had, hx]
          unfold apP apLn
          simp only
          rw [HSz0.out.2.2.2.1, ← HSz0.out.1, if_neg hcond, hg2, hr1, hr3])
        clear had hx hck hbk hl0 hll hg2 hr1 hr3 he hkl hlt hg hB hv0 hcond
        go_wp2_with (fail)
        --GEN r_ap8b
        refine wp_region_vals [Is v0, Is (.int .i64 (ad / 64 / 2 * 2 + od)), Is (.int .i64 g2), Is (.int .u64 g2), Is (.slice (some ⟨g, o, none⟩) ln cap), Is (.int .i64 k), Is (.pointer (some ⟨g, o + k * 2, none⟩)), Is (.pointer (some ⟨g, o + k * 2, none⟩)), Is (.int .u64 ad), Is (.int .u64 r1), Is (.int .u64 r3), Is (.slice (some ⟨g, o, none⟩) ln cap), Is (.int .i64 k), Is (.pointer (some ⟨g, o + k * 2, none⟩)), Is (.pointer (some ⟨g, o + k * 2 + 1, none⟩)), Is (.int .u64 x), Is (.agg #[.int .u64 r3, .int .u64 x]), One v0 r3 x, RowB w1.heap.size (l0 ++ [(r3, x)]), RowB w1.heap.size (l0 ++ [(r3, x)])]
          (fun i => Keeps (fun g => i = 18 ∧ v0.ownBlock = some g)) (fun L W => (L 18 = true ∨ RowB w1.heap.size l0 v0 W) ∧ Below w1.heap.size w1 W) (by kernel_rfl) (by kernel_rfl) (by kernel_rfl) ?hst ?h0 ⟨?o0, ?o1, ?o2, ?o3, ?o4, ?o5, ?o6, ?o7, ?o8, ?o9, ?o10, ?o11, ?o12, ?o13, ?o14, ?o15, ?o16, ?o17, ?o18, ?o19, trivial⟩ ?he
        case hst =>
          exact ⟨(fun _ _ _ _ _ _ h _ => h), (fun _ _ _ _ _ _ h _ => h), (fun _ _ _ _ _ _ h _ => h), (fun _ _ _ _ _ _ h _ => h), (fun _ _ _ _ _ _ h _ => h), (fun _ _ _ _ _ _ h _ => h), (fun _ _ _ _ _ _ h _ => h), (fun _ _ _ _ _ _ h _ => h), (fun _ _ _ _ _ _ h _ => h), (fun _ _ _ _ _ _ h _ => h), (fun _ _ _ _ _ _ h _ => h), (fun _ _ _ _ _ _ h _ => h), (fun _ _ _ _ _ _ h _ => h), (fun _ _ _ _ _ _ h _ => h), (fun _ _ _ _ _ _ h _ => h), (fun _ _ _ _ _ _ h _ => h), (fun _ _ _ _ _ _ h _ => h), (fun _ _ _ _ _ _ h hR => by obtain ⟨H, e, hb, hn⟩ := h; exact ⟨H, e, hb.kept hR (fun hx => hn hx.2), hn⟩), (fun _ hij _ _ _ _ h hR => RowB.below h (Keeps.below (hR.mono (fun _ _ hx => hij hx.1)))), (fun i hij hw _ _ _ h hR => (if h20 : i = 18 then by (subst h20; have h3 : false = true := hw.symm.trans (by kernel_rfl); cases h3) else RowB.below h (Keeps.below (hR.mono (fun _ _ hx => h20 hx.1))))), trivial⟩
        case h0 =>
          exact ⟨.inr (HO.out.below (Below.refl _ _).drew), HB.out.drew⟩
        case o0 =>
          intro L vs A W H hf hd K hK
          have e7 : A.tmps[7]?.getD undef = v0 := H.later 7 0 hf (by kernel_rfl)
          go_simp
          exact hK _ _ (Keeps.refl _ _) rfl (H.glob)
        case o1 =>
          intro L vs A W H hf hd K hK
          have e9 : A.tmps[9]?.getD undef = .int .i64 (ad / 64 / 2 * 2 + od) := H.old 9 (by kernel_rfl)
          go_simp
          exact hK _ _ (Keeps.refl _ _) rfl (H.glob)
        case o2 =>
          intro L vs A W H hf hd K hK
          have e33 := H.is 1 33 rfl rfl rfl (deps_of' hd 1 (by kernel_rfl)) (by kernel_rfl)
          have hw := HF.out.1
          go_simp
          exact hK _ _ (Keeps.refl _ _) rfl (H.glob)
        case o3 =>
          intro L vs A W H hf hd K hK
          have e34 := H.is 2 34 rfl rfl rfl (deps_of' hd 2 (by kernel_rfl)) (by kernel_rfl)
          have hw := HF.out.2.1
          go_simp
          exact hK _ _ (Keeps.refl _ _) rfl (H.glob)
        case o4 =>
          intro L vs A W H hf hd K hK
          have e0 : A.tmps[0]?.getD undef = .slice (some ⟨g, o, none⟩) ln cap := H.old 0 (by kernel_rfl)
          go_simp
          exact hK _ _ (Keeps.refl _ _) rfl (H.glob)
        case o5 =>
          intro L vs A W H hf hd K hK
          have e8 : A.tmps[8]?.getD undef = .int .i64 k := H.old 8 (by kernel_rfl)
          go_simp
          exact hK _ _ (Keeps.refl _ _) rfl (H.glob)
        case o6 =>
          intro L vs A W H hf hd K hK
          have e36 := H.is 4 36 rfl rfl rfl (deps_of' hd 4 (by kernel_rfl)) (by kernel_rfl)
          have e37 := H.is 5 37 rfl rfl rfl (deps_of' hd 5 (by kernel_rfl)) (by kernel_rfl)
          have hkl := HKl.out.1
          go_simp
          exact hK _ _ (Keeps.refl _ _) rfl (H.glob)
        case o7 =>
          intro L vs A W H hf hd K hK
          have e38 := H.is 6 38 rfl rfl rfl (deps_of' hd 6 (by kernel_rfl)) (by kernel_rfl)
          go_simp
          exact hK _ _ (Keeps.refl _ _) rfl (H.glob)
        case o8 =>
          intro L vs A W H hf hd K hK
          have e39 := H.is 7 39 rfl rfl rfl (deps_of' hd 7 (by kernel_rfl)) (by kernel_rfl)
          have d := (H.glob.2.cell (p := ⟨g, o + k * 2, none⟩) HGl.out).trans HC.out.1
          go_simp
          exact hK _ _ (Keeps.refl _ _) rfl (H.glob)
        case o9 =>
          intro L vs A W H hf hd K hK
          have e40 := H.is 8 40 rfl rfl rfl (deps_of' hd 8 (by kernel_rfl)) (by kernel_rfl)
          have hw := HF.out.2.2.1
          have hw2 := HF.out.2.2.2.2
          have hb2 := HAd.out
          go_simp
          exact hK _ _ (Keeps.refl _ _) rfl (H.glob)
        case o10 =>
          intro L vs A W H hf hd K hK
          have e35 := H.is 3 35 rfl rfl rfl (deps_of' hd 3 (by kernel_rfl)) (by kernel_rfl)
          have e41 := H.is 9 41 rfl rfl rfl (deps_of' hd 9 (by kernel_rfl)) (by kernel_rfl)
          have hw := HF.out.2.2.2.1
          go_simp
          exact hK _ _ (Keeps.refl _ _) rfl (H.glob)
        case o11 =>
          intro L vs A W H hf hd K hK
          have e0 : A.tmps[0]?.getD undef = .slice (some ⟨g, o, none⟩) ln cap := H.old 0 (by kernel_rfl)
          go_simp
          exact hK _ _ (Keeps.refl _ _) rfl (H.glob)
        case o12 =>
          intro L vs A W H hf hd K hK
          have e8 : A.tmps[8]?.getD undef = .int .i64 k := H.old 8 (by kernel_rfl)
          go_simp
          exact hK _ _ (Keeps.refl _ _) rfl (H.glob)
        case o13 =>
          intro L vs A W H hf hd K hK
          have e43 := H.is 11 43 rfl rfl rfl (deps_of' hd 11 (by kernel_rfl)) (by kernel_rfl)
          have e44 := H.is 12 44 rfl rfl rfl (deps_of' hd 12 (by kernel_rfl)) (by kernel_rfl)
          have hkl := HKl.out.1
          go_simp
          exact hK _ _ (Keeps.refl _ _) rfl (H.glob)
        case o14 =>
          intro L vs A W H hf hd K hK
          have e45 := H.is 13 45 rfl rfl rfl (deps_of' hd 13 (by kernel_rfl)) (by kernel_rfl)
          go_simp
          exact hK _ _ (Keeps.refl _ _) rfl (H.glob)
        case o15 =>
          intro L vs A W H hf hd K hK
          have e46 := H.is 14 46 rfl rfl rfl (deps_of' hd 14 (by kernel_rfl)) (by kernel_rfl)
          have d := (H.glob.2.cell (p := ⟨g, o + k * 2 + 1, none⟩) HGl.out).trans HC.out.2
          go_simp
          exact hK _ _ (Keeps.refl _ _) rfl (H.glob)
        case o16 =>
          intro L vs A W H hf hd K hK
          have e42 := H.is 10 42 rfl rfl rfl (deps_of' hd 10 (by kernel_rfl)) (by kernel_rfl)
          have e47 := H.is 15 47 rfl rfl rfl (deps_of' hd 15 (by kernel_rfl)) (by kernel_rfl)
          go_simp
          exact hK _ _ (Keeps.refl _ _) rfl (H.glob)
        case o17 =>
          intro L vs A W H hf hd K hK
          have e48 := H.is 16 48 rfl rfl rfl (deps_of' hd 16 (by kernel_rfl)) (by kernel_rfl)
          have n18 := H.notYet 18 17 rfl hf (by kernel_rfl)
          have hrow : RowB w1.heap.size l0 v0 W := by rcases H.glob.1 with h | h; (rw [n18] at h; cases h); exact h
          have hnb : v0.ownBlock ≠ some W.heap.size := fun e => by have := World.ownsRow.lt hrow _ e; omega
          have hgb := H.glob.2
          go_simp
          exact hK _ _ ((Keeps.refl _ _).alloc _) ⟨_, rfl, Blk.new _ _ _, hnb⟩ ⟨.inr (hrow.below ((Below.refl _ _).alloc (Nat.le_refl _) _)), hgb.alloc hgb.size _⟩
        case o18 =>
          intro L vs A W H hf hd K hK
          have e32 := H.is 0 32 rfl rfl rfl (deps_of' hd 0 (by kernel_rfl)) (by kernel_rfl)
          obtain ⟨v49, e49, q49⟩ := H.val 17 49 rfl rfl rfl (deps_of' hd 17 (by kernel_rfl)) (by kernel_rfl)
          have hf18 : L 18 = false := hf
          have hrow : RowB w1.heap.size l0 v0 W := by rcases H.glob.1 with h | h; (rw [hf18] at h; cases h); exact h
          have hgb := H.glob.2
          obtain ⟨H2, rfl, hb2, hn2⟩ := q49
          refine step_append_any (w := W) rfl (.tmp 32) (.tmp 49) 34 rfl w1.heap.size 25 i0 _ 2 16 Try.underlying34 hi hz0 hz1 hz2 rfl (by omega) v0 l0.length (ecells l0) (ev_tmp e32) hrow W.heap.size (some ⟨H2, 0, none⟩) 1 1 [.int .u64 r3, .int .u64 x] (ev_tmp e49) (reads_one2 hb2) (by simp [Value.oneCell']) (by unfold maxLen; have := HLl.out; omega) (by have := HLl.out; omega) hgb.size ?_
          intro v' w' hown' hg' _
          exact hK _ _ ((Keeps.refl _ _).grown hg' (fun _ e => .inl ⟨rfl, e⟩)) (row_one hown') ⟨.inl rfl, hgb.grown hg' hgb.size (fun r e => own_base hrow _ e)⟩
        case o19 =>
          intro L vs A W H hf hd K hK
          obtain ⟨v50, e50, q50⟩ := H.val 18 50 rfl rfl rfl (deps_of' hd 18 (by kernel_rfl)) (by kernel_rfl)
          rw [if_pos (show Region.wanted _ _ = true from rfl)]
          go_simp
          exact hK _ _ (Keeps.refl _ _) q50 H.glob
        case he =>
          intro vs W hlen hv
          match vs, hlen, hv with
          | [x0_, x1_, x2_, x3_, x4_, x5_, x6_, x7_, x8_, x9_, x10_, x11_, x12_, x13_, x14_, x15_, x16_, x17_, x18_, x19_], _, hv =>
          obtain rfl : v0 = x0_ := by obtain ⟨z, h1, h2⟩ := hv 0 _ rfl; cases h1; exact h2.symm
          obtain rfl : (.int .i64 (ad / 64 / 2 * 2 + od)) = x1_ := by obtain ⟨z, h1, h2⟩ := hv 1 _ rfl; cases h1; exact h2.symm
          obtain rfl : (.int .i64 g2) = x2_ := by obtain ⟨z, h1, h2⟩ := hv 2 _ rfl; cases h1; exact h2.symm
          obtain rfl : (.int .u64 g2) = x3_ := by obtain ⟨z, h1, h2⟩ := hv 3 _ rfl; cases h1; exact h2.symm
          obtain rfl : (.slice (some ⟨g, o, none⟩) ln cap) = x4_ := by obtain ⟨z, h1, h2⟩ := hv 4 _ rfl; cases h1; exact h2.symm
          obtain rfl : (.int .i64 k) = x5_ := by obtain ⟨z, h1, h2⟩ := hv 5 _ rfl; cases h1; exact h2.symm
          obtain rfl : (.pointer (some ⟨g, o + k * 2, none⟩)) = x6_ := by obtain ⟨z, h1, h2⟩ := hv 6 _ rfl; cases h1; exact h2.symm
          obtain rfl : (.pointer (some ⟨g, o + k * 2, none⟩)) = x7_ := by obtain ⟨z, h1, h2⟩ := hv 7 _ rfl; cases h1; exact h2.symm
          obtain rfl : (.int .u64 ad) = x8_ := by obtain ⟨z, h1, h2⟩ := hv 8 _ rfl; cases h1; exact h2.symm
          obtain rfl : (.int .u64 r1) = x9_ := by obtain ⟨z, h1, h2⟩ := hv 9 _ rfl; cases h1; exact h2.symm
          obtain rfl : (.int .u64 r3) = x10_ := by obtain ⟨z, h1, h2⟩ := hv 10 _ rfl; cases h1; exact h2.symm
          obtain rfl : (.slice (some ⟨g, o, none⟩) ln cap) = x11_ := by obtain ⟨z, h1, h2⟩ := hv 11 _ rfl; cases h1; exact h2.symm
          obtain rfl : (.int .i64 k) = x12_ := by obtain ⟨z, h1, h2⟩ := hv 12 _ rfl; cases h1; exact h2.symm
          obtain rfl : (.pointer (some ⟨g, o + k * 2, none⟩)) = x13_ := by obtain ⟨z, h1, h2⟩ := hv 13 _ rfl; cases h1; exact h2.symm
          obtain rfl : (.pointer (some ⟨g, o + k * 2 + 1, none⟩)) = x14_ := by obtain ⟨z, h1, h2⟩ := hv 14 _ rfl; cases h1; exact h2.symm
          obtain rfl : (.int .u64 x) = x15_ := by obtain ⟨z, h1, h2⟩ := hv 15 _ rfl; cases h1; exact h2.symm
          obtain rfl : (.agg #[.int .u64 r3, .int .u64 x]) = x16_ := by obtain ⟨z, h1, h2⟩ := hv 16 _ rfl; cases h1; exact h2.symm
          have hx17 : (One v0 r3 x) x17_ W := by obtain ⟨z, h1, h2⟩ := hv 17 _ rfl; cases h1; exact h2
          have hx18 : (RowB w1.heap.size (l0 ++ [(r3, x)])) x18_ W := by obtain ⟨z, h1, h2⟩ := hv 18 _ rfl; cases h1; exact h2
          have hx19 : (RowB w1.heap.size (l0 ++ [(r3, x)])) x19_ W := by obtain ⟨z, h1, h2⟩ := hv 19 _ rfl; cases h1; exact h2
          intro L hall hG
          clear hv hlen
          have HO2 := Lib.hid hx19
          have HB2 := Lib.hid hG.2
          clear hG hall hx17 hx18 hx19
          simp only [fill, if_true]
          simp [Act.put]
          have hlm := HLm.out
          go_wp2_with (fail)
          go_roundw
          case rel => exact ⟨k + 1, HKl.out.2, by go_num, by rw [HTk.out]; exact HO2.out, HB2.out⟩
          case measure => have := HKl.out; simp [intOf]; omega
        --END
    · have HE := Lib.hid (show l.take k = l from List.take_of_length_le (by have := HLn.out; omega))
      obtain rfl : k = ln := by omega
      clear hlt hB
      go_wp2_with (fail)
      go_ret
      exact ⟨_, rfl, by have := HO.out; rwa [HE.out] at this, HB.out⟩
end Go.Proofs.Ytefgahcadfmmoaa
