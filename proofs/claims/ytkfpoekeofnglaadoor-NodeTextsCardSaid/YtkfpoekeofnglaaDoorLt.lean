/-
  The law NodeTexts.
-/
import Derived.Test.YtkfpoekeofnglaaDoorRx2
import Derived.Test.YtkfpoekeofnglaaDoorKn
import Derived.Test.YtkfpoekeofnglaaDoorOn
namespace Go.Proofs.YtkfpoekeofnglaaDoor
open Go.RowKit

theorem u64n {a : Int} (h : (Lit.int .u64 a).wf = true) : ∃ u : Nat, a = u ∧ u < 18446744073709551616 := by
  have := u64_bounds h
  exact ⟨a.toNat, by omega, by omega⟩
theorem valid_wf {n : Nd} (h : n.Wf) : ∀ e ∈ n.valid, 0 ≤ e.1 ∧ e.1 < 18446744073709551616 ∧ 0 ≤ e.2 ∧ e.2 < 18446744073709551616 := by
  intro e he
  unfold Nd.valid at he
  obtain ⟨i, hi, rfl⟩ := List.mem_map.1 he
  have h8 : i < 8 := by have := plN_lt n i hi; have := n.len_le; omega
  have := u64_bounds (h.k i h8)
  have := u64_bounds (h.p i h8)
  simp only
  omega
/-- both texts of a node whose level is not below 0 -/
theorem both_texts (m : Nd) (hw : m.Wf) (h0 : 0 ≤ m.lv) : ∃ S : ByteArray, (∀ w, Tens w → Calls Tryd.prog 15 #[.agg (ndCells m)] w fun e w' => e = .returned (.string S) ∧ Below w.heap.size w w') ∧
    ∀ w, Calls Tryd.prog 16 #[.agg (ndCells m)] w fun e w' => e = .returned (.string S) ∧ Below w.heap.size w w' := by
  obtain ⟨lv, lo, nx, ct, fi, kf, pf⟩ := m
  obtain ⟨u1, e1, h1⟩ := u64n hw.lo
  obtain ⟨u2, e2, h2⟩ := u64n hw.nx
  obtain ⟨u3, e3, h3⟩ := u64n hw.ct
  obtain ⟨u4, e4, h4⟩ := u64n hw.fi
  have hl := i64_bounds hw.lv
  obtain ⟨u0, e0⟩ := Int.eq_ofNat_of_zero_le h0
  simp only at e0 e1 e2 e3 e4 hl
  subst e0 e1 e2 e3 e4
  have hv := valid_wf hw
  refine ⟨cat (rtext u0 u1 u2 u4 (Nd.valid ⟨u0, u1, u2, u3, u4, kf, pf⟩)), fun w ht => ?_, fun w => ?_⟩
  · have := ntext_calls u0 u1 u2 u3 u4 kf pf _ rfl (by omega) h1 h2 h4 hv w ht
    rw [← rtext_eq] at this
    exact this
  · exact rtext_calls u0 u1 u2 u3 u4 kf pf _ rfl (by omega) h1 h2 h4 hv w

set_option maxRecDepth 100000 in
set_option maxHeartbeats 3200000 in
theorem texts_law (n : Nd) (hw : n.Wf) (w : World) (ht : Tens w) :
    Calls Tryd.prog 4 #[.agg (ndCells n)] w fun e W' => e = .returned (.bool true) ∧ Below w.heap.size w W' := by
  have hk0 : Blk (w.alloc (.cells (ndCells n) 27)) w.heap.size (ndCells n) 27 := Blk.new w _ _
  have hB0 := (Below.refl w.heap.size w).alloc (Nat.le_refl _) (.cells (ndCells n) 27)
  have c0 : (w.alloc (.cells (ndCells n) 27)).cell? ⟨w.heap.size, 0, none⟩ = some (.int .i64 n.lv) := by rw [hk0.cell, ndCells_0]
  have f0 := hk0.frozen 0
  by_cases hl : n.lv < 0
  · obtain ⟨m, hm⟩ : ∃ m : Nd, { n with lv := 0 } = m := ⟨_, rfl⟩
    have hmw : m.Wf := by rw [← hm]; exact ⟨rfl, hw.lo, hw.nx, hw.ct, hw.fi, hw.k, hw.p⟩
    have hm0 : 0 ≤ m.lv := by rw [← hm]; exact Int.le_refl _
    have hcm : (ndCells n).setIfInBounds 0 (.int .i64 0) = ndCells m := by rw [← hm]; simp [ndCells]
    have HCM := Lib.hid hcm
    have HK0 := Lib.hid (show Blk (w.alloc (.cells (ndCells m) 27)) w.heap.size (ndCells m) 27 from Blk.new w _ _)
    have HB0 := Lib.hid ((Below.refl w.heap.size w).alloc (Nat.le_refl _) (.cells (ndCells m) 27))
    have HT := Lib.hid (ht.below HB0.out)
    obtain ⟨S, hS1, hS2⟩ := both_texts m hmw hm0
    have HTx := Lib.hid hS1
    have HRt := Lib.hid hS2
    clear hS1 hS2 hmw hm0
    clear hm hw hk0 hB0 ht hcm
    go_enter Tryd.func4, Tryd.ntmps4
    go_wp2_with (fail)
    rw [HCM.out]
    generalize w.alloc (.cells (ndCells m) 27) = w0 at *
    --GEN r_texts
    refine wp_region_vals [Is (.agg (ndCells m)), Is (.string S), Is (.agg (ndCells m)), Is (.string S), Is (.bool true), Is (.bool true), Is (.bool true), Is (.bool true), Is (.bool true)]
      (fun _ W W' => Below W.heap.size W W') (fun _ W => Below w0.heap.size w0 W) (by kernel_rfl) (by kernel_rfl) (by kernel_rfl) ?hst ?h0 ⟨?o0, ?o1, ?o2, ?o3, ?o4, ?o5, ?o6, ?o7, ?o8, trivial⟩ ?he
    case hst =>
      exact ⟨(fun _ _ _ _ _ _ h _ => h), (fun _ _ _ _ _ _ h _ => h), (fun _ _ _ _ _ _ h _ => h), (fun _ _ _ _ _ _ h _ => h), (fun _ _ _ _ _ _ h _ => h), (fun _ _ _ _ _ _ h _ => h), (fun _ _ _ _ _ _ h _ => h), (fun _ _ _ _ _ _ h _ => h), (fun _ _ _ _ _ _ h _ => h), trivial⟩
    case h0 =>
      exact (Below.refl _ _).drew
    case o0 =>
      intro L vs A W H hf hd K hK
      have e1 : A.tmps[1]?.getD undef = .pointer (some ⟨w.heap.size, 0, none⟩) := H.old 1 (by kernel_rfl)
      rw [if_pos (show Region.wanted _ _ = true from rfl)]
      exact wp_load_nd _ rfl w.heap.size m (ev_tmp e1) (HK0.out.below H.glob HK0.out.lt) (hK _ _ (Below.refl _ _) rfl H.glob)
    case o1 =>
      intro L vs A W H hf hd K hK
      have e7 := H.is 0 7 rfl rfl rfl (deps_of' hd 0 (by kernel_rfl)) (by kernel_rfl)
      rw [if_pos (show Region.wanted _ _ = true from rfl)]
      go_wp2_with (fail)
      refine (HTx.out _ (HT.out.below H.glob)).mono ?_
      rintro e W2 ⟨rfl, hB⟩
      exact hK _ _ hB rfl (H.glob.trans (hB.mono H.glob.size))
    case o2 =>
      intro L vs A W H hf hd K hK
      have e1 : A.tmps[1]?.getD undef = .pointer (some ⟨w.heap.size, 0, none⟩) := H.old 1 (by kernel_rfl)
      rw [if_pos (show Region.wanted _ _ = true from rfl)]
      exact wp_load_nd _ rfl w.heap.size m (ev_tmp e1) (HK0.out.below H.glob HK0.out.lt) (hK _ _ (Below.refl _ _) rfl H.glob)
    case o3 =>
      intro L vs A W H hf hd K hK
      have e9 := H.is 2 9 rfl rfl rfl (deps_of' hd 2 (by kernel_rfl)) (by kernel_rfl)
      rw [if_pos (show Region.wanted _ _ = true from rfl)]
      go_wp2_with (fail)
      refine (HRt.out _).mono ?_
      rintro e W2 ⟨rfl, hB⟩
      exact hK _ _ hB rfl (H.glob.trans (hB.mono H.glob.size))
    case o4 =>
      intro L vs A W H hf hd K hK
      have e8 := H.is 1 8 rfl rfl rfl (deps_of' hd 1 (by kernel_rfl)) (by kernel_rfl)
      have e10 := H.is 3 10 rfl rfl rfl (deps_of' hd 3 (by kernel_rfl)) (by kernel_rfl)
      go_simp
      exact hK _ _ (Below.refl _ _) rfl (H.glob)
    case o5 =>
      intro L vs A W H hf hd K hK
      have e11 := H.is 4 11 rfl rfl rfl (deps_of' hd 4 (by kernel_rfl)) (by kernel_rfl)
      go_simp
      exact hK _ _ (Below.refl _ _) rfl (H.glob)
    case o6 =>
      intro L vs A W H hf hd K hK
      have e12 := H.is 5 12 rfl rfl rfl (deps_of' hd 5 (by kernel_rfl)) (by kernel_rfl)
      refine if_wanted (j := 5) (s := 12) rfl rfl rfl e12 rfl ?_
      go_wp2_with (fail)
      refine (known_v _ (HT.out.below H.glob)).mono ?_
      rintro e W2 ⟨rfl, hB⟩
      exact hK _ _ hB rfl (H.glob.trans (hB.mono H.glob.size))
    case o7 =>
      intro L vs A W H hf hd K hK
      have e12 := H.is 5 12 rfl rfl rfl (deps_of' hd 5 (by kernel_rfl)) (by kernel_rfl)
      have e13 := H.is 6 13 rfl rfl rfl (deps_of' hd 6 (by kernel_rfl)) (by kernel_rfl)
      go_simp
      exact hK _ _ (Below.refl _ _) rfl (H.glob)
    case o8 =>
      intro L vs A W H hf hd K hK
      have e14 := H.is 7 14 rfl rfl rfl (deps_of' hd 7 (by kernel_rfl)) (by kernel_rfl)
      go_simp
      exact hK _ _ (Below.refl _ _) rfl (H.glob)
    case he =>
      intro vs W hlen hv
      match vs, hlen, hv with
      | [x0_, x1_, x2_, x3_, x4_, x5_, x6_, x7_, x8_], _, hv =>
      obtain rfl : (.agg (ndCells m)) = x0_ := by obtain ⟨z, h1, h2⟩ := hv 0 _ rfl; cases h1; exact h2.symm
      obtain rfl : (.string S) = x1_ := by obtain ⟨z, h1, h2⟩ := hv 1 _ rfl; cases h1; exact h2.symm
      obtain rfl : (.agg (ndCells m)) = x2_ := by obtain ⟨z, h1, h2⟩ := hv 2 _ rfl; cases h1; exact h2.symm
      obtain rfl : (.string S) = x3_ := by obtain ⟨z, h1, h2⟩ := hv 3 _ rfl; cases h1; exact h2.symm
      obtain rfl : (.bool true) = x4_ := by obtain ⟨z, h1, h2⟩ := hv 4 _ rfl; cases h1; exact h2.symm
      obtain rfl : (.bool true) = x5_ := by obtain ⟨z, h1, h2⟩ := hv 5 _ rfl; cases h1; exact h2.symm
      obtain rfl : (.bool true) = x6_ := by obtain ⟨z, h1, h2⟩ := hv 6 _ rfl; cases h1; exact h2.symm
      obtain rfl : (.bool true) = x7_ := by obtain ⟨z, h1, h2⟩ := hv 7 _ rfl; cases h1; exact h2.symm
      obtain rfl : (.bool true) = x8_ := by obtain ⟨z, h1, h2⟩ := hv 8 _ rfl; cases h1; exact h2.symm
      intro L hall hG
      clear hv hlen
      have HB := Lib.hid (HB0.out.trans (hG.mono HB0.out.size))
      clear hG hall
      simp only [fill, if_true]
      go_simp
      go_wp2_with (fail)
      go_ret
      exact ⟨rfl, HB.out⟩
    --END
  · obtain ⟨m, rfl⟩ : ∃ m : Nd, m = n := ⟨n, rfl⟩
    have hmw := hw
    have hm0 : 0 ≤ m.lv := by omega
    have HK0 := Lib.hid hk0
    have HB0 := Lib.hid hB0
    have HT := Lib.hid (ht.below HB0.out)
    obtain ⟨S, hS1, hS2⟩ := both_texts m hmw hm0
    have HTx := Lib.hid hS1
    have HRt := Lib.hid hS2
    clear hS1 hS2 hmw hm0
    clear hw hk0 hB0 ht
    go_enter Tryd.func4, Tryd.ntmps4
    go_wp2_with (fail)
    generalize w.alloc (.cells (ndCells m) 27) = w0 at *
    --GEN r_texts
    refine wp_region_vals [Is (.agg (ndCells m)), Is (.string S), Is (.agg (ndCells m)), Is (.string S), Is (.bool true), Is (.bool true), Is (.bool true), Is (.bool true), Is (.bool true)]
      (fun _ W W' => Below W.heap.size W W') (fun _ W => Below w0.heap.size w0 W) (by kernel_rfl) (by kernel_rfl) (by kernel_rfl) ?hst ?h0 ⟨?o0, ?o1, ?o2, ?o3, ?o4, ?o5, ?o6, ?o7, ?o8, trivial⟩ ?he
    case hst =>
      exact ⟨(fun _ _ _ _ _ _ h _ => h), (fun _ _ _ _ _ _ h _ => h), (fun _ _ _ _ _ _ h _ => h), (fun _ _ _ _ _ _ h _ => h), (fun _ _ _ _ _ _ h _ => h), (fun _ _ _ _ _ _ h _ => h), (fun _ _ _ _ _ _ h _ => h), (fun _ _ _ _ _ _ h _ => h), (fun _ _ _ _ _ _ h _ => h), trivial⟩
    case h0 =>
      exact (Below.refl _ _).drew
    case o0 =>
      intro L vs A W H hf hd K hK
      have e1 : A.tmps[1]?.getD undef = .pointer (some ⟨w.heap.size, 0, none⟩) := H.old 1 (by kernel_rfl)
      rw [if_pos (show Region.wanted _ _ = true from rfl)]
      exact wp_load_nd _ rfl w.heap.size m (ev_tmp e1) (HK0.out.below H.glob HK0.out.lt) (hK _ _ (Below.refl _ _) rfl H.glob)
    case o1 =>
      intro L vs A W H hf hd K hK
      have e7 := H.is 0 7 rfl rfl rfl (deps_of' hd 0 (by kernel_rfl)) (by kernel_rfl)
      rw [if_pos (show Region.wanted _ _ = true from rfl)]
      go_wp2_with (fail)
      refine (HTx.out _ (HT.out.below H.glob)).mono ?_
      rintro e W2 ⟨rfl, hB⟩
      exact hK _ _ hB rfl (H.glob.trans (hB.mono H.glob.size))
    case o2 =>
      intro L vs A W H hf hd K hK
      have e1 : A.tmps[1]?.getD undef = .pointer (some ⟨w.heap.size, 0, none⟩) := H.old 1 (by kernel_rfl)
      rw [if_pos (show Region.wanted _ _ = true from rfl)]
      exact wp_load_nd _ rfl w.heap.size m (ev_tmp e1) (HK0.out.below H.glob HK0.out.lt) (hK _ _ (Below.refl _ _) rfl H.glob)
    case o3 =>
      intro L vs A W H hf hd K hK
      have e9 := H.is 2 9 rfl rfl rfl (deps_of' hd 2 (by kernel_rfl)) (by kernel_rfl)
      rw [if_pos (show Region.wanted _ _ = true from rfl)]
      go_wp2_with (fail)
      refine (HRt.out _).mono ?_
      rintro e W2 ⟨rfl, hB⟩
      exact hK _ _ hB rfl (H.glob.trans (hB.mono H.glob.size))
    case o4 =>
      intro L vs A W H hf hd K hK
      have e8 := H.is 1 8 rfl rfl rfl (deps_of' hd 1 (by kernel_rfl)) (by kernel_rfl)
      have e10 := H.is 3 10 rfl rfl rfl (deps_of' hd 3 (by kernel_rfl)) (by kernel_rfl)
      go_simp
      exact hK _ _ (Below.refl _ _) rfl (H.glob)
    case o5 =>
      intro L vs A W H hf hd K hK
      have e11 := H.is 4 11 rfl rfl rfl (deps_of' hd 4 (by kernel_rfl)) (by kernel_rfl)
      go_simp
      exact hK _ _ (Below.refl _ _) rfl (H.glob)
    case o6 =>
      intro L vs A W H hf hd K hK
      have e12 := H.is 5 12 rfl rfl rfl (deps_of' hd 5 (by kernel_rfl)) (by kernel_rfl)
      refine if_wanted (j := 5) (s := 12) rfl rfl rfl e12 rfl ?_
      go_wp2_with (fail)
      refine (known_v _ (HT.out.below H.glob)).mono ?_
      rintro e W2 ⟨rfl, hB⟩
      exact hK _ _ hB rfl (H.glob.trans (hB.mono H.glob.size))
    case o7 =>
      intro L vs A W H hf hd K hK
      have e12 := H.is 5 12 rfl rfl rfl (deps_of' hd 5 (by kernel_rfl)) (by kernel_rfl)
      have e13 := H.is 6 13 rfl rfl rfl (deps_of' hd 6 (by kernel_rfl)) (by kernel_rfl)
      go_simp
      exact hK _ _ (Below.refl _ _) rfl (H.glob)
    case o8 =>
      intro L vs A W H hf hd K hK
      have e14 := H.is 7 14 rfl rfl rfl (deps_of' hd 7 (by kernel_rfl)) (by kernel_rfl)
      go_simp
      exact hK _ _ (Below.refl _ _) rfl (H.glob)
    case he =>
      intro vs W hlen hv
      match vs, hlen, hv with
      | [x0_, x1_, x2_, x3_, x4_, x5_, x6_, x7_, x8_], _, hv =>
      obtain rfl : (.agg (ndCells m)) = x0_ := by obtain ⟨z, h1, h2⟩ := hv 0 _ rfl; cases h1; exact h2.symm
      obtain rfl : (.string S) = x1_ := by obtain ⟨z, h1, h2⟩ := hv 1 _ rfl; cases h1; exact h2.symm
      obtain rfl : (.agg (ndCells m)) = x2_ := by obtain ⟨z, h1, h2⟩ := hv 2 _ rfl; cases h1; exact h2.symm
      obtain rfl : (.string S) = x3_ := by obtain ⟨z, h1, h2⟩ := hv 3 _ rfl; cases h1; exact h2.symm
      obtain rfl : (.bool true) = x4_ := by obtain ⟨z, h1, h2⟩ := hv 4 _ rfl; cases h1; exact h2.symm
      obtain rfl : (.bool true) = x5_ := by obtain ⟨z, h1, h2⟩ := hv 5 _ rfl; cases h1; exact h2.symm
      obtain rfl : (.bool true) = x6_ := by obtain ⟨z, h1, h2⟩ := hv 6 _ rfl; cases h1; exact h2.symm
      obtain rfl : (.bool true) = x7_ := by obtain ⟨z, h1, h2⟩ := hv 7 _ rfl; cases h1; exact h2.symm
      obtain rfl : (.bool true) = x8_ := by obtain ⟨z, h1, h2⟩ := hv 8 _ rfl; cases h1; exact h2.symm
      intro L hall hG
      clear hv hlen
      have HB := Lib.hid (HB0.out.trans (hG.mono HB0.out.size))
      clear hG hall
      simp only [fill, if_true]
      go_simp
      go_wp2_with (fail)
      go_ret
      exact ⟨rfl, HB.out⟩
    --END
end Go.Proofs.YtkfpoekeofnglaaDoor
