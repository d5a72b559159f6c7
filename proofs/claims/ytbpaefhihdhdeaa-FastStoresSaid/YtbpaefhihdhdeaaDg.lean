/-
  The document's gap: a contract.
-/
import Derived.Test.YtbpaefhihdhdeaaDw
namespace Go.Proofs.Ytbpaefhihdhdeaa
open Go.RowKit
set_option linter.unusedVariables false

/-- two stores in a block of their own -/
def Two (v0 : Value) (a1 x1 a2 x2 : Int) (v : Value) (W : World) : Prop := ∃ H, v = .slice (some ⟨H, 0, none⟩) 2 2 ∧ Blk W H #[.int .u64 a1, .int .u64 x1, .int .u64 a2, .int .u64 x2] 36 ∧ v0.ownBlock ≠ some H
theorem reads_two {W : World} {H : Nat} {a b c d : Value} {t : TypeId} (h : Blk W H #[a, b, c, d] t) : Reads W W.heap.size 2 (some ⟨H, 0, none⟩) 2 [a, b, c, d] := by
  refine ⟨by simp, fun _ => ⟨_, rfl, h.lt, fun j u hu => ?_⟩⟩
  have ha : (⟨H, 0, none⟩ : Addr).add j = ⟨H, j, none⟩ := by unfold Addr.add; split <;> simp_all
  rw [ha, h.cell]
  simpa using hu
theorem row_two {B : Nat} {l0 : List (Int × Int)} {v : Value} {W : World} {a1 x1 a2 x2 : Int} (h : W.ownsRow B 36 2 v (l0.length + 2) (ecells l0 ++ [.int .u64 a1, .int .u64 x1, .int .u64 a2, .int .u64 x2])) : RowB B (l0 ++ [(a1, x1), (a2, x2)]) v W := by
  unfold RowB
  rw [ecells_app]
  simpa [ecells] using h

set_option maxRecDepth 100000 in
set_option maxHeartbeats 6400000 in
theorem gap_v (base : Int) (n : Nd) (p q : Nat) (hq : n.len = q + 1) (hpq : p ≤ q) (w : World) (s0 : 0 ≤ base) (s2 : base ≤ 1099511627776) :
    Calls Try.prog 66 #[.int .u64 base, .agg (ndCells n), .int .i64 p] w fun e w' => RowP (gapL base n p (q - p) ++ [(base + 64 + 16 * (q : Int) + 8, 0)]) w e w' := by
  obtain ⟨i0, hi, hz0, hz1, hz2⟩ := info_parts Try.info36
  have HI := Lib.hid (info27 n)
  have hk0 : Blk (w.alloc (.cells (ndCells n) 27)) w.heap.size (ndCells n) 27 := Blk.new w _ _
  have HK0 := Lib.hid hk0
  have HL0 := Lib.hid (ndLoad hk0)
  have HB0 := Lib.hid ((Below.refl w.heap.size w).alloc (Nat.le_refl _) (.cells (ndCells n) 27))
  have h8 := n.len_le
  have hq8 : q + 1 ≤ 8 := by omega
  have HLn := Lib.hid (fun w => rlen_calls n w)
  rw [hq, Int.natCast_add, Int.natCast_one] at HLn
  clear hk0 hq h8
  go_enter Try.func66, Try.ntmps66
  go_wp2_with (with_reducible refine wpList_load_part (o := ⟨some 10, _, _, _, _, _⟩) rfl 27 _ rfl w.heap.size 0 rfl (ndCells n) _ HL0.out Try.underlying27 rfl HI.out ?_)
  refine (HLn.out _).mono ?_
  rintro e w1 ⟨rfl, hB⟩
  have HB1 := Lib.hid (HB0.out.trans (hB.mono HB0.out.size))
  have HK1 := Lib.hid (HK0.out.below hB HK0.out.lt)
  have HS4 := Lib.hid HK1.out.lt
  obtain ⟨b4, hb4⟩ : ∃ b, w.heap.size = b := ⟨_, rfl⟩
  rw [hb4] at HK1 HS4 ⊢
  clear hB HB0 HK0 HL0 hb4
  go_wp2_with (fail)
  go_loopw [7, 9] (fun ov iv wr => ∃ k : Nat, p ≤ k ∧ k ≤ q ∧ iv = .int .i64 k ∧ Hid (RowB w1.heap.size (gapL base n p (k - p)) ov wr) ∧ Hid (Blk wr b4 (ndCells n) 27) ∧ Hid (Below w1.heap.size w1 wr)) (fun _ iv _ => q - (intOf iv).toNat)
  case atStart => exact ⟨p, Nat.le_refl _, hpq, rfl, Lib.hid (by rw [Nat.sub_self]; exact World.ownsRow_nil _ _ _ _), HK1, Lib.hid (Below.refl _ _)⟩
  case round =>
    obtain ⟨k, hpk, hkq, rfl, HO, HK, HB⟩ := hrel
    by_cases hlt : k < q
    · have hk8 : k + 1 < 8 := by omega
      obtain ⟨x1, hx1⟩ : ∃ x, n.k (k + 1) = x := ⟨_, rfl⟩
      obtain ⟨x2, hx2⟩ : ∃ x, n.p (k + 1) = x := ⟨_, rfl⟩
      obtain ⟨a1, ha1⟩ : ∃ x, base + 64 + 16 * (k : Int) = x := ⟨_, rfl⟩
      obtain ⟨a2, ha2⟩ : ∃ x, base + 64 + 16 * (k : Int) + 8 = x := ⟨_, rfl⟩
      have HX := Lib.hid (And.intro hx1 hx2)
      have HKt := Lib.hid (fun w => kt_a base k s0 s2 (by omega) w)
      have HPt := Lib.hid (fun w => pt_b base k s0 s2 (by omega) w)
      have HGp := Lib.hid (show gapL base n p (k - p) ++ [(a1, x1), (a2, x2)] = gapL base n p (k + 1 - p) by
        rw [show k + 1 - p = (k - p) + 1 by omega, gapL, show p + (k - p) = k by omega, hx1, hx2, ha2, ha1])
      rw [ha1] at HKt
      rw [ha2] at HPt
      have HLl := Lib.hid (show (gapL base n p (k - p)).length ≤ 100 by rw [gapL_len]; omega)
      obtain ⟨l0, hl0⟩ : ∃ l, gapL base n p (k - p) = l := ⟨_, rfl⟩
      rw [hl0] at HO HGp HLl
      obtain ⟨v0, rfl⟩ : ∃ v, v = u7 := ⟨_, rfl⟩
      have b1 : (k : Int) + 1 < (q : Int) + 1 := by omega
      have b2 : (k : Int) + 1 < 8 := by omega
      have b3 : ((k : Int) + 1).toNat = k + 1 := by omega
      have HWk := Lib.hid (show IntKind.i64.wrap ((k : Int) + 1) = (k : Int) + 1 from IntWalk.i64_in _ (by omega))
      clear hx1 hx2 ha1 ha2 hl0
      go_upto_region 6 with (fail)
      --GEN r_gap
      refine wp_region_vals [Is v0, Is (.int .u64 base), Is (.int .i64 k), Is (.int .u64 a1), Is (.int .i64 k), Is (.int .i64 ((k : Int) + 1)), Is (.pointer (some ⟨b4, 5, none⟩)), Is (.pointer (some ⟨b4, 5 + (k + 1), none⟩)), Is (.int .u64 x1), Is (.agg #[.int .u64 a1, .int .u64 x1]), Is (.int .u64 base), Is (.int .i64 k), Is (.int .u64 a2), Is (.int .i64 k), Is (.int .i64 ((k : Int) + 1)), Is (.pointer (some ⟨b4, 13, none⟩)), Is (.pointer (some ⟨b4, 13 + (k + 1), none⟩)), Is (.int .u64 x2), Is (.agg #[.int .u64 a2, .int .u64 x2]), Two v0 a1 x1 a2 x2, RowB w1.heap.size (l0 ++ [(a1, x1), (a2, x2)]), RowB w1.heap.size (l0 ++ [(a1, x1), (a2, x2)])]
        (fun i => Keeps (fun g => i = 20 ∧ v0.ownBlock = some g)) (fun L W => (L 20 = true ∨ RowB w1.heap.size l0 v0 W) ∧ Blk W b4 (ndCells n) 27 ∧ Below w1.heap.size w1 W) (by kernel_rfl) (by kernel_rfl) (by kernel_rfl) ?hst ?h0 ⟨?o0, ?o1, ?o2, ?o3, ?o4, ?o5, ?o6, ?o7, ?o8, ?o9, ?o10, ?o11, ?o12, ?o13, ?o14, ?o15, ?o16, ?o17, ?o18, ?o19, ?o20, ?o21, trivial⟩ ?he
      case hst =>
        exact ⟨(fun _ _ _ _ _ _ h _ => h), (fun _ _ _ _ _ _ h _ => h), (fun _ _ _ _ _ _ h _ => h), (fun _ _ _ _ _ _ h _ => h), (fun _ _ _ _ _ _ h _ => h), (fun _ _ _ _ _ _ h _ => h), (fun _ _ _ _ _ _ h _ => h), (fun _ _ _ _ _ _ h _ => h), (fun _ _ _ _ _ _ h _ => h), (fun _ _ _ _ _ _ h _ => h), (fun _ _ _ _ _ _ h _ => h), (fun _ _ _ _ _ _ h _ => h), (fun _ _ _ _ _ _ h _ => h), (fun _ _ _ _ _ _ h _ => h), (fun _ _ _ _ _ _ h _ => h), (fun _ _ _ _ _ _ h _ => h), (fun _ _ _ _ _ _ h _ => h), (fun _ _ _ _ _ _ h _ => h), (fun _ _ _ _ _ _ h _ => h), (fun _ _ _ _ _ _ h hR => by obtain ⟨H, e, hb, hn⟩ := h; exact ⟨H, e, hb.kept hR (fun hx => hn hx.2), hn⟩), (fun _ hij _ _ _ _ h hR => RowB.below h (Keeps.below (hR.mono (fun _ _ hx => hij hx.1)))), (fun i hij hw _ _ _ h hR => (if h20 : i = 20 then by (subst h20; have h3 : false = true := hw.symm.trans (by kernel_rfl); cases h3) else RowB.below h (Keeps.below (hR.mono (fun _ _ hx => h20 hx.1))))), trivial⟩
      case h0 =>
        exact ⟨.inr (HO.out.below (Below.refl _ _).drew), HK.out.drew, HB.out.drew⟩
      case o0 =>
        intro L vs A W H hf hd K hK
        have e7 : A.tmps[7]?.getD undef = v0 := H.later 7 0 hf (by kernel_rfl)
        go_simp
        exact hK _ _ (Keeps.refl _ _) rfl (H.glob)
      case o1 =>
        intro L vs A W H hf hd K hK
        have e0 : A.tmps[0]?.getD undef = .int .u64 base := H.old 0 (by kernel_rfl)
        go_simp
        exact hK _ _ (Keeps.refl _ _) rfl (H.glob)
      case o2 =>
        intro L vs A W H hf hd K hK
        have e9 : A.tmps[9]?.getD undef = .int .i64 k := H.old 9 (by kernel_rfl)
        go_simp
        exact hK _ _ (Keeps.refl _ _) rfl (H.glob)
      case o3 =>
        intro L vs A W H hf hd K hK
        have e20 := H.is 1 20 rfl rfl rfl (deps_of' hd 1 (by kernel_rfl)) (by kernel_rfl)
        have e21 := H.is 2 21 rfl rfl rfl (deps_of' hd 2 (by kernel_rfl)) (by kernel_rfl)
        rw [if_pos (show Region.wanted _ _ = true from rfl)]
        go_wp2_with (fail)
        refine (HKt.out _).mono ?_
        rintro e W2 ⟨rfl, rfl⟩
        exact hK _ _ (Keeps.refl _ _) rfl H.glob
      case o4 =>
        intro L vs A W H hf hd K hK
        have e9 : A.tmps[9]?.getD undef = .int .i64 k := H.old 9 (by kernel_rfl)
        go_simp
        exact hK _ _ (Keeps.refl _ _) rfl (H.glob)
      case o5 =>
        intro L vs A W H hf hd K hK
        have e23 := H.is 4 23 rfl rfl rfl (deps_of' hd 4 (by kernel_rfl)) (by kernel_rfl)
        have wk := HWk.out
        go_simp
        exact hK _ _ (Keeps.refl _ _) rfl (H.glob)
      case o6 =>
        intro L vs A W H hf hd K hK
        have e4 : A.tmps[4]?.getD undef = .pointer (some ⟨b4, 0, none⟩) := H.old 4 (by kernel_rfl)
        go_simp
        exact hK _ _ (Keeps.refl _ _) rfl (H.glob)
      case o7 =>
        intro L vs A W H hf hd K hK
        have e25 := H.is 6 25 rfl rfl rfl (deps_of' hd 6 (by kernel_rfl)) (by kernel_rfl)
        have e24 := H.is 5 24 rfl rfl rfl (deps_of' hd 5 (by kernel_rfl)) (by kernel_rfl)
        go_simp
        exact hK _ _ (Keeps.refl _ _) rfl (H.glob)
      case o8 =>
        intro L vs A W H hf hd K hK
        have e26 := H.is 7 26 rfl rfl rfl (deps_of' hd 7 (by kernel_rfl)) (by kernel_rfl)
        have d1 : W.cell? ⟨b4, 5 + (k + 1), none⟩ = some (.int .u64 x1) := by rw [H.glob.2.1.cell, ndCells_k n (k + 1) hk8, HX.out.1]
        go_simp
        exact hK _ _ (Keeps.refl _ _) rfl (H.glob)
      case o9 =>
        intro L vs A W H hf hd K hK
        have e22 := H.is 3 22 rfl rfl rfl (deps_of' hd 3 (by kernel_rfl)) (by kernel_rfl)
        have e27 := H.is 8 27 rfl rfl rfl (deps_of' hd 8 (by kernel_rfl)) (by kernel_rfl)
        go_simp
        exact hK _ _ (Keeps.refl _ _) rfl (H.glob)
      case o10 =>
        intro L vs A W H hf hd K hK
        have e0 : A.tmps[0]?.getD undef = .int .u64 base := H.old 0 (by kernel_rfl)
        go_simp
        exact hK _ _ (Keeps.refl _ _) rfl (H.glob)
      case o11 =>
        intro L vs A W H hf hd K hK
        have e9 : A.tmps[9]?.getD undef = .int .i64 k := H.old 9 (by kernel_rfl)
        go_simp
        exact hK _ _ (Keeps.refl _ _) rfl (H.glob)
      case o12 =>
        intro L vs A W H hf hd K hK
        have e29 := H.is 10 29 rfl rfl rfl (deps_of' hd 10 (by kernel_rfl)) (by kernel_rfl)
        have e30 := H.is 11 30 rfl rfl rfl (deps_of' hd 11 (by kernel_rfl)) (by kernel_rfl)
        rw [if_pos (show Region.wanted _ _ = true from rfl)]
        go_wp2_with (fail)
        refine (HPt.out _).mono ?_
        rintro e W2 ⟨rfl, rfl⟩
        exact hK _ _ (Keeps.refl _ _) rfl H.glob
      case o13 =>
        intro L vs A W H hf hd K hK
        have e9 : A.tmps[9]?.getD undef = .int .i64 k := H.old 9 (by kernel_rfl)
        go_simp
        exact hK _ _ (Keeps.refl _ _) rfl (H.glob)
      case o14 =>
        intro L vs A W H hf hd K hK
        have e32 := H.is 13 32 rfl rfl rfl (deps_of' hd 13 (by kernel_rfl)) (by kernel_rfl)
        have wk := HWk.out
        go_simp
        exact hK _ _ (Keeps.refl _ _) rfl (H.glob)
      case o15 =>
        intro L vs A W H hf hd K hK
        have e4 : A.tmps[4]?.getD undef = .pointer (some ⟨b4, 0, none⟩) := H.old 4 (by kernel_rfl)
        go_simp
        exact hK _ _ (Keeps.refl _ _) rfl (H.glob)
      case o16 =>
        intro L vs A W H hf hd K hK
        have e34 := H.is 15 34 rfl rfl rfl (deps_of' hd 15 (by kernel_rfl)) (by kernel_rfl)
        have e33 := H.is 14 33 rfl rfl rfl (deps_of' hd 14 (by kernel_rfl)) (by kernel_rfl)
        go_simp
        exact hK _ _ (Keeps.refl _ _) rfl (H.glob)
      case o17 =>
        intro L vs A W H hf hd K hK
        have e35 := H.is 16 35 rfl rfl rfl (deps_of' hd 16 (by kernel_rfl)) (by kernel_rfl)
        have d1 : W.cell? ⟨b4, 13 + (k + 1), none⟩ = some (.int .u64 x2) := by rw [H.glob.2.1.cell, ndCells_p n (k + 1) hk8, HX.out.2]
        go_simp
        exact hK _ _ (Keeps.refl _ _) rfl (H.glob)
      case o18 =>
        intro L vs A W H hf hd K hK
        have e31 := H.is 12 31 rfl rfl rfl (deps_of' hd 12 (by kernel_rfl)) (by kernel_rfl)
        have e36 := H.is 17 36 rfl rfl rfl (deps_of' hd 17 (by kernel_rfl)) (by kernel_rfl)
        go_simp
        exact hK _ _ (Keeps.refl _ _) rfl (H.glob)
      case o19 =>
        intro L vs A W H hf hd K hK
        have e28 := H.is 9 28 rfl rfl rfl (deps_of' hd 9 (by kernel_rfl)) (by kernel_rfl)
        have e37 := H.is 18 37 rfl rfl rfl (deps_of' hd 18 (by kernel_rfl)) (by kernel_rfl)
        have n20 := H.notYet 20 19 rfl hf (by kernel_rfl)
        have hrow : RowB w1.heap.size l0 v0 W := by rcases H.glob.1 with h | h; (rw [n20] at h; cases h); exact h
        have hnb : v0.ownBlock ≠ some W.heap.size := fun e => by have := World.ownsRow.lt hrow _ e; omega
        have hgb := H.glob.2
        go_simp
        exact hK _ _ ((Keeps.refl _ _).alloc _) ⟨_, rfl, Blk.new _ _ _, hnb⟩ ⟨.inr (hrow.below ((Below.refl _ _).alloc (Nat.le_refl _) _)), hgb.1.alloc _, hgb.2.alloc hgb.2.size _⟩
      case o20 =>
        intro L vs A W H hf hd K hK
        have e19 := H.is 0 19 rfl rfl rfl (deps_of' hd 0 (by kernel_rfl)) (by kernel_rfl)
        obtain ⟨v38, e38, q38⟩ := H.val 19 38 rfl rfl rfl (deps_of' hd 19 (by kernel_rfl)) (by kernel_rfl)
        have hf20 : L 20 = false := hf
        have hrow : RowB w1.heap.size l0 v0 W := by rcases H.glob.1 with h | h; (rw [hf20] at h; cases h); exact h
        have hgb := H.glob.2
        obtain ⟨H2, rfl, hb2, hn2⟩ := q38
        refine step_append_any (w := W) rfl (.tmp 19) (.tmp 38) 28 rfl w1.heap.size 36 i0 _ 2 16 Try.underlying28 hi hz0 hz1 hz2 rfl (by omega) v0 l0.length (ecells l0) (ev_tmp e19) hrow W.heap.size (some ⟨H2, 0, none⟩) 2 2 [.int .u64 a1, .int .u64 x1, .int .u64 a2, .int .u64 x2] (ev_tmp e38) (reads_two hb2) (by simp [Value.oneCell']) (by unfold maxLen; have := HLl.out; omega) (by have := HLl.out; omega) hgb.2.size ?_
        intro v' w' hown' hg' _
        exact hK _ _ ((Keeps.refl _ _).grown hg' (fun _ e => .inl ⟨rfl, e⟩)) (row_two hown') ⟨.inl rfl, hgb.1.grown hg' (fun e => by have := own_base hrow _ e.symm; have := HS4.out; omega), hgb.2.grown hg' hgb.2.size (fun r e => own_base hrow _ e)⟩
      case o21 =>
        intro L vs A W H hf hd K hK
        obtain ⟨v39, e39, q39⟩ := H.val 20 39 rfl rfl rfl (deps_of' hd 20 (by kernel_rfl)) (by kernel_rfl)
        rw [if_pos (show Region.wanted _ _ = true from rfl)]
        go_simp
        exact hK _ _ (Keeps.refl _ _) q39 H.glob
      case he =>
        intro vs W hlen hv
        match vs, hlen, hv with
        | [x0_, x1_, x2_, x3_, x4_, x5_, x6_, x7_, x8_, x9_, x10_, x11_, x12_, x13_, x14_, x15_, x16_, x17_, x18_, x19_, x20_, x21_], _, hv =>
        obtain rfl : v0 = x0_ := by obtain ⟨z, h1, h2⟩ := hv 0 _ rfl; cases h1; exact h2.symm
        obtain rfl : (.int .u64 base) = x1_ := by obtain ⟨z, h1, h2⟩ := hv 1 _ rfl; cases h1; exact h2.symm
        obtain rfl : (.int .i64 k) = x2_ := by obtain ⟨z, h1, h2⟩ := hv 2 _ rfl; cases h1; exact h2.symm
        obtain rfl : (.int .u64 a1) = x3_ := by obtain ⟨z, h1, h2⟩ := hv 3 _ rfl; cases h1; exact h2.symm
        obtain rfl : (.int .i64 k) = x4_ := by obtain ⟨z, h1, h2⟩ := hv 4 _ rfl; cases h1; exact h2.symm
        obtain rfl : (.int .i64 ((k : Int) + 1)) = x5_ := by obtain ⟨z, h1, h2⟩ := hv 5 _ rfl; cases h1; exact h2.symm
        obtain rfl : (.pointer (some ⟨b4, 5, none⟩)) = x6_ := by obtain ⟨z, h1, h2⟩ := hv 6 _ rfl; cases h1; exact h2.symm
        obtain rfl : (.pointer (some ⟨b4, 5 + (k + 1), none⟩)) = x7_ := by obtain ⟨z, h1, h2⟩ := hv 7 _ rfl; cases h1; exact h2.symm
        obtain rfl : (.int .u64 x1) = x8_ := by obtain ⟨z, h1, h2⟩ := hv 8 _ rfl; cases h1; exact h2.symm
        obtain rfl : (.agg #[.int .u64 a1, .int .u64 x1]) = x9_ := by obtain ⟨z, h1, h2⟩ := hv 9 _ rfl; cases h1; exact h2.symm
        obtain rfl : (.int .u64 base) = x10_ := by obtain ⟨z, h1, h2⟩ := hv 10 _ rfl; cases h1; exact h2.symm
        obtain rfl : (.int .i64 k) = x11_ := by obtain ⟨z, h1, h2⟩ := hv 11 _ rfl; cases h1; exact h2.symm
        obtain rfl : (.int .u64 a2) = x12_ := by obtain ⟨z, h1, h2⟩ := hv 12 _ rfl; cases h1; exact h2.symm
        obtain rfl : (.int .i64 k) = x13_ := by obtain ⟨z, h1, h2⟩ := hv 13 _ rfl; cases h1; exact h2.symm
        obtain rfl : (.int .i64 ((k : Int) + 1)) = x14_ := by obtain ⟨z, h1, h2⟩ := hv 14 _ rfl; cases h1; exact h2.symm
        obtain rfl : (.pointer (some ⟨b4, 13, none⟩)) = x15_ := by obtain ⟨z, h1, h2⟩ := hv 15 _ rfl; cases h1; exact h2.symm
        obtain rfl : (.pointer (some ⟨b4, 13 + (k + 1), none⟩)) = x16_ := by obtain ⟨z, h1, h2⟩ := hv 16 _ rfl; cases h1; exact h2.symm
        obtain rfl : (.int .u64 x2) = x17_ := by obtain ⟨z, h1, h2⟩ := hv 17 _ rfl; cases h1; exact h2.symm
        obtain rfl : (.agg #[.int .u64 a2, .int .u64 x2]) = x18_ := by obtain ⟨z, h1, h2⟩ := hv 18 _ rfl; cases h1; exact h2.symm
        have hx19 : (Two v0 a1 x1 a2 x2) x19_ W := by obtain ⟨z, h1, h2⟩ := hv 19 _ rfl; cases h1; exact h2
        have hx20 : (RowB w1.heap.size (l0 ++ [(a1, x1), (a2, x2)])) x20_ W := by obtain ⟨z, h1, h2⟩ := hv 20 _ rfl; cases h1; exact h2
        have hx21 : (RowB w1.heap.size (l0 ++ [(a1, x1), (a2, x2)])) x21_ W := by obtain ⟨z, h1, h2⟩ := hv 21 _ rfl; cases h1; exact h2
        intro L hall hG
        clear hv hlen
        have HO2 := Lib.hid hx21
        have HK2 := Lib.hid hG.2.1
        have HB2 := Lib.hid hG.2.2
        clear hG hall hx19 hx20 hx21
        simp only [fill, if_true]
        go_simp
        go_wp2_with (fail)
        go_roundw
        case rel => exact ⟨k + 1, by omega, by omega, by go_num, Lib.hid (by have := HO2.out; rwa [HGp.out] at this), HK2, HB2⟩
        case measure => simp [intOf]; omega
      --END
    · have hkq : k = q := by omega
      subst hkq
      have b1 : ¬ (k : Int) + 1 < (k : Int) + 1 := by omega
      have b2 : (k : Int) + 1 - 1 = (k : Int) := by omega
      have hl : (gapL base n p (k - p)).length ≤ 100 := by rw [gapL_len]; omega
      obtain ⟨a2, ha2⟩ : ∃ x, base + 64 + 16 * (k : Int) + 8 = x := ⟨_, rfl⟩
      have HPt := Lib.hid (fun w => pt_b base k s0 s2 (by omega) w)
      rw [ha2] at HPt
      have HA2 := Lib.hid ha2
      have HSz := Lib.hid HB.out.size
      clear ha2
      go_wp2_with (first | (go_at_call 29; refine (HPt.out _).mono ?_; rintro e w2 ⟨rfl, rfl⟩) | (at_builtin; refine wpList_append_own _ rfl (.tmp 40) (.tmp 46) 28 rfl w1.heap.size 36 i0 _ 2 16 Try.underlying28 hi hz0 hz1 hz2 rfl (by decide) _ _ _ rfl (HO.out.alloc _) ⟨_, 0, none⟩ 1 1 [.int .u64 a2, .int .u64 0] rfl rfl (World.news_of_block (cs := #[.int .u64 a2, .int .u64 0]) (t := 36) (fr := (0, 0)) (heap_alloc_new _ _)) (by simp [Value.oneCell']) (by unfold maxLen; omega) (by omega) (by simp; have := HSz.out; omega) ?_; intro v3 w3 hown3 hg3 _))
      have HB3 := Lib.hid ((HB.out.alloc HSz.out (.cells #[.int .u64 a2, .int .u64 0] 36)).grown hg3 (by simp; have := HSz.out; omega) (fun r e => own_base HO.out _ e))
      have HO3 := Lib.hid (show RowB w1.heap.size (gapL base n p (k - p) ++ [(a2, 0)]) v3 w3 by
        unfold RowB
        rw [ecells_app]
        simpa [ecells] using hown3)
      have HF := Lib.hid (show RowP (gapL base n p (k - p) ++ [(base + 64 + 16 * (k : Int) + 8, 0)]) w (.returned v3) w3 by rw [HA2.out]; exact ⟨_, rfl, HO3.out.mono HB1.out.size, HB1.out.trans (HB3.out.mono HB1.out.size)⟩)
      clear hown3 hg3
      go_wp2_with (fail)
      go_ret
      exact HF.out
end Go.Proofs.Ytbpaefhihdhdeaa
