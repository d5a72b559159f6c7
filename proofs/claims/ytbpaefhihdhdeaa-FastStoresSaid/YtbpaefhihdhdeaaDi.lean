/-
  The document's Cut, Repair, Delete: contracts.
-/
import Derived.Test.YtbpaefhihdhdeaaDh
namespace Go.Proofs.Ytbpaefhihdhdeaa
open Go.RowKit
set_option linter.unusedVariables false


/-! ### Cut -/
set_option maxRecDepth 100000 in
set_option maxHeartbeats 3200000 in
theorem cut_d (base : Int) (n : Nd) (high : Int) (h0 : 0 ≤ base) (w : World) :
    Calls Try.prog 37 #[.int .u64 base, .agg (ndCells n), .int .u64 high] w fun e w' => MadeP (cutP base n high) (cutE base n high) w e w' := by
  have HI := Lib.hid (info27 n)
  have hk0 : Blk (w.alloc (.cells (ndCells n) 27)) w.heap.size (ndCells n) 27 := Blk.new w _ _
  have HK0 := Lib.hid hk0
  have HL0 := Lib.hid (ndLoad hk0)
  have HB0 := Lib.hid ((Below.refl w.heap.size w).alloc (Nat.le_refl _) (.cells (ndCells n) 27))
  have HM := Lib.hid (fun w => rmay_v base n h0 w)
  clear hk0
  by_cases hm : mayE base n = 0
  · obtain ⟨⟨s1, s2, s3⟩, _, _⟩ := mayE_stands hm
    have hcE : cutE base n high = if n.cutAt high < 0 then 5 else 0 := by unfold cutE; rw [if_neg (by omega)]
    have HCE := Lib.hid hcE
    have HLn := Lib.hid (fun w => rlen_calls n w)
    have h8 := n.len_le
    rw [hm] at HM
    clear hm s3 hcE
    go_enter Try.func37, Try.ntmps37
    go_wp2_with (with_reducible refine wpList_load_part (o := ⟨some 11, _, _, _, _, _⟩) rfl 27 _ rfl w.heap.size 0 rfl (ndCells n) _ HL0.out Try.underlying27 rfl HI.out ?_)
    refine (HM.out _).mono ?_
    rintro e w1 ⟨rfl, hB⟩
    have HK1 := Lib.hid (HK0.out.below hB HK0.out.lt)
    have HL1 := Lib.hid (ndLoad HK1.out)
    have HB1 := Lib.hid (HB0.out.trans (hB.mono HB0.out.size))
    clear hB
    go_wp2_with (fail)
    go_loopw [9] (fun iv wr => ∃ k : Nat, k ≤ n.len ∧ iv = .int .i64 k ∧ Hid (n.cutAt high = firstF (fun j => decide (high ≤ n.k j)) (n.len - k) k) ∧ Hid (Blk wr w.heap.size (ndCells n) 27) ∧ Hid (Below w.heap.size w wr)) (fun iv _ => 9 - (intOf iv).toNat)
    case atStart => exact ⟨0, Nat.zero_le _, rfl, Lib.hid rfl, HK1, HB1⟩
    case round =>
      obtain ⟨k, hk, rfl, HR, HKr, HBr⟩ := hrel
      have HLr := Lib.hid (ndLoad HKr.out)
      go_wp2_with (with_reducible refine wpList_load_part (o := ⟨some 17, _, _, _, _, _⟩) rfl 27 _ rfl w.heap.size 0 rfl (ndCells n) _ HLr.out Try.underlying27 rfl HI.out ?_)
      refine (HLn.out _).mono ?_
      rintro e w3 ⟨rfl, hB⟩
      have HK3 := Lib.hid (HKr.out.below hB HKr.out.lt)
      have HB3 := Lib.hid (HBr.out.trans (hB.mono HBr.out.size))
      clear hB
      by_cases hlt : k < n.len
      · have c1 : w3.cell? ⟨w.heap.size, 5 + k, none⟩ = some (.int .u64 (n.k k)) := by rw [HK3.out.cell, ndCells_k n k (by omega)]
        have hst := Lib.hid (HR.out.trans (firstF_step (fun j => decide (high ≤ n.k j)) n.len k hlt))
        obtain ⟨m, hm⟩ : ∃ m, n.len = m := ⟨_, rfl⟩
        have HMl := Lib.hid hm
        rw [hm] at h8 hlt hk ⊢
        obtain ⟨y, hy⟩ : ∃ y, n.k k = y := ⟨_, rfl⟩
        have HY := Lib.hid hy
        rw [hy] at c1
        have b1 : (k : Int) < (m : Int) := by omega
        have b2 : (k : Int) < 8 := by omega
        clear hm hy
        by_cases hq : high ≤ y
        · have hr2 := Lib.hid (hst.out.trans (if_pos (by simp only [HY.out]; exact decide_eq_true hq)))
          have HPt := Lib.hid (fun w => pt_b base k h0 s2 (by omega) w)
          obtain ⟨a1, ha1⟩ : ∃ x, base + 64 + 16 * (k : Int) + 8 = x := ⟨_, rfl⟩
          rw [ha1] at HPt
          have HE := Lib.hid (show cutE base n high = 0 ∧ cutP base n high = [(base + 24, cOne n)] ++ [(a1, 0)] ++ [(base + 24, cTwo n)] by
            have : cutE base n high = 0 := by rw [HCE.out, hr2.out, if_neg (by omega)]
            exact ⟨this, by unfold cutP; rw [if_pos this, hr2.out, ha1]; rfl⟩)
          have HKx := HK3
          have HBx := HB3
          obtain ⟨wB, rfl⟩ : ∃ x, x = w3 := ⟨_, rfl⟩
          clear ha1
          go_upto_region 8 with (fail)
          --GEN r_dcut
          refine wp_region_vals [Is (.int .u64 base), Is (.agg (ndCells n)), Is (.int .u64 base), Is (.int .i64 (k : Int)), Is (.int .u64 a1), Is (.agg #[.int .u64 a1, .int .u64 0]), RowB wB.heap.size [(a1, 0)], RowB wB.heap.size ([(base + 24, cOne n)] ++ [(a1, 0)] ++ [(base + 24, cTwo n)]), RowB wB.heap.size ([(base + 24, cOne n)] ++ [(a1, 0)] ++ [(base + 24, cTwo n)]), Is (.int .i64 0)]
            (fun _ W W' => Below W.heap.size W W') (fun _ W => Below wB.heap.size wB W) (by kernel_rfl) (by kernel_rfl) (by kernel_rfl) ?hst ?h0 ⟨?o0, ?o1, ?o2, ?o3, ?o4, ?o5, ?o6, ?o7, ?o8, ?o9, trivial⟩ ?he
          case hst =>
            exact ⟨(fun _ _ _ _ _ _ h _ => h), (fun _ _ _ _ _ _ h _ => h), (fun _ _ _ _ _ _ h _ => h), (fun _ _ _ _ _ _ h _ => h), (fun _ _ _ _ _ _ h _ => h), (fun _ _ _ _ _ _ h _ => h), (fun _ _ _ _ _ _ h hR => RowB.below h hR), (fun _ _ _ _ _ _ h hR => RowB.below h hR), (fun _ _ _ _ _ _ h hR => RowB.below h hR), (fun _ _ _ _ _ _ h _ => h), trivial⟩
          case h0 =>
            exact (Below.refl _ _).drew
          case o0 =>
            intro L vs A W H hf hd K hK
            have e0 : A.tmps[0]?.getD undef = .int .u64 base := H.old 0 (by kernel_rfl)
            go_simp
            exact hK _ _ (Below.refl _ _) rfl (H.glob)
          case o1 =>
            intro L vs A W H hf hd K hK
            have e4 : A.tmps[4]?.getD undef = .pointer (some ⟨w.heap.size, 0, none⟩) := H.old 4 (by kernel_rfl)
            rw [if_pos (show Region.wanted _ _ = true from rfl)]
            exact wp_load_nd _ rfl w.heap.size n (ev_tmp e4) (HKx.out.below H.glob HKx.out.lt) (hK _ _ (Below.refl _ _) rfl H.glob)
          case o2 =>
            intro L vs A W H hf hd K hK
            have e0 : A.tmps[0]?.getD undef = .int .u64 base := H.old 0 (by kernel_rfl)
            go_simp
            exact hK _ _ (Below.refl _ _) rfl (H.glob)
          case o3 =>
            intro L vs A W H hf hd K hK
            have e9 : A.tmps[9]?.getD undef = .int .i64 (k : Int) := H.old 9 (by kernel_rfl)
            go_simp
            exact hK _ _ (Below.refl _ _) rfl (H.glob)
          case o4 =>
            intro L vs A W H hf hd K hK
            have e30 := H.is 2 30 rfl rfl rfl (deps_of' hd 2 (by kernel_rfl)) (by kernel_rfl)
            have e31 := H.is 3 31 rfl rfl rfl (deps_of' hd 3 (by kernel_rfl)) (by kernel_rfl)
            rw [if_pos (show Region.wanted _ _ = true from rfl)]
            go_wp2_with (fail)
            refine (HPt.out _).mono ?_
            rintro e W2 ⟨rfl, rfl⟩
            exact hK _ _ (Below.refl _ _) rfl H.glob
          case o5 =>
            intro L vs A W H hf hd K hK
            have e32 := H.is 4 32 rfl rfl rfl (deps_of' hd 4 (by kernel_rfl)) (by kernel_rfl)
            go_simp
            exact hK _ _ (Below.refl _ _) rfl (H.glob)
          case o6 =>
            intro L vs A W H hf hd K hK
            have e33 := H.is 5 33 rfl rfl rfl (deps_of' hd 5 (by kernel_rfl)) (by kernel_rfl)
            have hgs := H.glob.size
            go_simp
            exact hK _ _ ((Below.refl _ _).alloc (Nat.le_refl _) _) (RowB.new (l := [(a1, 0)]) hgs) (H.glob.trans (((Below.refl _ _).alloc (Nat.le_refl _) _).mono H.glob.size))
          case o7 =>
            intro L vs A W H hf hd K hK
            have e28 := H.is 0 28 rfl rfl rfl (deps_of' hd 0 (by kernel_rfl)) (by kernel_rfl)
            have e29 := H.is 1 29 rfl rfl rfl (deps_of' hd 1 (by kernel_rfl)) (by kernel_rfl)
            obtain ⟨v34, e34, q34⟩ := H.val 6 34 rfl rfl rfl (deps_of' hd 6 (by kernel_rfl)) (by kernel_rfl)
            rw [if_pos (show Region.wanted _ _ = true from rfl)]
            go_wp2_with (fail)
            refine (whole_v base n [(a1, 0)] _ _ _ h0 s2 (by simp) q34).mono ?_
            rintro e W2 ⟨v, rfl, ho, hB⟩
            exact hK _ _ hB (ho.mono H.glob.size) (H.glob.trans (hB.mono H.glob.size))
          case o8 =>
            intro L vs A W H hf hd K hK
            obtain ⟨v35, e35, q35⟩ := H.val 7 35 rfl rfl rfl (deps_of' hd 7 (by kernel_rfl)) (by kernel_rfl)
            rw [if_pos (show Region.wanted _ _ = true from rfl)]
            go_simp
            exact hK _ _ (Below.refl _ _) q35 H.glob
          case o9 =>
            intro L vs A W H hf hd K hK
            go_simp
            exact hK _ _ (Below.refl _ _) rfl (H.glob)
          case he =>
            intro vs W hlen hv
            match vs, hlen, hv with
            | [x0_, x1_, x2_, x3_, x4_, x5_, x6_, x7_, x8_, x9_], _, hv =>
            obtain rfl : (.int .u64 base) = x0_ := by obtain ⟨z, h1, h2⟩ := hv 0 _ rfl; cases h1; exact h2.symm
            obtain rfl : (.agg (ndCells n)) = x1_ := by obtain ⟨z, h1, h2⟩ := hv 1 _ rfl; cases h1; exact h2.symm
            obtain rfl : (.int .u64 base) = x2_ := by obtain ⟨z, h1, h2⟩ := hv 2 _ rfl; cases h1; exact h2.symm
            obtain rfl : (.int .i64 (k : Int)) = x3_ := by obtain ⟨z, h1, h2⟩ := hv 3 _ rfl; cases h1; exact h2.symm
            obtain rfl : (.int .u64 a1) = x4_ := by obtain ⟨z, h1, h2⟩ := hv 4 _ rfl; cases h1; exact h2.symm
            obtain rfl : (.agg #[.int .u64 a1, .int .u64 0]) = x5_ := by obtain ⟨z, h1, h2⟩ := hv 5 _ rfl; cases h1; exact h2.symm
            have hx6 : (RowB wB.heap.size [(a1, 0)]) x6_ W := by obtain ⟨z, h1, h2⟩ := hv 6 _ rfl; cases h1; exact h2
            have hx7 : (RowB wB.heap.size ([(base + 24, cOne n)] ++ [(a1, 0)] ++ [(base + 24, cTwo n)])) x7_ W := by obtain ⟨z, h1, h2⟩ := hv 7 _ rfl; cases h1; exact h2
            have hx8 : (RowB wB.heap.size ([(base + 24, cOne n)] ++ [(a1, 0)] ++ [(base + 24, cTwo n)])) x8_ W := by obtain ⟨z, h1, h2⟩ := hv 8 _ rfl; cases h1; exact h2
            obtain rfl : (.int .i64 0) = x9_ := by obtain ⟨z, h1, h2⟩ := hv 9 _ rfl; cases h1; exact h2.symm
            intro L hall hG
            clear hv hlen
            have hx := hx8
            obtain ⟨a, m, c, rfl⟩ := own_slice hx
            have HD := Lib.hid (show MadeP (cutP base n high) 0 w (.returned (.tuple #[.slice a m c, .int .i64 0])) W from MadeP.row hx (HBx.out.trans (hG.mono HBx.out.size)) HBx.out.size HE.out.2.symm)
            clear hG hall hx6 hx7 hx8 hx
            simp only [fill, if_true]
            go_simp
            go_wp2_with (fail)
            go_ret2
            rw [HE.out.1]
            exact HD.out
          --END
        · have hr2 := Lib.hid (hst.out.trans (if_neg (by simp only [HY.out]; rw [decide_eq_false hq]; simp)))
          go_wp2_with (fail)
          go_roundw
          case rel => exact ⟨k + 1, by rw [HMl.out]; omega, by go_num, hr2, HK3, HB3⟩
          case measure => simp [intOf]; omega
      · have hf := Lib.hid (HR.out.trans (firstF_end _ n.len k (by omega)))
        have HE := Lib.hid (show cutE base n high = 5 ∧ cutP base n high = [] by
          have : cutE base n high = 5 := by rw [HCE.out, hf.out, if_pos (by omega)]
          exact ⟨this, by unfold cutP; rw [this]; rfl⟩)
        have b1 : ¬ (k : Int) < (n.len : Int) := by omega
        go_wp2_with (fail)
        go_ret2
        rw [HE.out.1, HE.out.2]
        exact MadeP.err HB3.out
  · have HP := Lib.hid (show cutE base n high = mayE base n ∧ cutP base n high = [] by
      have : cutE base n high = mayE base n := by unfold cutE; rw [if_pos hm]
      exact ⟨this, by unfold cutP; rw [this, if_neg hm]⟩)
    obtain ⟨M, hM⟩ : ∃ M, mayE base n = M := ⟨_, rfl⟩
    rw [hM] at HM HP
    have q1 : (M != 0) = true := by rw [bne_iff_ne, ← hM]; exact hm
    clear hm hM
    go_enter Try.func37, Try.ntmps37
    go_wp2_with (with_reducible refine wpList_load_part (o := ⟨some 11, _, _, _, _, _⟩) rfl 27 _ rfl w.heap.size 0 rfl (ndCells n) _ HL0.out Try.underlying27 rfl HI.out ?_)
    refine (HM.out _).mono ?_
    rintro e w1 ⟨rfl, hB⟩
    have HK1 := Lib.hid (HK0.out.below hB HK0.out.lt)
    have HL1 := Lib.hid (ndLoad HK1.out)
    have HB1 := Lib.hid (HB0.out.trans (hB.mono HB0.out.size))
    clear hB
    go_wp2_with (fail)
    go_ret2
    rw [HP.out.1, HP.out.2]
    exact MadeP.err HB1.out

/-! ### Repair, Delete -/
theorem RowB.keepApp {B N : Nat} {l : List (Int × Int)} {v v0 : Value} {w w' : World} (h : RowB B l v w) (hR : Keeps (fun g => N = N ∧ v0.ownBlock = some g) w w') (hn0 : ∀ g, v0.ownBlock = some g → g < B) : RowB B l v w' := by
  obtain ⟨hl, h0 | ⟨g, cap, cur, hv, hb, hg, h1⟩⟩ := h
  · exact ⟨hl, .inl h0⟩
  · exact ⟨hl, .inr ⟨g, cap, cur, hv, hb, (hR.block g (Array.getElem?_eq_some_iff.1 hg).1 (fun hx => by have := hn0 g hx.2; omega)).trans hg, h1⟩⟩
theorem row_app {B : Nat} {l0 l : List (Int × Int)} {v : Value} {W : World} (h : W.ownsRow B 36 2 v (l0.length + l.length) (ecells l0 ++ ecells l)) : RowB B (l0 ++ l) v W := by
  unfold RowB
  rw [ecells_app, List.length_append]
  exact h
set_option maxRecDepth 100000 in
set_option maxHeartbeats 3200000 in
theorem repair_d (base : Int) (n : Nd) (h0 : 0 ≤ base) (w : World) :
    Calls Try.prog 35 #[.int .u64 base, .agg (ndCells n)] w fun e w' => MadeP (repP base n) (repE base n) w e w' := by
  have HI := Lib.hid (info27 n)
  have hk0 : Blk (w.alloc (.cells (ndCells n) 27)) w.heap.size (ndCells n) 27 := Blk.new w _ _
  have HK0 := Lib.hid hk0
  have HL0 := Lib.hid (ndLoad hk0)
  have HB0 := Lib.hid ((Below.refl w.heap.size w).alloc (Nat.le_refl _) (.cells (ndCells n) 27))
  have HM := Lib.hid (fun w => rmay_v base n h0 w)
  clear hk0
  rcases mayE_val base n with hm | hm | ⟨hm, ⟨s1, s2, s3⟩, _, hinv⟩
  · have HE := Lib.hid (show repE base n = 7 ∧ repP base n = [] by
      have : repE base n = 7 := by unfold repE; rw [if_neg (by omega), if_pos hm]
      exact ⟨this, by unfold repP; rw [this]; rfl⟩)
    rw [hm] at HM
    clear hm
    go_enter Try.func35, Try.ntmps35
    go_wp2_with (with_reducible refine wpList_load_part (o := ⟨some 8, _, _, _, _, _⟩) rfl 27 _ rfl w.heap.size 0 rfl (ndCells n) _ HL0.out Try.underlying27 rfl HI.out ?_)
    refine (HM.out _).mono ?_
    rintro e w1 ⟨rfl, hB⟩
    have HK1 := Lib.hid (HK0.out.below hB HK0.out.lt)
    have HL1 := Lib.hid (ndLoad HK1.out)
    have HB1 := Lib.hid (HB0.out.trans (hB.mono HB0.out.size))
    clear hB
    go_wp2_with (fail)
    go_ret2
    rw [HE.out.1, HE.out.2]
    exact MadeP.err HB1.out
  · have HE := Lib.hid (show repE base n = 2 ∧ repP base n = [] by
      have : repE base n = 2 := by unfold repE; rw [if_pos hm]
      exact ⟨this, by unfold repP; rw [this]; rfl⟩)
    rw [hm] at HM
    clear hm
    go_enter Try.func35, Try.ntmps35
    go_wp2_with (with_reducible refine wpList_load_part (o := ⟨some 8, _, _, _, _, _⟩) rfl 27 _ rfl w.heap.size 0 rfl (ndCells n) _ HL0.out Try.underlying27 rfl HI.out ?_)
    refine (HM.out _).mono ?_
    rintro e w1 ⟨rfl, hB⟩
    have HK1 := Lib.hid (HK0.out.below hB HK0.out.lt)
    have HL1 := Lib.hid (ndLoad HK1.out)
    have HB1 := Lib.hid (HB0.out.trans (hB.mono HB0.out.size))
    clear hB
    go_wp2_with (fail)
    go_ret2
    rw [HE.out.1, HE.out.2]
    exact MadeP.err HB1.out
  · obtain ⟨p, hp, hlt⟩ := inval_lt n hinv
    have h8 := n.len_le
    obtain ⟨q, hq⟩ : ∃ q, n.len = q + 1 := ⟨n.len - 1, by omega⟩
    obtain ⟨lg, hlg⟩ : ∃ l, gapL base n p (q - p) ++ [(base + 64 + 16 * (q : Int) + 8, 0)] = l := ⟨_, rfl⟩
    have HE := Lib.hid (show repE base n = 0 ∧ repP base n = [(base + 24, cOne n)] ++ lg ++ [(base + 24, cTwo n)] by
      have : repE base n = 0 := by unfold repE; rw [if_neg (by omega), if_neg (by omega)]
      refine ⟨this, ?_⟩
      unfold repP repL
      rw [if_pos this, hp, hq, ← hlg]
      simp)
    have HGap := Lib.hid (fun w => gap_v base n p q hq (by omega) w h0 s2)
    have HLg := Lib.hid (show lg.length ≤ 1000 by rw [← hlg, List.length_append, gapL_len]; simp; omega)
    have HIv := Lib.hid (fun w => rinvalid_calls n w)
    rw [hlg] at HGap
    rw [← inval_eq, hp] at HIv
    rw [hm] at HM
    clear hm s3 hp hlt h8 hq hinv hlg
    go_enter Try.func35, Try.ntmps35
    go_wp2_with (with_reducible refine wpList_load_part (o := ⟨some 8, _, _, _, _, _⟩) rfl 27 _ rfl w.heap.size 0 rfl (ndCells n) _ HL0.out Try.underlying27 rfl HI.out ?_)
    refine (HM.out _).mono ?_
    rintro e w1 ⟨rfl, hB⟩
    have HK1 := Lib.hid (HK0.out.below hB HK0.out.lt)
    have HL1 := Lib.hid (ndLoad HK1.out)
    have HB1 := Lib.hid (HB0.out.trans (hB.mono HB0.out.size))
    clear hB
    have HKx := HK1
    have HBx := HB1
    obtain ⟨wB, rfl⟩ : ∃ x, x = w1 := ⟨_, rfl⟩
    go_upto_region 6 with (fail)
    --GEN r_drep
    refine wp_region_vals [Is (.int .u64 base), Is (.agg (ndCells n)), Is (.int .u64 base), Is (.agg (ndCells n)), Is (.agg (ndCells n)), Is (.int .i64 p), RowB wB.heap.size lg, RowB wB.heap.size ([(base + 24, cOne n)] ++ lg ++ [(base + 24, cTwo n)]), RowB wB.heap.size ([(base + 24, cOne n)] ++ lg ++ [(base + 24, cTwo n)]), Is (.int .i64 0)]
      (fun _ W W' => Below W.heap.size W W') (fun _ W => Below wB.heap.size wB W) (by kernel_rfl) (by kernel_rfl) (by kernel_rfl) ?hst ?h0 ⟨?o0, ?o1, ?o2, ?o3, ?o4, ?o5, ?o6, ?o7, ?o8, ?o9, trivial⟩ ?he
    case hst =>
      exact ⟨(fun _ _ _ _ _ _ h _ => h), (fun _ _ _ _ _ _ h _ => h), (fun _ _ _ _ _ _ h _ => h), (fun _ _ _ _ _ _ h _ => h), (fun _ _ _ _ _ _ h _ => h), (fun _ _ _ _ _ _ h _ => h), (fun _ _ _ _ _ _ h hR => RowB.below h hR), (fun _ _ _ _ _ _ h hR => RowB.below h hR), (fun _ _ _ _ _ _ h hR => RowB.below h hR), (fun _ _ _ _ _ _ h _ => h), trivial⟩
    case h0 =>
      exact (Below.refl _ _).drew
    case o0 =>
      intro L vs A W H hf hd K hK
      have e0 : A.tmps[0]?.getD undef = .int .u64 base := H.old 0 (by kernel_rfl)
      go_simp
      exact hK _ _ (Below.refl _ _) rfl (H.glob)
    case o1 =>
      intro L vs A W H hf hd K hK
      have e3 : A.tmps[3]?.getD undef = .pointer (some ⟨w.heap.size, 0, none⟩) := H.old 3 (by kernel_rfl)
      rw [if_pos (show Region.wanted _ _ = true from rfl)]
      exact wp_load_nd _ rfl w.heap.size n (ev_tmp e3) (HKx.out.below H.glob HKx.out.lt) (hK _ _ (Below.refl _ _) rfl H.glob)
    case o2 =>
      intro L vs A W H hf hd K hK
      have e0 : A.tmps[0]?.getD undef = .int .u64 base := H.old 0 (by kernel_rfl)
      go_simp
      exact hK _ _ (Below.refl _ _) rfl (H.glob)
    case o3 =>
      intro L vs A W H hf hd K hK
      have e3 : A.tmps[3]?.getD undef = .pointer (some ⟨w.heap.size, 0, none⟩) := H.old 3 (by kernel_rfl)
      rw [if_pos (show Region.wanted _ _ = true from rfl)]
      exact wp_load_nd _ rfl w.heap.size n (ev_tmp e3) (HKx.out.below H.glob HKx.out.lt) (hK _ _ (Below.refl _ _) rfl H.glob)
    case o4 =>
      intro L vs A W H hf hd K hK
      have e3 : A.tmps[3]?.getD undef = .pointer (some ⟨w.heap.size, 0, none⟩) := H.old 3 (by kernel_rfl)
      rw [if_pos (show Region.wanted _ _ = true from rfl)]
      exact wp_load_nd _ rfl w.heap.size n (ev_tmp e3) (HKx.out.below H.glob HKx.out.lt) (hK _ _ (Below.refl _ _) rfl H.glob)
    case o5 =>
      intro L vs A W H hf hd K hK
      have e18 := H.is 4 18 rfl rfl rfl (deps_of' hd 4 (by kernel_rfl)) (by kernel_rfl)
      rw [if_pos (show Region.wanted _ _ = true from rfl)]
      go_wp2_with (fail)
      refine (HIv.out _).mono ?_
      rintro e W2 ⟨rfl, hB⟩
      exact hK _ _ hB rfl (H.glob.trans (hB.mono H.glob.size))
    case o6 =>
      intro L vs A W H hf hd K hK
      have e16 := H.is 2 16 rfl rfl rfl (deps_of' hd 2 (by kernel_rfl)) (by kernel_rfl)
      have e17 := H.is 3 17 rfl rfl rfl (deps_of' hd 3 (by kernel_rfl)) (by kernel_rfl)
      have e19 := H.is 5 19 rfl rfl rfl (deps_of' hd 5 (by kernel_rfl)) (by kernel_rfl)
      rw [if_pos (show Region.wanted _ _ = true from rfl)]
      go_wp2_with (fail)
      refine (HGap.out _).mono ?_
      rintro e W2 ⟨v, rfl, ho, hB⟩
      exact hK _ _ hB (ho.mono H.glob.size) (H.glob.trans (hB.mono H.glob.size))
    case o7 =>
      intro L vs A W H hf hd K hK
      have e14 := H.is 0 14 rfl rfl rfl (deps_of' hd 0 (by kernel_rfl)) (by kernel_rfl)
      have e15 := H.is 1 15 rfl rfl rfl (deps_of' hd 1 (by kernel_rfl)) (by kernel_rfl)
      obtain ⟨v20, e20, q20⟩ := H.val 6 20 rfl rfl rfl (deps_of' hd 6 (by kernel_rfl)) (by kernel_rfl)
      rw [if_pos (show Region.wanted _ _ = true from rfl)]
      go_wp2_with (fail)
      refine (whole_v base n lg _ _ _ h0 s2 HLg.out q20).mono ?_
      rintro e W2 ⟨v, rfl, ho, hB⟩
      exact hK _ _ hB (ho.mono H.glob.size) (H.glob.trans (hB.mono H.glob.size))
    case o8 =>
      intro L vs A W H hf hd K hK
      obtain ⟨v21, e21, q21⟩ := H.val 7 21 rfl rfl rfl (deps_of' hd 7 (by kernel_rfl)) (by kernel_rfl)
      rw [if_pos (show Region.wanted _ _ = true from rfl)]
      go_simp
      exact hK _ _ (Below.refl _ _) q21 H.glob
    case o9 =>
      intro L vs A W H hf hd K hK
      go_simp
      exact hK _ _ (Below.refl _ _) rfl (H.glob)
    case he =>
      intro vs W hlen hv
      match vs, hlen, hv with
      | [x0_, x1_, x2_, x3_, x4_, x5_, x6_, x7_, x8_, x9_], _, hv =>
      obtain rfl : (.int .u64 base) = x0_ := by obtain ⟨z, h1, h2⟩ := hv 0 _ rfl; cases h1; exact h2.symm
      obtain rfl : (.agg (ndCells n)) = x1_ := by obtain ⟨z, h1, h2⟩ := hv 1 _ rfl; cases h1; exact h2.symm
      obtain rfl : (.int .u64 base) = x2_ := by obtain ⟨z, h1, h2⟩ := hv 2 _ rfl; cases h1; exact h2.symm
      obtain rfl : (.agg (ndCells n)) = x3_ := by obtain ⟨z, h1, h2⟩ := hv 3 _ rfl; cases h1; exact h2.symm
      obtain rfl : (.agg (ndCells n)) = x4_ := by obtain ⟨z, h1, h2⟩ := hv 4 _ rfl; cases h1; exact h2.symm
      obtain rfl : (.int .i64 p) = x5_ := by obtain ⟨z, h1, h2⟩ := hv 5 _ rfl; cases h1; exact h2.symm
      have hx6 : (RowB wB.heap.size lg) x6_ W := by obtain ⟨z, h1, h2⟩ := hv 6 _ rfl; cases h1; exact h2
      have hx7 : (RowB wB.heap.size ([(base + 24, cOne n)] ++ lg ++ [(base + 24, cTwo n)])) x7_ W := by obtain ⟨z, h1, h2⟩ := hv 7 _ rfl; cases h1; exact h2
      have hx8 : (RowB wB.heap.size ([(base + 24, cOne n)] ++ lg ++ [(base + 24, cTwo n)])) x8_ W := by obtain ⟨z, h1, h2⟩ := hv 8 _ rfl; cases h1; exact h2
      obtain rfl : (.int .i64 0) = x9_ := by obtain ⟨z, h1, h2⟩ := hv 9 _ rfl; cases h1; exact h2.symm
      intro L hall hG
      clear hv hlen
      have hx := hx8
      obtain ⟨a, m, c, rfl⟩ := own_slice hx
      have HD := Lib.hid (show MadeP (repP base n) 0 w (.returned (.tuple #[.slice a m c, .int .i64 0])) W from MadeP.row hx (HBx.out.trans (hG.mono HBx.out.size)) HBx.out.size HE.out.2.symm)
      clear hG hall hx6 hx7 hx8 hx
      simp only [fill, if_true]
      go_simp
      go_wp2_with (fail)
      go_ret2
      rw [HE.out.1]
      exact HD.out
    --END

set_option maxRecDepth 100000 in
set_option maxHeartbeats 6400000 in
theorem delete_d (base : Int) (n : Nd) (key : Int) (h0 : 0 ≤ base) (w : World) :
    Calls Try.prog 34 #[.int .u64 base, .agg (ndCells n), .int .u64 key] w fun e w' => MadeP (delP base n key) (delE base n key) w e w' := by
  have HI := Lib.hid (info27 n)
  have hk0 : Blk (w.alloc (.cells (ndCells n) 27)) w.heap.size (ndCells n) 27 := Blk.new w _ _
  have HK0 := Lib.hid hk0
  have HL0 := Lib.hid (ndLoad hk0)
  have HB0 := Lib.hid ((Below.refl w.heap.size w).alloc (Nat.le_refl _) (.cells (ndCells n) 27))
  have HM := Lib.hid (fun w => rmay_v base n h0 w)
  clear hk0
  by_cases hm : mayE base n = 0
  · obtain ⟨⟨s1, s2, s3⟩, _, _⟩ := mayE_stands hm
    have HFd := Lib.hid (fun w => rfind_calls n key w)
    rw [hm] at HM
    by_cases hf : n.find key < 0
    · have HE := Lib.hid (show delE base n key = 5 ∧ delP base n key = [] by
        have : delE base n key = 5 := by unfold delE; rw [if_neg (by omega), if_pos hf]
        exact ⟨this, by unfold delP; rw [this]; rfl⟩)
      obtain ⟨fi, hfi⟩ : ∃ z, n.find key = z := ⟨_, rfl⟩
      rw [hfi] at HFd hf
      clear hm s3 hfi
      go_enter Try.func34, Try.ntmps34
      go_wp2_with (with_reducible refine wpList_load_part (o := ⟨some 12, _, _, _, _, _⟩) rfl 27 _ rfl w.heap.size 0 rfl (ndCells n) _ HL0.out Try.underlying27 rfl HI.out ?_)
      refine (HM.out _).mono ?_
      rintro e w1 ⟨rfl, hB⟩
      have HK1 := Lib.hid (HK0.out.below hB HK0.out.lt)
      have HL1 := Lib.hid (ndLoad HK1.out)
      have HB1 := Lib.hid (HB0.out.trans (hB.mono HB0.out.size))
      clear hB
      go_wp2_with (with_reducible refine wpList_load_part (o := ⟨some 17, _, _, _, _, _⟩) rfl 27 _ rfl w.heap.size 0 rfl (ndCells n) _ HL1.out Try.underlying27 rfl HI.out ?_)
      refine (HFd.out _).mono ?_
      rintro e w2 ⟨rfl, hB⟩
      have HK2 := Lib.hid (HK1.out.below hB HK1.out.lt)
      have HL2 := Lib.hid (ndLoad HK2.out)
      have HB2 := Lib.hid (HB1.out.trans (hB.mono HB1.out.size))
      clear hB
      go_wp2_with (fail)
      go_ret2
      rw [HE.out.1, HE.out.2]
      exact MadeP.err HB2.out
    · obtain ⟨at_, hat, hlt⟩ := find_lt n key (by omega)
      have h8 := n.len_le
      obtain ⟨q, hq⟩ : ∃ q, n.len = q + 1 := ⟨n.len - 1, by omega⟩
      obtain ⟨i0, hi, hz0, hz1, hz2⟩ := info_parts Try.info36
      obtain ⟨lg, hlg⟩ : ∃ l, gapL base n at_ (q - at_) ++ [(base + 64 + 16 * (q : Int) + 8, 0)] = l := ⟨_, rfl⟩
      obtain ⟨a1, ha1⟩ : ∃ x, base + 64 + 16 * (at_ : Int) + 8 = x := ⟨_, rfl⟩
      obtain ⟨ax, hax⟩ : ∃ x, n.ahead at_ = x := ⟨_, rfl⟩
      obtain ⟨l0, hl0⟩ : ∃ l, [(a1, ax)] = l := ⟨_, rfl⟩
      have HE := Lib.hid (show delE base n key = 0 ∧ delP base n key = [(base + 24, cOne n)] ++ (l0 ++ lg) ++ [(base + 24, cTwo n)] by
        have : delE base n key = 0 := by unfold delE; rw [if_neg (by omega), if_neg hf]
        refine ⟨this, ?_⟩
        unfold delP delL
        rw [if_pos this, hat, hq, ← hl0, ← hlg]
        simp [ha1, hax])
      have HGap := Lib.hid (fun w => gap_v base n at_ q hq (by omega) w h0 s2)
      have HLl := Lib.hid (show l0.length ≤ 100 ∧ lg.length ≤ 100 by rw [← hlg, ← hl0, List.length_append, gapL_len]; simp; omega)
      have HLw := Lib.hid (show (l0 ++ lg).length ≤ 1000 by rw [List.length_append]; have := HLl.out; omega)
      have HPt := Lib.hid (fun w => pt_b base at_ h0 s2 (by omega) w)
      have HAh := Lib.hid (fun w => rahead_v n at_ (by omega) w)
      rw [hlg] at HGap
      rw [ha1] at HPt
      rw [hax] at HAh
      rw [hat] at HFd
      have q1 : ¬ (at_ : Int) < 0 := by omega
      have HL0e := Lib.hid hl0
      clear hm s3 hat hlt h8 hq hlg ha1 hax hf hl0
      go_enter Try.func34, Try.ntmps34
      go_wp2_with (with_reducible refine wpList_load_part (o := ⟨some 12, _, _, _, _, _⟩) rfl 27 _ rfl w.heap.size 0 rfl (ndCells n) _ HL0.out Try.underlying27 rfl HI.out ?_)
      refine (HM.out _).mono ?_
      rintro e w1 ⟨rfl, hB⟩
      have HK1 := Lib.hid (HK0.out.below hB HK0.out.lt)
      have HL1 := Lib.hid (ndLoad HK1.out)
      have HB1 := Lib.hid (HB0.out.trans (hB.mono HB0.out.size))
      clear hB
      go_wp2_with (with_reducible refine wpList_load_part (o := ⟨some 17, _, _, _, _, _⟩) rfl 27 _ rfl w.heap.size 0 rfl (ndCells n) _ HL1.out Try.underlying27 rfl HI.out ?_)
      refine (HFd.out _).mono ?_
      rintro e w2 ⟨rfl, hB⟩
      have HK2 := Lib.hid (HK1.out.below hB HK1.out.lt)
      have HL2 := Lib.hid (ndLoad HK2.out)
      have HB2 := Lib.hid (HB1.out.trans (hB.mono HB1.out.size))
      clear hB
      have HKx := HK2
      have HBx := HB2
      obtain ⟨wB, rfl⟩ : ∃ x, x = w2 := ⟨_, rfl⟩
      go_upto_region 7 with (fail)
      --GEN r_ddel7
      refine wp_region_vals [Is (.int .u64 base), Is (.int .i64 (at_ : Int)), Is (.int .u64 a1), Is (.agg (ndCells n)), Is (.int .i64 (at_ : Int)), Is (.int .u64 ax), Is (.agg #[.int .u64 a1, .int .u64 ax]), RowB wB.heap.size [(a1, ax)], RowB wB.heap.size [(a1, ax)]]
        (fun _ W W' => Below W.heap.size W W') (fun _ W => Below wB.heap.size wB W) (by kernel_rfl) (by kernel_rfl) (by kernel_rfl) ?hst ?h0 ⟨?o0, ?o1, ?o2, ?o3, ?o4, ?o5, ?o6, ?o7, ?o8, trivial⟩ ?he
      case hst =>
        exact ⟨(fun _ _ _ _ _ _ h _ => h), (fun _ _ _ _ _ _ h _ => h), (fun _ _ _ _ _ _ h _ => h), (fun _ _ _ _ _ _ h _ => h), (fun _ _ _ _ _ _ h _ => h), (fun _ _ _ _ _ _ h _ => h), (fun _ _ _ _ _ _ h _ => h), (fun _ _ _ _ _ _ h hR => RowB.below h hR), (fun _ _ _ _ _ _ h hR => RowB.below h hR), trivial⟩
      case h0 =>
        exact (Below.refl _ _).drew
      case o0 =>
        intro L vs A W H hf hd K hK
        have e0 : A.tmps[0]?.getD undef = .int .u64 base := H.old 0 (by kernel_rfl)
        go_simp
        exact hK _ _ (Below.refl _ _) rfl (H.glob)
      case o1 =>
        intro L vs A W H hf hd K hK
        have e9 : A.tmps[9]?.getD undef = .int .i64 (at_ : Int) := H.old 9 (by kernel_rfl)
        go_simp
        exact hK _ _ (Below.refl _ _) rfl (H.glob)
      case o2 =>
        intro L vs A W H hf hd K hK
        have e22 := H.is 0 22 rfl rfl rfl (deps_of' hd 0 (by kernel_rfl)) (by kernel_rfl)
        have e23 := H.is 1 23 rfl rfl rfl (deps_of' hd 1 (by kernel_rfl)) (by kernel_rfl)
        rw [if_pos (show Region.wanted _ _ = true from rfl)]
        go_wp2_with (fail)
        refine (HPt.out _).mono ?_
        rintro e W2 ⟨rfl, rfl⟩
        exact hK _ _ (Below.refl _ _) rfl H.glob
      case o3 =>
        intro L vs A W H hf hd K hK
        have e4 : A.tmps[4]?.getD undef = .pointer (some ⟨w.heap.size, 0, none⟩) := H.old 4 (by kernel_rfl)
        rw [if_pos (show Region.wanted _ _ = true from rfl)]
        exact wp_load_nd _ rfl w.heap.size n (ev_tmp e4) (HKx.out.below H.glob HKx.out.lt) (hK _ _ (Below.refl _ _) rfl H.glob)
      case o4 =>
        intro L vs A W H hf hd K hK
        have e9 : A.tmps[9]?.getD undef = .int .i64 (at_ : Int) := H.old 9 (by kernel_rfl)
        go_simp
        exact hK _ _ (Below.refl _ _) rfl (H.glob)
      case o5 =>
        intro L vs A W H hf hd K hK
        have e25 := H.is 3 25 rfl rfl rfl (deps_of' hd 3 (by kernel_rfl)) (by kernel_rfl)
        have e26 := H.is 4 26 rfl rfl rfl (deps_of' hd 4 (by kernel_rfl)) (by kernel_rfl)
        rw [if_pos (show Region.wanted _ _ = true from rfl)]
        go_wp2_with (fail)
        refine (HAh.out _).mono ?_
        rintro e W2 ⟨rfl, hB⟩
        exact hK _ _ hB rfl (H.glob.trans (hB.mono H.glob.size))
      case o6 =>
        intro L vs A W H hf hd K hK
        have e24 := H.is 2 24 rfl rfl rfl (deps_of' hd 2 (by kernel_rfl)) (by kernel_rfl)
        have e27 := H.is 5 27 rfl rfl rfl (deps_of' hd 5 (by kernel_rfl)) (by kernel_rfl)
        go_simp
        exact hK _ _ (Below.refl _ _) rfl (H.glob)
      case o7 =>
        intro L vs A W H hf hd K hK
        have e28 := H.is 6 28 rfl rfl rfl (deps_of' hd 6 (by kernel_rfl)) (by kernel_rfl)
        have hgs := H.glob.size
        go_simp
        exact hK _ _ ((Below.refl _ _).alloc (Nat.le_refl _) _) (RowB.new (l := [(a1, ax)]) hgs) (H.glob.trans (((Below.refl _ _).alloc (Nat.le_refl _) _).mono H.glob.size))
      case o8 =>
        intro L vs A W H hf hd K hK
        obtain ⟨v29, e29, q29⟩ := H.val 7 29 rfl rfl rfl (deps_of' hd 7 (by kernel_rfl)) (by kernel_rfl)
        rw [if_pos (show Region.wanted _ _ = true from rfl)]
        go_simp
        exact hK _ _ (Below.refl _ _) q29 H.glob
      case he =>
        intro vs W hlen hv
        match vs, hlen, hv with
        | [x0_, x1_, x2_, x3_, x4_, x5_, x6_, x7_, x8_], _, hv =>
        obtain rfl : (.int .u64 base) = x0_ := by obtain ⟨z, h1, h2⟩ := hv 0 _ rfl; cases h1; exact h2.symm
        obtain rfl : (.int .i64 (at_ : Int)) = x1_ := by obtain ⟨z, h1, h2⟩ := hv 1 _ rfl; cases h1; exact h2.symm
        obtain rfl : (.int .u64 a1) = x2_ := by obtain ⟨z, h1, h2⟩ := hv 2 _ rfl; cases h1; exact h2.symm
        obtain rfl : (.agg (ndCells n)) = x3_ := by obtain ⟨z, h1, h2⟩ := hv 3 _ rfl; cases h1; exact h2.symm
        obtain rfl : (.int .i64 (at_ : Int)) = x4_ := by obtain ⟨z, h1, h2⟩ := hv 4 _ rfl; cases h1; exact h2.symm
        obtain rfl : (.int .u64 ax) = x5_ := by obtain ⟨z, h1, h2⟩ := hv 5 _ rfl; cases h1; exact h2.symm
        obtain rfl : (.agg #[.int .u64 a1, .int .u64 ax]) = x6_ := by obtain ⟨z, h1, h2⟩ := hv 6 _ rfl; cases h1; exact h2.symm
        have hx7 : (RowB wB.heap.size [(a1, ax)]) x7_ W := by obtain ⟨z, h1, h2⟩ := hv 7 _ rfl; cases h1; exact h2
        have hx8 : (RowB wB.heap.size [(a1, ax)]) x8_ W := by obtain ⟨z, h1, h2⟩ := hv 8 _ rfl; cases h1; exact h2
        intro L hall hG
        clear hv hlen
        have hx := hx8
        have HBy := Lib.hid (HBx.out.trans (hG.mono HBx.out.size))
        have HKy := Lib.hid (HKx.out.below hG HKx.out.lt)
        have HO := Lib.hid hx
        have HwR := Lib.hid (show wB.heap.size ≤ W.heap.size from hG.size)
        have hn0 : ∀ g, x8_.ownBlock = some g → g < W.heap.size := fun g e => (World.ownsRow.lt hx g e).2
        obtain ⟨v0, rfl⟩ : ∃ v, v = x8_ := ⟨_, rfl⟩
        clear hG hall hx7 hx8 hx
        simp only [fill, if_true]
        go_simp
      --END
        rw [HL0e.out] at HO
        have HwK := Lib.hid (show w.heap.size < wB.heap.size from HKx.out.lt)
        obtain ⟨wC, rfl⟩ : ∃ x, x = W := ⟨_, rfl⟩
        go_upto_region 8 with (fail)
        --GEN r_ddel8
        refine wp_region_vals [Is (.int .u64 base), Is (.agg (ndCells n)), Is v0, Is (.int .u64 base), Is (.agg (ndCells n)), Is (.int .i64 (at_ : Int)), RowB wC.heap.size lg, RowB wB.heap.size (l0 ++ lg), RowB wC.heap.size ([(base + 24, cOne n)] ++ (l0 ++ lg) ++ [(base + 24, cTwo n)]), RowB wC.heap.size ([(base + 24, cOne n)] ++ (l0 ++ lg) ++ [(base + 24, cTwo n)]), Is (.int .i64 0)]
          (fun i => Keeps (fun g => i = 7 ∧ v0.ownBlock = some g)) (fun L W => (L 7 = true ∨ RowB wB.heap.size l0 v0 W) ∧ Below wB.heap.size wC W) (by kernel_rfl) (by kernel_rfl) (by kernel_rfl) ?hst ?h0 ⟨?o0, ?o1, ?o2, ?o3, ?o4, ?o5, ?o6, ?o7, ?o8, ?o9, ?o10, trivial⟩ ?he
        case hst =>
          exact ⟨(fun _ _ _ _ _ _ h _ => h), (fun _ _ _ _ _ _ h _ => h), (fun _ _ _ _ _ _ h _ => h), (fun _ _ _ _ _ _ h _ => h), (fun _ _ _ _ _ _ h _ => h), (fun _ _ _ _ _ _ h _ => h), (fun i2 hij hw _ _ _ h hR => (if hA : i2 = 7 then by (subst hA; exact RowB.keepApp h hR hn0) else RowB.below h (Keeps.below (hR.mono (fun _ _ hx => hA hx.1))))), (fun i2 hij hw _ _ _ h hR => (if hA : i2 = 7 then by (subst hA; exact absurd rfl hij) else RowB.below h (Keeps.below (hR.mono (fun _ _ hx => hA hx.1))))), (fun i2 hij hw _ _ _ h hR => (if hA : i2 = 7 then by (subst hA; exact by (have h3 : false = true := hw.symm.trans (by kernel_rfl); cases h3)) else RowB.below h (Keeps.below (hR.mono (fun _ _ hx => hA hx.1))))), (fun i2 hij hw _ _ _ h hR => (if hA : i2 = 7 then by (subst hA; exact by (have h3 : false = true := hw.symm.trans (by kernel_rfl); cases h3)) else RowB.below h (Keeps.below (hR.mono (fun _ _ hx => hA hx.1))))), (fun _ _ _ _ _ _ h _ => h), trivial⟩
        case h0 =>
          exact ⟨.inr (HO.out.below (Below.refl _ _).drew), (Below.refl _ _).drew⟩
        case o0 =>
          intro L vs A W H hf hd K hK
          have e0 : A.tmps[0]?.getD undef = .int .u64 base := H.old 0 (by kernel_rfl)
          go_simp
          exact hK _ _ (Keeps.refl _ _) rfl (H.glob)
        case o1 =>
          intro L vs A W H hf hd K hK
          have e4 : A.tmps[4]?.getD undef = .pointer (some ⟨w.heap.size, 0, none⟩) := H.old 4 (by kernel_rfl)
          rw [if_pos (show Region.wanted _ _ = true from rfl)]
          exact wp_load_nd _ rfl w.heap.size n (ev_tmp e4) (HKy.out.below H.glob.2 HwK.out) (hK _ _ (Keeps.refl _ _) rfl H.glob)
        case o2 =>
          intro L vs A W H hf hd K hK
          have e10 : A.tmps[10]?.getD undef = v0 := H.old 10 (by kernel_rfl)
          go_simp
          exact hK _ _ (Keeps.refl _ _) rfl (H.glob)
        case o3 =>
          intro L vs A W H hf hd K hK
          have e0 : A.tmps[0]?.getD undef = .int .u64 base := H.old 0 (by kernel_rfl)
          go_simp
          exact hK _ _ (Keeps.refl _ _) rfl (H.glob)
        case o4 =>
          intro L vs A W H hf hd K hK
          have e4 : A.tmps[4]?.getD undef = .pointer (some ⟨w.heap.size, 0, none⟩) := H.old 4 (by kernel_rfl)
          rw [if_pos (show Region.wanted _ _ = true from rfl)]
          exact wp_load_nd _ rfl w.heap.size n (ev_tmp e4) (HKy.out.below H.glob.2 HwK.out) (hK _ _ (Keeps.refl _ _) rfl H.glob)
        case o5 =>
          intro L vs A W H hf hd K hK
          have e9 : A.tmps[9]?.getD undef = .int .i64 (at_ : Int) := H.old 9 (by kernel_rfl)
          go_simp
          exact hK _ _ (Keeps.refl _ _) rfl (H.glob)
        case o6 =>
          intro L vs A W H hf hd K hK
          have e33 := H.is 3 33 rfl rfl rfl (deps_of' hd 3 (by kernel_rfl)) (by kernel_rfl)
          have e34 := H.is 4 34 rfl rfl rfl (deps_of' hd 4 (by kernel_rfl)) (by kernel_rfl)
          have e35 := H.is 5 35 rfl rfl rfl (deps_of' hd 5 (by kernel_rfl)) (by kernel_rfl)
          rw [if_pos (show Region.wanted _ _ = true from rfl)]
          go_wp2_with (fail)
          refine (HGap.out _).mono ?_
          rintro e W2 ⟨v, rfl, ho, hB⟩
          exact hK _ _ (Keeps.of_belowS hB) (ho.mono H.glob.2.size) ⟨(by rcases H.glob.1 with h | h; (exact .inl h); exact .inr (h.below hB)), H.glob.2.trans (hB.mono (Nat.le_trans HwR.out H.glob.2.size))⟩
        case o7 =>
          intro L vs A W H hf hd K hK
          have e32 := H.is 2 32 rfl rfl rfl (deps_of' hd 2 (by kernel_rfl)) (by kernel_rfl)
          obtain ⟨v36, e36, q36⟩ := H.val 6 36 rfl rfl rfl (deps_of' hd 6 (by kernel_rfl)) (by kernel_rfl)
          have hfA : L 7 = false := hf
          have hrow : RowB wB.heap.size l0 v0 W := by rcases H.glob.1 with h | h; (rw [hfA] at h; cases h); exact h
          have hgb := H.glob.2
          obtain ⟨aN, mN, cN, rfl⟩ := own_slice q36
          obtain ⟨rfl, hrN⟩ := q36.reads
          refine step_append_any (w := W) rfl (.tmp 32) (.tmp 36) 28 rfl wB.heap.size 36 i0 _ 2 16 Try.underlying28 hi hz0 hz1 hz2 rfl (by omega) v0 l0.length (ecells l0) (ev_tmp e32) hrow W.heap.size aN _ cN (ecells lg) (ev_tmp e36) hrN (ecells_oneP _) (by unfold maxLen; have := HLl.out; omega) (by have := HLl.out; omega) (by have := hgb.size; have := HwR.out; omega) ?_
          intro v' w' hown' hg' _
          exact hK _ _ ((Keeps.refl _ _).grown hg' (fun _ e => .inl ⟨rfl, e⟩)) (row_app hown') ⟨.inl rfl, hgb.grown hg' (Nat.le_trans HwR.out hgb.size) (fun r e => own_base hrow _ e)⟩
        case o8 =>
          intro L vs A W H hf hd K hK
          have e30 := H.is 0 30 rfl rfl rfl (deps_of' hd 0 (by kernel_rfl)) (by kernel_rfl)
          have e31 := H.is 1 31 rfl rfl rfl (deps_of' hd 1 (by kernel_rfl)) (by kernel_rfl)
          obtain ⟨v37, e37, q37⟩ := H.val 7 37 rfl rfl rfl (deps_of' hd 7 (by kernel_rfl)) (by kernel_rfl)
          rw [if_pos (show Region.wanted _ _ = true from rfl)]
          go_wp2_with (fail)
          refine (whole_v base n (l0 ++ lg) _ _ _ h0 s2 HLw.out q37).mono ?_
          rintro e W2 ⟨v, rfl, ho, hB⟩
          exact hK _ _ (Keeps.of_belowS hB) (ho.mono H.glob.2.size) ⟨(by rcases H.glob.1 with h | h; (exact .inl h); exact .inr (h.below hB)), H.glob.2.trans (hB.mono (Nat.le_trans HwR.out H.glob.2.size))⟩
        case o9 =>
          intro L vs A W H hf hd K hK
          obtain ⟨v38, e38, q38⟩ := H.val 8 38 rfl rfl rfl (deps_of' hd 8 (by kernel_rfl)) (by kernel_rfl)
          rw [if_pos (show Region.wanted _ _ = true from rfl)]
          go_simp
          exact hK _ _ (Keeps.refl _ _) q38 H.glob
        case o10 =>
          intro L vs A W H hf hd K hK
          go_simp
          exact hK _ _ (Keeps.refl _ _) rfl (H.glob)
        case he =>
          intro vs W hlen hv
          match vs, hlen, hv with
          | [x0_, x1_, x2_, x3_, x4_, x5_, x6_, x7_, x8_, x9_, x10_], _, hv =>
          obtain rfl : (.int .u64 base) = x0_ := by obtain ⟨z, h1, h2⟩ := hv 0 _ rfl; cases h1; exact h2.symm
          obtain rfl : (.agg (ndCells n)) = x1_ := by obtain ⟨z, h1, h2⟩ := hv 1 _ rfl; cases h1; exact h2.symm
          obtain rfl : v0 = x2_ := by obtain ⟨z, h1, h2⟩ := hv 2 _ rfl; cases h1; exact h2.symm
          obtain rfl : (.int .u64 base) = x3_ := by obtain ⟨z, h1, h2⟩ := hv 3 _ rfl; cases h1; exact h2.symm
          obtain rfl : (.agg (ndCells n)) = x4_ := by obtain ⟨z, h1, h2⟩ := hv 4 _ rfl; cases h1; exact h2.symm
          obtain rfl : (.int .i64 (at_ : Int)) = x5_ := by obtain ⟨z, h1, h2⟩ := hv 5 _ rfl; cases h1; exact h2.symm
          have hx6 : (RowB wC.heap.size lg) x6_ W := by obtain ⟨z, h1, h2⟩ := hv 6 _ rfl; cases h1; exact h2
          have hx7 : (RowB wB.heap.size (l0 ++ lg)) x7_ W := by obtain ⟨z, h1, h2⟩ := hv 7 _ rfl; cases h1; exact h2
          have hx8 : (RowB wC.heap.size ([(base + 24, cOne n)] ++ (l0 ++ lg) ++ [(base + 24, cTwo n)])) x8_ W := by obtain ⟨z, h1, h2⟩ := hv 8 _ rfl; cases h1; exact h2
          have hx9 : (RowB wC.heap.size ([(base + 24, cOne n)] ++ (l0 ++ lg) ++ [(base + 24, cTwo n)])) x9_ W := by obtain ⟨z, h1, h2⟩ := hv 9 _ rfl; cases h1; exact h2
          obtain rfl : (.int .i64 0) = x10_ := by obtain ⟨z, h1, h2⟩ := hv 10 _ rfl; cases h1; exact h2.symm
          intro L hall hG
          clear hv hlen
          have hx := hx9
          obtain ⟨a, m, c, rfl⟩ := own_slice hx
          have HD := Lib.hid (show MadeP (delP base n key) 0 w (.returned (.tuple #[.slice a m c, .int .i64 0])) W from MadeP.row hx (HBy.out.trans (hG.2.mono (Nat.le_of_lt HwK.out))) HBy.out.size HE.out.2.symm)
          clear hG hall hx6 hx7 hx8 hx9 hx
          simp only [fill, if_true]
          go_simp
          go_wp2_with (fail)
          go_ret2
          rw [HE.out.1]
          exact HD.out
        --END
  · have HP := Lib.hid (show delE base n key = mayE base n ∧ delP base n key = [] by
      have : delE base n key = mayE base n := by unfold delE; rw [if_pos hm]
      exact ⟨this, by unfold delP; rw [this, if_neg hm]⟩)
    obtain ⟨M, hM⟩ : ∃ M, mayE base n = M := ⟨_, rfl⟩
    rw [hM] at HM HP
    have q1 : (M != 0) = true := by rw [bne_iff_ne, ← hM]; exact hm
    clear hm hM
    go_enter Try.func34, Try.ntmps34
    go_wp2_with (with_reducible refine wpList_load_part (o := ⟨some 12, _, _, _, _, _⟩) rfl 27 _ rfl w.heap.size 0 rfl (ndCells n) _ HL0.out Try.underlying27 rfl HI.out ?_)
    refine (HM.out _).mono ?_
    rintro e w1 ⟨rfl, hB⟩
    have HK1 := Lib.hid (HK0.out.below hB HK0.out.lt)
    have HL1 := Lib.hid (ndLoad HK1.out)
    have HB1 := Lib.hid (HB0.out.trans (hB.mono HB0.out.size))
    clear hB
    go_wp2_with (fail)
    go_ret2
    rw [HP.out.1, HP.out.2]
    exact MadeP.err HB1.out
end Go.Proofs.Ytbpaefhihdhdeaa
