/-
  The document's Link, Swap, Cut: contracts.
-/
import Derived.Test.YtbpaefhihdhdeaaDg
import Derived.Test.YtbpaefhihdhdeaaMd
namespace Go.Proofs.Ytbpaefhihdhdeaa
open Go.RowKit
set_option linter.unusedVariables false

theorem RowB.one (w : World) (a x : Int) : RowB w.heap.size [(a, x)] (.slice (some ⟨w.heap.size, 0, none⟩) 1 1) (w.alloc (.cells #[.int .u64 a, .int .u64 x] 36)) := by
  have hb : Blk (w.alloc (.cells #[.int .u64 a, .int .u64 x] 36)) w.heap.size (ecells [(a, x)]).toArray 36 := by
    have := Blk.new w #[.int .u64 a, .int .u64 x] 36
    simpa [ecells] using this
  exact RowB.lit hb (by simp) (Nat.le_refl _)
theorem MadeP.row {B : Nat} {l l' : List (Int × Int)} {w w' : World} {a : Option Addr} {m c : Nat} (h : RowB B l (.slice a m c) w') (hB : Below w.heap.size w w') (hle : w.heap.size ≤ B) (hl : l = l') : MadeP l' 0 w (.returned (.tuple #[.slice a m c, .int .i64 0])) w' := by
  subst hl
  exact ⟨a, m, c, rfl, own_len h, h.mono hle, hB⟩

theorem RowB.new {B : Nat} {l : List (Int × Int)} {W : World} (hB : B ≤ W.heap.size) (hl : l.length ≤ 1000000 := by simp) : RowB B l (.slice (some ⟨W.heap.size, 0, none⟩) l.length l.length) (W.alloc (.cells (ecells l).toArray 36)) :=
  RowB.lit (Blk.new W _ _) hl hB


/-! ### Link -/
set_option maxRecDepth 100000 in
set_option maxHeartbeats 1600000 in
theorem link_d (base : Int) (n : Nd) (tp : Int) (h0 : 0 ≤ base) (w : World) :
    Calls Try.prog 38 #[.int .u64 base, .agg (ndCells n), .int .u64 tp] w fun e w' => MadeP (linkP base n tp) (mayE base n) w e w' := by
  have HI := Lib.hid (info27 n)
  have hk0 : Blk (w.alloc (.cells (ndCells n) 27)) w.heap.size (ndCells n) 27 := Blk.new w _ _
  have HK0 := Lib.hid hk0
  have HL0 := Lib.hid (ndLoad hk0)
  have HB0 := Lib.hid ((Below.refl w.heap.size w).alloc (Nat.le_refl _) (.cells (ndCells n) 27))
  have HM := Lib.hid (fun w => rmay_v base n h0 w)
  clear hk0
  by_cases hm : mayE base n = 0
  · obtain ⟨⟨s1, s2, s3⟩, _, _⟩ := mayE_stands hm
    have HP := Lib.hid (show linkP base n tp = [(base + 24, cOne n)] ++ [(base + 16, tp)] ++ [(base + 24, cTwo n)] by unfold linkP; rw [if_pos hm]; rfl)
    have HE := Lib.hid hm
    rw [hm] at HM
    clear hm s3
    go_enter Try.func38, Try.ntmps38
    go_wp2_with (with_reducible refine wpList_load_part (o := ⟨some 10, _, _, _, _, _⟩) rfl 27 _ rfl w.heap.size 0 rfl (ndCells n) _ HL0.out Try.underlying27 rfl HI.out ?_)
    refine (HM.out _).mono ?_
    rintro e w1 ⟨rfl, hB⟩
    have HK1 := Lib.hid (HK0.out.below hB HK0.out.lt)
    have HL1 := Lib.hid (ndLoad HK1.out)
    have HB1 := Lib.hid (HB0.out.trans (hB.mono HB0.out.size))
    clear hB
    go_wp2_with (with_reducible refine wpList_load_part (o := ⟨some 16, _, _, _, _, _⟩) rfl 27 _ rfl w.heap.size 0 rfl (ndCells n) _ HL1.out Try.underlying27 rfl HI.out ?_)
    refine (whole_v base n [(base + 16, tp)] _ w1.heap.size _ h0 s2 (by simp) (RowB.one w1 _ _)).mono ?_
    rintro e w2 ⟨v, rfl, ho, hB⟩
    obtain ⟨a, m, c, rfl⟩ := own_slice ho
    have hb1 := (Below.refl w1.heap.size w1).alloc (Nat.le_refl _) (.cells #[.int .u64 (base + 16), .int .u64 tp] 36)
    have HD := Lib.hid (show MadeP (linkP base n tp) 0 w (.returned (.tuple #[.slice a m c, .int .i64 0])) w2 from MadeP.row ho (HB1.out.trans ((hb1.trans (hB.mono hb1.size)).mono HB1.out.size)) (by have := HB1.out.size; simp; omega) HP.out.symm)
    clear ho hB hb1
    go_wp2_with (fail)
    go_ret2
    rw [HE.out]
    exact HD.out
  · have HP := Lib.hid (show linkP base n tp = [] by unfold linkP; rw [if_neg hm])
    obtain ⟨M, hM⟩ : ∃ M, mayE base n = M := ⟨_, rfl⟩
    rw [hM] at HM
    have HE := Lib.hid hM
    have q1 : (M != 0) = true := by rw [bne_iff_ne, ← hM]; exact hm
    clear hm hM
    go_enter Try.func38, Try.ntmps38
    go_wp2_with (with_reducible refine wpList_load_part (o := ⟨some 10, _, _, _, _, _⟩) rfl 27 _ rfl w.heap.size 0 rfl (ndCells n) _ HL0.out Try.underlying27 rfl HI.out ?_)
    refine (HM.out _).mono ?_
    rintro e w1 ⟨rfl, hB⟩
    have HK1 := Lib.hid (HK0.out.below hB HK0.out.lt)
    have HL1 := Lib.hid (ndLoad HK1.out)
    have HB1 := Lib.hid (HB0.out.trans (hB.mono HB0.out.size))
    clear hB
    go_wp2_with (fail)
    go_ret2
    rw [HE.out, HP.out]
    exact MadeP.err HB1.out

/-! ### Swap -/
theorem fresh_had {n : Nd} {p : Int} {b : Bool} (h : freshB n p = b) (w : World) : Calls Try.prog 61 #[.agg (ndCells n), .int .u64 p] w fun e w' => e = .returned (.bool (!b)) ∧ Below w.heap.size w w' := by
  have := had_v n p w; rwa [h] at this
set_option maxRecDepth 100000 in
set_option maxHeartbeats 3200000 in
theorem swap_d (base : Int) (n : Nd) (key p : Int) (h0 : 0 ≤ base) (w : World) :
    Calls Try.prog 36 #[.int .u64 base, .agg (ndCells n), .int .u64 key, .int .u64 p] w fun e w' => MadeP (swapP base n key p) (swapE base n key p) w e w' := by
  have HI := Lib.hid (info27 n)
  have hk0 : Blk (w.alloc (.cells (ndCells n) 27)) w.heap.size (ndCells n) 27 := Blk.new w _ _
  have HK0 := Lib.hid hk0
  have HL0 := Lib.hid (ndLoad hk0)
  have HB0 := Lib.hid ((Below.refl w.heap.size w).alloc (Nat.le_refl _) (.cells (ndCells n) 27))
  have HM := Lib.hid (fun w => rmay_v base n h0 w)
  clear hk0
  have HFd := Lib.hid (fun w => rfind_calls n key w)
  by_cases hm : mayE base n = 2
  · have HE := Lib.hid (show swapE base n key p = 2 ∧ swapP base n key p = [] by
      have : swapE base n key p = 2 := by unfold swapE; rw [if_pos (.inl hm)]
      exact ⟨this, by unfold swapP; rw [this]; rfl⟩)
    rw [hm] at HM
    clear hm
    go_enter Try.func36, Try.ntmps36
    go_wp2_with (with_reducible refine wpList_load_part (o := ⟨some 13, _, _, _, _, _⟩) rfl 27 _ rfl w.heap.size 0 rfl (ndCells n) _ HL0.out Try.underlying27 rfl HI.out ?_)
    refine (HM.out _).mono ?_
    rintro e w1 ⟨rfl, hB⟩
    have HK1 := Lib.hid (HK0.out.below hB HK0.out.lt)
    have HL1 := Lib.hid (ndLoad HK1.out)
    have HB1 := Lib.hid (HB0.out.trans (hB.mono HB0.out.size))
    clear hB
    go_wp2_with (fail)
    go_ret2
    rw [HE.out.1, HE.out.2]
    exact MadeP.err HB1.out
  · have q0 : (mayE base n == 2) = false := beq_eq_false_iff_ne.2 hm
    cases hf : freshB n p with
    | false =>
      have HE := Lib.hid (show swapE base n key p = 2 ∧ swapP base n key p = [] by
        have : swapE base n key p = 2 := by unfold swapE; rw [if_pos (.inr hf)]
        exact ⟨this, by unfold swapP; rw [this]; rfl⟩)
      have HFr := Lib.hid (fun w => fresh_had hf w)
      obtain ⟨M, hM⟩ : ∃ M, mayE base n = M := ⟨_, rfl⟩
      rw [hM] at HM q0
      clear hm hf hM
      go_enter Try.func36, Try.ntmps36
      go_wp2_with (with_reducible refine wpList_load_part (o := ⟨some 13, _, _, _, _, _⟩) rfl 27 _ rfl w.heap.size 0 rfl (ndCells n) _ HL0.out Try.underlying27 rfl HI.out ?_)
      refine (HM.out _).mono ?_
      rintro e w1 ⟨rfl, hB⟩
      have HK1 := Lib.hid (HK0.out.below hB HK0.out.lt)
      have HL1 := Lib.hid (ndLoad HK1.out)
      have HB1 := Lib.hid (HB0.out.trans (hB.mono HB0.out.size))
      clear hB
      go_wp2_with (refine wpList_load_gd (o := ⟨some 18, .load 27 (.tmp 5), _, _, _, _⟩) 27 (.tmp 5) ?hoa w.heap.size 0 ?hxa (ndCells n) _ HL1.out Try.underlying27 rfl HI.out ?hwa ?_; (case hoa => rfl); (case hxa => rfl); (case hwa => rfl))
      refine (HFr.out _).mono ?_
      rintro e w2 ⟨rfl, hB⟩
      have HK2 := Lib.hid (HK1.out.below hB HK1.out.lt)
      have HL2 := Lib.hid (ndLoad HK2.out)
      have HB2 := Lib.hid (HB1.out.trans (hB.mono HB1.out.size))
      clear hB
      go_wp2_with (fail)
      go_ret2
      rw [HE.out.1, HE.out.2]
      exact MadeP.err HB2.out
    | true =>
      have HFr := Lib.hid (fun w => fresh_had hf w)
      by_cases hm0 : mayE base n = 0
      · obtain ⟨⟨s1, s2, s3⟩, _, _⟩ := mayE_stands hm0
        by_cases hfn : n.find key < 0
        · have HE := Lib.hid (show swapE base n key p = 5 ∧ swapP base n key p = [] by
            have : swapE base n key p = 5 := by unfold swapE; rw [if_neg (by rw [hf]; simp [hm]), if_neg (by simp [hm0]), if_pos hfn]
            exact ⟨this, by unfold swapP; rw [this]; rfl⟩)
          obtain ⟨fi, hfi⟩ : ∃ z, n.find key = z := ⟨_, rfl⟩
          rw [hfi] at HFd hfn
          rw [hm0] at HM
          clear hm hm0 hf q0 s3 hfi
          go_enter Try.func36, Try.ntmps36
          go_wp2_with (with_reducible refine wpList_load_part (o := ⟨some 13, _, _, _, _, _⟩) rfl 27 _ rfl w.heap.size 0 rfl (ndCells n) _ HL0.out Try.underlying27 rfl HI.out ?_)
          refine (HM.out _).mono ?_
          rintro e w1 ⟨rfl, hB⟩
          have HK1 := Lib.hid (HK0.out.below hB HK0.out.lt)
          have HL1 := Lib.hid (ndLoad HK1.out)
          have HB1 := Lib.hid (HB0.out.trans (hB.mono HB0.out.size))
          clear hB
          go_wp2_with (refine wpList_load_gd (o := ⟨some 18, .load 27 (.tmp 5), _, _, _, _⟩) 27 (.tmp 5) ?hob w.heap.size 0 ?hxb (ndCells n) _ HL1.out Try.underlying27 rfl HI.out ?hwb ?_; (case hob => rfl); (case hxb => rfl); (case hwb => rfl))
          refine (HFr.out _).mono ?_
          rintro e w2 ⟨rfl, hB⟩
          have HK2 := Lib.hid (HK1.out.below hB HK1.out.lt)
          have HL2 := Lib.hid (ndLoad HK2.out)
          have HB2 := Lib.hid (HB1.out.trans (hB.mono HB1.out.size))
          clear hB
          go_wp2_with (with_reducible refine wpList_load_part (o := ⟨some 25, _, _, _, _, _⟩) rfl 27 _ rfl w.heap.size 0 rfl (ndCells n) _ HL2.out Try.underlying27 rfl HI.out ?_)
          refine (HFd.out _).mono ?_
          rintro e w3 ⟨rfl, hB⟩
          have HK3 := Lib.hid (HK2.out.below hB HK2.out.lt)
          have HL3 := Lib.hid (ndLoad HK3.out)
          have HB3 := Lib.hid (HB2.out.trans (hB.mono HB2.out.size))
          clear hB
          go_wp2_with (fail)
          go_ret2
          rw [HE.out.1, HE.out.2]
          exact MadeP.err HB3.out
        · obtain ⟨at_, hat, hlt⟩ := find_lt n key (by omega)
          have h8 := n.len_le
          have ha8 : at_ ≤ 8 := by omega
          have HPt := Lib.hid (fun w => pt_b base at_ h0 s2 ha8 w)
          obtain ⟨a1, ha1⟩ : ∃ x, base + 64 + 16 * (at_ : Int) + 8 = x := ⟨_, rfl⟩
          have HE := Lib.hid (show swapE base n key p = 0 ∧ swapP base n key p = [(base + 24, cOne n)] ++ [(a1, p)] ++ [(base + 24, cTwo n)] by
            have : swapE base n key p = 0 := by unfold swapE; rw [if_neg (by rw [hf]; simp [hm]), if_neg (by simp [hm0]), if_neg hfn]
            exact ⟨this, by unfold swapP; rw [if_pos this, hat, ha1]; rfl⟩)
          rw [ha1] at HPt
          rw [hat] at HFd
          rw [hm0] at HM
          have q1 : ¬ (at_ : Int) < 0 := by omega
          clear hm hm0 hf hfn q0 s3 hat ha1 hlt h8
          go_enter Try.func36, Try.ntmps36
          go_wp2_with (with_reducible refine wpList_load_part (o := ⟨some 13, _, _, _, _, _⟩) rfl 27 _ rfl w.heap.size 0 rfl (ndCells n) _ HL0.out Try.underlying27 rfl HI.out ?_)
          refine (HM.out _).mono ?_
          rintro e w1 ⟨rfl, hB⟩
          have HK1 := Lib.hid (HK0.out.below hB HK0.out.lt)
          have HL1 := Lib.hid (ndLoad HK1.out)
          have HB1 := Lib.hid (HB0.out.trans (hB.mono HB0.out.size))
          clear hB
          go_wp2_with (refine wpList_load_gd (o := ⟨some 18, .load 27 (.tmp 5), _, _, _, _⟩) 27 (.tmp 5) ?hoc w.heap.size 0 ?hxc (ndCells n) _ HL1.out Try.underlying27 rfl HI.out ?hwc ?_; (case hoc => rfl); (case hxc => rfl); (case hwc => rfl))
          refine (HFr.out _).mono ?_
          rintro e w2 ⟨rfl, hB⟩
          have HK2 := Lib.hid (HK1.out.below hB HK1.out.lt)
          have HL2 := Lib.hid (ndLoad HK2.out)
          have HB2 := Lib.hid (HB1.out.trans (hB.mono HB1.out.size))
          clear hB
          go_wp2_with (with_reducible refine wpList_load_part (o := ⟨some 25, _, _, _, _, _⟩) rfl 27 _ rfl w.heap.size 0 rfl (ndCells n) _ HL2.out Try.underlying27 rfl HI.out ?_)
          refine (HFd.out _).mono ?_
          rintro e w3 ⟨rfl, hB⟩
          have HK3 := Lib.hid (HK2.out.below hB HK2.out.lt)
          have HL3 := Lib.hid (ndLoad HK3.out)
          have HB3 := Lib.hid (HB2.out.trans (hB.mono HB2.out.size))
          clear hB
          have HKx := HK3
          have HBx := HB3
          obtain ⟨wB, rfl⟩ : ∃ x, x = w3 := ⟨_, rfl⟩
          go_upto_region 9 with (fail)
          --GEN r_dswap
          refine wp_region_vals [Is (.int .u64 base), Is (.agg (ndCells n)), Is (.int .u64 base), Is (.int .i64 (at_ : Int)), Is (.int .u64 a1), Is (.int .u64 p), Is (.agg #[.int .u64 a1, .int .u64 p]), RowB wB.heap.size [(a1, p)], RowB wB.heap.size ([(base + 24, cOne n)] ++ [(a1, p)] ++ [(base + 24, cTwo n)]), RowB wB.heap.size ([(base + 24, cOne n)] ++ [(a1, p)] ++ [(base + 24, cTwo n)]), Is (.int .i64 0)]
            (fun _ W W' => Below W.heap.size W W') (fun _ W => Below wB.heap.size wB W) (by kernel_rfl) (by kernel_rfl) (by kernel_rfl) ?hst ?h0 ⟨?o0, ?o1, ?o2, ?o3, ?o4, ?o5, ?o6, ?o7, ?o8, ?o9, ?o10, trivial⟩ ?he
          case hst =>
            exact ⟨(fun _ _ _ _ _ _ h _ => h), (fun _ _ _ _ _ _ h _ => h), (fun _ _ _ _ _ _ h _ => h), (fun _ _ _ _ _ _ h _ => h), (fun _ _ _ _ _ _ h _ => h), (fun _ _ _ _ _ _ h _ => h), (fun _ _ _ _ _ _ h _ => h), (fun _ _ _ _ _ _ h hR => RowB.below h hR), (fun _ _ _ _ _ _ h hR => RowB.below h hR), (fun _ _ _ _ _ _ h hR => RowB.below h hR), (fun _ _ _ _ _ _ h _ => h), trivial⟩
          case h0 =>
            exact (Below.refl _ _).drew
          case o0 =>
            intro L vs A W H hf hd K hK
            have e0 : A.tmps[0]?.getD undef = .int .u64 base := H.old 0 (by kernel_rfl)
            go_simp
            exact hK _ _ (Below.refl _ _) rfl (H.glob)
          case o1 =>
            intro L vs A W H hf hd K hK
            have e5 : A.tmps[5]?.getD undef = .pointer (some ⟨w.heap.size, 0, none⟩) := H.old 5 (by kernel_rfl)
            rw [if_pos (show Region.wanted _ _ = true from rfl)]
            exact wp_load_nd _ rfl w.heap.size n (ev_tmp e5) (HKx.out.below H.glob HKx.out.lt) (hK _ _ (Below.refl _ _) rfl H.glob)
          case o2 =>
            intro L vs A W H hf hd K hK
            have e0 : A.tmps[0]?.getD undef = .int .u64 base := H.old 0 (by kernel_rfl)
            go_simp
            exact hK _ _ (Below.refl _ _) rfl (H.glob)
          case o3 =>
            intro L vs A W H hf hd K hK
            have e11 : A.tmps[11]?.getD undef = .int .i64 (at_ : Int) := H.old 11 (by kernel_rfl)
            go_simp
            exact hK _ _ (Below.refl _ _) rfl (H.glob)
          case o4 =>
            intro L vs A W H hf hd K hK
            have e32 := H.is 2 32 rfl rfl rfl (deps_of' hd 2 (by kernel_rfl)) (by kernel_rfl)
            have e33 := H.is 3 33 rfl rfl rfl (deps_of' hd 3 (by kernel_rfl)) (by kernel_rfl)
            rw [if_pos (show Region.wanted _ _ = true from rfl)]
            go_wp2_with (fail)
            refine (HPt.out _).mono ?_
            rintro e W2 ⟨rfl, rfl⟩
            exact hK _ _ (Below.refl _ _) rfl H.glob
          case o5 =>
            intro L vs A W H hf hd K hK
            have e3 : A.tmps[3]?.getD undef = .int .u64 p := H.old 3 (by kernel_rfl)
            go_simp
            exact hK _ _ (Below.refl _ _) rfl (H.glob)
          case o6 =>
            intro L vs A W H hf hd K hK
            have e34 := H.is 4 34 rfl rfl rfl (deps_of' hd 4 (by kernel_rfl)) (by kernel_rfl)
            have e35 := H.is 5 35 rfl rfl rfl (deps_of' hd 5 (by kernel_rfl)) (by kernel_rfl)
            go_simp
            exact hK _ _ (Below.refl _ _) rfl (H.glob)
          case o7 =>
            intro L vs A W H hf hd K hK
            have e36 := H.is 6 36 rfl rfl rfl (deps_of' hd 6 (by kernel_rfl)) (by kernel_rfl)
            have hgs := H.glob.size
            go_simp
            exact hK _ _ ((Below.refl _ _).alloc (Nat.le_refl _) _) (RowB.new (l := [(a1, p)]) hgs) (H.glob.trans (((Below.refl _ _).alloc (Nat.le_refl _) _).mono H.glob.size))
          case o8 =>
            intro L vs A W H hf hd K hK
            have e30 := H.is 0 30 rfl rfl rfl (deps_of' hd 0 (by kernel_rfl)) (by kernel_rfl)
            have e31 := H.is 1 31 rfl rfl rfl (deps_of' hd 1 (by kernel_rfl)) (by kernel_rfl)
            obtain ⟨v37, e37, q37⟩ := H.val 7 37 rfl rfl rfl (deps_of' hd 7 (by kernel_rfl)) (by kernel_rfl)
            rw [if_pos (show Region.wanted _ _ = true from rfl)]
            go_wp2_with (fail)
            refine (whole_v base n [(a1, p)] _ _ _ h0 s2 (by simp) q37).mono ?_
            rintro e W2 ⟨v, rfl, ho, hB⟩
            exact hK _ _ hB (ho.mono H.glob.size) (H.glob.trans (hB.mono H.glob.size))
          case o9 =>
            intro L vs A W H hf hd K hK
            obtain ⟨v38, e38, q38⟩ := H.val 8 38 rfl rfl rfl (deps_of' hd 8 (by kernel_rfl)) (by kernel_rfl)
            rw [if_pos (show Region.wanted _ _ = true from rfl)]
            go_simp
            exact hK _ _ (Below.refl _ _) q38 H.glob
          case o10 =>
            intro L vs A W H hf hd K hK
            go_simp
            exact hK _ _ (Below.refl _ _) rfl (H.glob)
          case he =>
            intro vs W hlen hv
            match vs, hlen, hv with
            | [x0_, x1_, x2_, x3_, x4_, x5_, x6_, x7_, x8_, x9_, x10_], _, hv =>
            obtain rfl : (.int .u64 base) = x0_ := by obtain ⟨z, h1, h2⟩ := hv 0 _ rfl; cases h1; exact h2.symm
            obtain rfl : (.agg (ndCells n)) = x1_ := by obtain ⟨z, h1, h2⟩ := hv 1 _ rfl; cases h1; exact h2.symm
            obtain rfl : (.int .u64 base) = x2_ := by obtain ⟨z, h1, h2⟩ := hv 2 _ rfl; cases h1; exact h2.symm
            obtain rfl : (.int .i64 (at_ : Int)) = x3_ := by obtain ⟨z, h1, h2⟩ := hv 3 _ rfl; cases h1; exact h2.symm
            obtain rfl : (.int .u64 a1) = x4_ := by obtain ⟨z, h1, h2⟩ := hv 4 _ rfl; cases h1; exact h2.symm
            obtain rfl : (.int .u64 p) = x5_ := by obtain ⟨z, h1, h2⟩ := hv 5 _ rfl; cases h1; exact h2.symm
            obtain rfl : (.agg #[.int .u64 a1, .int .u64 p]) = x6_ := by obtain ⟨z, h1, h2⟩ := hv 6 _ rfl; cases h1; exact h2.symm
            have hx7 : (RowB wB.heap.size [(a1, p)]) x7_ W := by obtain ⟨z, h1, h2⟩ := hv 7 _ rfl; cases h1; exact h2
            have hx8 : (RowB wB.heap.size ([(base + 24, cOne n)] ++ [(a1, p)] ++ [(base + 24, cTwo n)])) x8_ W := by obtain ⟨z, h1, h2⟩ := hv 8 _ rfl; cases h1; exact h2
            have hx9 : (RowB wB.heap.size ([(base + 24, cOne n)] ++ [(a1, p)] ++ [(base + 24, cTwo n)])) x9_ W := by obtain ⟨z, h1, h2⟩ := hv 9 _ rfl; cases h1; exact h2
            obtain rfl : (.int .i64 0) = x10_ := by obtain ⟨z, h1, h2⟩ := hv 10 _ rfl; cases h1; exact h2.symm
            intro L hall hG
            clear hv hlen
            have hx := hx9
            obtain ⟨a, m, c, rfl⟩ := own_slice hx
            have HD := Lib.hid (show MadeP (swapP base n key p) 0 w (.returned (.tuple #[.slice a m c, .int .i64 0])) W from MadeP.row hx (HBx.out.trans (hG.mono HBx.out.size)) HBx.out.size HE.out.2.symm)
            clear hG hall hx8 hx9 hx7 hx
            simp only [fill, if_true]
            go_simp
            go_wp2_with (fail)
            go_ret2
            rw [HE.out.1]
            exact HD.out
          --END
      · have HE := Lib.hid (show swapE base n key p = mayE base n ∧ swapP base n key p = [] by
          have : swapE base n key p = mayE base n := by unfold swapE; rw [if_neg (by rw [hf]; simp [hm]), if_pos hm0]
          exact ⟨this, by unfold swapP; rw [this, if_neg hm0]⟩)
        have q1 : (mayE base n != 0) = true := bne_iff_ne.2 hm0
        obtain ⟨M, hM⟩ : ∃ M, mayE base n = M := ⟨_, rfl⟩
        rw [hM] at HM q0 q1 HE
        clear hm hf hM hm0
        go_enter Try.func36, Try.ntmps36
        go_wp2_with (with_reducible refine wpList_load_part (o := ⟨some 13, _, _, _, _, _⟩) rfl 27 _ rfl w.heap.size 0 rfl (ndCells n) _ HL0.out Try.underlying27 rfl HI.out ?_)
        refine (HM.out _).mono ?_
        rintro e w1 ⟨rfl, hB⟩
        have HK1 := Lib.hid (HK0.out.below hB HK0.out.lt)
        have HL1 := Lib.hid (ndLoad HK1.out)
        have HB1 := Lib.hid (HB0.out.trans (hB.mono HB0.out.size))
        clear hB
        go_wp2_with (refine wpList_load_gd (o := ⟨some 18, .load 27 (.tmp 5), _, _, _, _⟩) 27 (.tmp 5) ?hod w.heap.size 0 ?hxd (ndCells n) _ HL1.out Try.underlying27 rfl HI.out ?hwd ?_; (case hod => rfl); (case hxd => rfl); (case hwd => rfl))
        refine (HFr.out _).mono ?_
        rintro e w2 ⟨rfl, hB⟩
        have HK2 := Lib.hid (HK1.out.below hB HK1.out.lt)
        have HL2 := Lib.hid (ndLoad HK2.out)
        have HB2 := Lib.hid (HB1.out.trans (hB.mono HB1.out.size))
        clear hB
        go_wp2_with (fail)
        go_ret2
        rw [HE.out.1, HE.out.2]
        exact MadeP.err HB2.out
end Go.Proofs.Ytbpaefhihdhdeaa
