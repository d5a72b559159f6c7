/-
  The law NodeWords.
-/
import Derived.Test.YtkfpoekeofnglaaDoorOf
import Derived.Test.YtkfpoekeofnglaaDoorKn
namespace Go.Proofs.YtkfpoekeofnglaaDoor
open Go.RowKit

theorem wordsF_0 (n : Nd) (hw : n.Wf) : 0 ≤ wordsF n 0 ∧ wordsF n 0 ≤ 18446744073709551615 := by
  have := i64_bounds hw.lv
  unfold wordsF
  by_cases h : n.lv < 0 ∨ 15 < n.lv
  · rw [if_pos h]; omega
  · rw [if_neg h]
    have : wTo n 8 0 = tagM + n.lv := rfl
    rw [this]; unfold tagM; omega
theorem cells_of (a b : Nd) (h0 : a.lv = b.lv) (h1 : a.lo = b.lo) (h2 : a.nx = b.nx) (h3 : a.ct = b.ct) (h4 : a.fi = b.fi) (hk : ∀ i, i < 8 → a.k i = b.k i) (hp : ∀ i, i < 8 → a.p i = b.p i) : ndCells a = ndCells b := by
  rw [lit21 a, lit21 b, h0, h1, h2, h3, h4, hk 0 (by omega), hk 1 (by omega), hk 2 (by omega), hk 3 (by omega), hk 4 (by omega), hk 5 (by omega), hk 6 (by omega), hk 7 (by omega), hp 0 (by omega), hp 1 (by omega), hp 2 (by omega), hp 3 (by omega), hp 4 (by omega), hp 5 (by omega), hp 6 (by omega), hp 7 (by omega)]
theorem wTo_k (n : Nd) (i : Nat) (h : i < 8) : wTo n 8 (8 + 2 * i) = n.k i := by
  unfold wTo fullW
  rw [if_pos (by omega), if_neg (by omega), if_neg (by omega), if_neg (by omega), if_neg (by omega), if_neg (by omega), if_neg (by omega), if_pos (by omega)]
  congr 1; omega
theorem wTo_p (n : Nd) (i : Nat) (h : i < 8) : wTo n 8 (9 + 2 * i) = n.p i := by
  unfold wTo fullW
  rw [if_pos (by omega), if_neg (by omega), if_neg (by omega), if_neg (by omega), if_neg (by omega), if_neg (by omega), if_neg (by omega), if_neg (by omega)]
  congr 1; omega
theorem of_back (n : Nd) (h : ¬ (n.lv < 0 ∨ 15 < n.lv)) : ndCells (nTo (wTo n 8) 8) = ndCells n := by
  refine cells_of _ _ ?_ rfl rfl rfl rfl (fun i hi => ?_) (fun i hi => ?_)
  · show tagM + n.lv - tagM = n.lv; omega
  · show (if i < 8 then wTo n 8 (8 + 2 * i) else 0) = n.k i
    rw [if_pos hi, wTo_k n i hi]
  · show (if i < 8 then wTo n 8 (9 + 2 * i) else 0) = n.p i
    rw [if_pos hi, wTo_p n i hi]
theorem of_words (n : Nd) (hw : n.Wf) (w : World) :
    Calls Tryd.prog 28 #[.agg (wdCells (wordsF n))] w fun e w' => e = .returned (.tuple #[.agg (ndCells (if n.lv < 0 ∨ 15 < n.lv then nd0 else n)), .int .i64 (if n.lv < 0 ∨ 15 < n.lv then 11 else 0)]) ∧ Below w.heap.size w w' := by
  have := of_v (wordsF n) (wordsF_0 n hw) w
  by_cases h : n.lv < 0 ∨ 15 < n.lv
  · rw [if_pos h, if_pos h]
    have e : ofV (wordsF n) = (nd0, 11) := by
      unfold ofV ofBad wordsF
      rw [if_pos h]
      have : decide ((0 : Int) < tagM) = true := by unfold tagM; rfl
      simp [this]
    rw [e] at this
    exact this
  · rw [if_neg h, if_neg h]
    have e : ofV (wordsF n) = (nTo (wTo n 8) 8, 0) := by
      unfold ofV ofBad wordsF
      rw [if_neg h]
      have h0 : wTo n 8 0 = tagM + n.lv := rfl
      rw [h0]
      have a : decide (tagM + n.lv < tagM) = false := decide_eq_false (by omega)
      have b : decide (tagM + 15 < tagM + n.lv) = false := decide_eq_false (by omega)
      rw [a, b]; rfl
    rw [e] at this
    unfold MkP at this
    rw [of_back n h] at this
    exact this
/-- a new block with words in it -/
def newWd (w : World) (f : Nat → Int) : World := (w.alloc (.cells (wdCells (fun _ => 0)) 49)).setRow w.heap.size (wdCells f)
theorem newWd_blk (w : World) (f : Nat → Int) : Blk (newWd w f) w.heap.size (wdCells f) 49 := (Blk.new w (wdCells (fun _ => 0)) 49).row _
theorem newWd_below (w : World) (f : Nat → Int) : Below w.heap.size w (newWd w f) := below_setRow ((Below.refl w.heap.size w).alloc (Nat.le_refl _) _) (Nat.le_refl _) _
def newNd (w : World) (m : Nd) : World := (w.alloc (.cells (ndCells nd0) 27)).setRow w.heap.size (ndCells m)
theorem newNd_blk (w : World) (m : Nd) : Blk (newNd w m) w.heap.size (ndCells m) 27 := (Blk.new w (ndCells nd0) 27).row _
theorem newNd_below (w : World) (m : Nd) : Below w.heap.size w (newNd w m) := below_setRow ((Below.refl w.heap.size w).alloc (Nat.le_refl _) _) (Nat.le_refl _) _

set_option maxRecDepth 100000 in
set_option maxHeartbeats 6400000 in
theorem words_law (n : Nd) (hw : n.Wf) (w : World) (ht : Tens w) :
    Calls Tryd.prog 7 #[.agg (ndCells n)] w fun e W' => e = .returned (.bool true) ∧ Below w.heap.size w W' := by
  obtain ⟨f, hf⟩ : ∃ f, wordsF n = f := ⟨_, rfl⟩
  obtain ⟨m, hm⟩ : ∃ m, (if n.lv < 0 ∨ 15 < n.lv then nd0 else n) = m := ⟨_, rfl⟩
  obtain ⟨cd, hcd⟩ : ∃ c : Int, (if n.lv < 0 ∨ 15 < n.lv then 11 else 0) = c := ⟨_, rfl⟩
  have HWd := Lib.hid (fun w => show Calls Tryd.prog 27 #[.agg (ndCells n)] w fun e w' => e = .returned (.agg (wdCells f)) ∧ Below w.heap.size w w' by rw [← hf]; exact words_v n hw w)
  have HRW := Lib.hid (fun w => show Calls Tryd.prog 29 #[.agg (ndCells n)] w fun e w' => e = .returned (.agg (wdCells f)) ∧ Below w.heap.size w w' by rw [← hf]; exact rwords_v n hw w)
  have HOf := Lib.hid (fun w => show Calls Tryd.prog 28 #[.agg (wdCells f)] w fun e w' => e = .returned (.tuple #[.agg (ndCells m), .int .i64 cd]) ∧ Below w.heap.size w w' by rw [← hf, ← hm, ← hcd]; exact of_words n hw w)
  have HEQ := Lib.hid (fun w => eq_wd f w)
  have HT := Lib.hid ht
  have HMC := Lib.hid (And.intro hm hcd)
  have HI := Lib.hid (info27 n)
  have HIf := Lib.hid (infoWd f)
  have HIm := Lib.hid (info27 m)
  have hk0 : Blk (w.alloc (.cells (ndCells n) 27)) w.heap.size (ndCells n) 27 := Blk.new w _ _
  have HK0 := Lib.hid hk0
  have HL0 := Lib.hid (ndLoad hk0)
  have HB0 := Lib.hid ((Below.refl w.heap.size w).alloc (Nat.le_refl _) (.cells (ndCells n) 27))
  clear hf hm hcd hw ht hk0
  go_enter Tryd.func7, Tryd.ntmps7
  go_wp2_with (with_reducible refine wpList_load_part (o := ⟨some 6, _, _, _, _, _⟩) rfl 27 _ rfl w.heap.size 0 rfl (ndCells n) _ HL0.out Tryd.underlying27 rfl HI.out ?_)
  refine (HWd.out _).mono ?_
  rintro e w1 ⟨rfl, hB1⟩
  have HK1a := Lib.hid (HK0.out.below hB1 HK0.out.lt)
  have HB1 := Lib.hid (HB0.out.trans (hB1.mono HB0.out.size))
  clear hB1 HWd
  go_upto_region 2 with (first | (with_reducible refine wpList_alloc_wdAt (o := ⟨some 3, _, _, _, _, _⟩) rfl rfl w1.heap.size rfl ?_) | (refine wpList_store_wd (o := ⟨none, .store 49 (.tmp 3) (.tmp 7), _, _, _, _⟩) rfl (.tmp 3) (.tmp 7) ?ho w1.heap.size f (fun _ => 0) ?hx ?hy (Blk.new w1 _ _) ?_; (case ho => rfl); (case hx => rfl); (case hy => rfl); rw [show (w1.alloc (.cells (wdCells (fun _ => 0)) 49)).setRow w1.heap.size (wdCells f) = newWd w1 f from rfl]))
  go_simp
  have hk2 := HK1a.out.below (newWd_below w1 f) HK1a.out.lt
  have hf2 := newWd_blk w1 f
  have hB2 := HB1.out.trans ((newWd_below w1 f).mono HB1.out.size)
  obtain ⟨b3, hb3⟩ : ∃ x, w1.heap.size = x := ⟨_, rfl⟩
  rw [hb3] at hf2 ⊢
  clear hb3 HB1 HK1a
  generalize newWd w1 f = w2 at *
  have HL2 := Lib.hid (wdLoad hf2)
  have HK2 := Lib.hid hk2
  have HF2 := Lib.hid hf2
  have HB2 := Lib.hid hB2
  clear hk2 hf2 hB2
  go_wp2_with (with_reducible refine wpList_load_part (o := ⟨some 9, _, _, _, _, _⟩) rfl 49 _ rfl b3 0 rfl (wdCells f) _ HL2.out Tryd.underlying49 rfl HIf.out ?_)
  refine (HOf.out _).mono ?_
  rintro e w3 ⟨rfl, hB3⟩
  have HK3a := Lib.hid (HK2.out.below hB3 HK2.out.lt)
  have HF3a := Lib.hid (HF2.out.below hB3 HF2.out.lt)
  have HB3 := Lib.hid (HB2.out.trans (hB3.mono HB2.out.size))
  clear hB3 HOf HL2
  go_upto_region 3 with (first | (with_reducible refine wpList_alloc_nd (o := ⟨some 4, _, _, _, _, _⟩) rfl rfl ?_) | (refine wpList_store_ndc (o := ⟨none, .store 27 (.tmp 4) (.tmp 11), _, _, _, _⟩) rfl (.tmp 4) (.tmp 11) ?hoc w3.heap.size ?csc m nd0 ?hxc ?hyc (Blk.new w3 _ _) ?hmc ?_; (case hoc => rfl); (case hxc => rfl); (case hyc => rfl); (case hmc => rfl); rw [show (w3.alloc (.cells (ndCells nd0) 27)).setRow w3.heap.size (ndCells m) = newNd w3 m from rfl]))
  go_simp
  have hk4 := HK3a.out.below (newNd_below w3 m) HK3a.out.lt
  have hf4 := HF3a.out.below (newNd_below w3 m) HF3a.out.lt
  have hm4 := newNd_blk w3 m
  have hB4 := HB3.out.trans ((newNd_below w3 m).mono HB3.out.size)
  obtain ⟨b4, hb4⟩ : ∃ x, w3.heap.size = x := ⟨_, rfl⟩
  obtain ⟨b1, hb1⟩ : ∃ x, w.heap.size = x := ⟨_, rfl⟩
  rw [hb4] at hm4 ⊢
  rw [hb1] at hk4
  clear hb4 HB3 HK3a HF3a
  generalize newNd w3 m = w0 at *
  have HK1 := Lib.hid hk4
  have HK3 := Lib.hid hf4
  have HK4 := Lib.hid hm4
  have HBw := Lib.hid hB4
  clear hk4 hf4 hm4 hB4 HK0 HK2 HF2 HB0 HB2 HL0
  rw [hb1]
  --GEN r_nw3
  refine wp_region_vals [Is (.agg (wdCells f)), Is (.agg (ndCells n)), Is (.agg (wdCells f)), Is (.bool false)]
    (fun _ W W' => Below W.heap.size W W') (fun _ W => Below w0.heap.size w0 W) (by kernel_rfl) (by kernel_rfl) (by kernel_rfl) ?hst ?h0 ⟨?o0, ?o1, ?o2, ?o3, trivial⟩ ?he
  case hst =>
    exact ⟨(fun _ _ _ _ _ _ h _ => h), (fun _ _ _ _ _ _ h _ => h), (fun _ _ _ _ _ _ h _ => h), (fun _ _ _ _ _ _ h _ => h), trivial⟩
  case h0 =>
    exact (Below.refl _ _).drew
  case o0 =>
    intro L vs A W H hf hd K hK
    have e3 : A.tmps[3]?.getD undef = .pointer (some ⟨b3, 0, none⟩) := H.old 3 (by kernel_rfl)
    rw [if_pos (show Region.wanted _ _ = true from rfl)]
    have hb := HK3.out.below H.glob HK3.out.lt
    exact wp_ld_part 49 _ rfl b3 0 (ev_tmp e3) (wdCells f) _ (wdLoad hb) Tryd.underlying49 rfl (infoWd f) (hK _ _ (Below.refl _ _) rfl H.glob)
  case o1 =>
    intro L vs A W H hf hd K hK
    have e1 : A.tmps[1]?.getD undef = .pointer (some ⟨b1, 0, none⟩) := H.old 1 (by kernel_rfl)
    rw [if_pos (show Region.wanted _ _ = true from rfl)]
    exact wp_load_nd _ rfl b1 n (ev_tmp e1) (HK1.out.below H.glob HK1.out.lt) (hK _ _ (Below.refl _ _) rfl H.glob)
  case o2 =>
    intro L vs A W H hf hd K hK
    have e14 := H.is 1 14 rfl rfl rfl (deps_of' hd 1 (by kernel_rfl)) (by kernel_rfl)
    rw [if_pos (show Region.wanted _ _ = true from rfl)]
    go_wp2_with (fail)
    refine (HRW.out _).mono ?_
    rintro e W2 ⟨rfl, hB⟩
    exact hK _ _ hB rfl (H.glob.trans (hB.mono H.glob.size))
  case o3 =>
    intro L vs A W H hf hd K hK
    have e13 := H.is 0 13 rfl rfl rfl (deps_of' hd 0 (by kernel_rfl)) (by kernel_rfl)
    have e15 := H.is 2 15 rfl rfl rfl (deps_of' hd 2 (by kernel_rfl)) (by kernel_rfl)
    have hq := HEQ.out W
    go_simp
    exact hK _ _ (Below.refl _ _) rfl (H.glob)
  case he =>
    intro vs W hlen hv
    match vs, hlen, hv with
    | [x0_, x1_, x2_, x3_], _, hv =>
    obtain rfl : (.agg (wdCells f)) = x0_ := by obtain ⟨z, h1, h2⟩ := hv 0 _ rfl; cases h1; exact h2.symm
    obtain rfl : (.agg (ndCells n)) = x1_ := by obtain ⟨z, h1, h2⟩ := hv 1 _ rfl; cases h1; exact h2.symm
    obtain rfl : (.agg (wdCells f)) = x2_ := by obtain ⟨z, h1, h2⟩ := hv 2 _ rfl; cases h1; exact h2.symm
    obtain rfl : (.bool false) = x3_ := by obtain ⟨z, h1, h2⟩ := hv 3 _ rfl; cases h1; exact h2.symm
    intro L hall hG
    clear hv hlen
    have HG := Lib.hid hG
    clear hG hall
    simp only [fill, if_true]
    go_simp
  --END
    have HBW := Lib.hid (HBw.out.trans (HG.out.mono HBw.out.size))
    have hk1 := HK1.out.below HG.out HK1.out.lt
    have hm1 := HK4.out.below HG.out HK4.out.lt
    have c0 : W.cell? ⟨b1, 0, none⟩ = some (.int .i64 n.lv) := by rw [hk1.cell, ndCells_0]
    have HLn := Lib.hid (ndLoad hk1)
    have HLm := Lib.hid (ndLoad hm1)
    clear hk1 hm1 HG HK1 HK3 HK4 HRW HEQ HBw
    by_cases hl : n.lv < 0 ∨ 15 < n.lv
    · obtain ⟨h1, h2⟩ := HMC.out
      rw [if_pos hl] at h1 h2
      subst h2
      have hEq := fun w => (show (Op.equalIn 10000 27 (.agg (ndCells m)) (.agg #[.int .i64 0, .int .u64 0, .int .u64 0, .int .u64 0, .int .u64 0, .int .u64 0, .int .u64 0, .int .u64 0, .int .u64 0, .int .u64 0, .int .u64 0, .int .u64 0, .int .u64 0, .int .u64 0, .int .u64 0, .int .u64 0, .int .u64 0, .int .u64 0, .int .u64 0, .int .u64 0, .int .u64 0])).run Tryd.prog w = .ok true w by rw [← h1]; exact eq_nd nd0 w)
      clear h1 HMC HLn
      rcases hl with hl | hl
      · go_upto_region 6 with (fail)
        go_wp2_with (refine wpList_load_gd (o := ⟨some 28, .load 27 (.tmp 4), _, _, _, _⟩) 27 (.tmp 4) ?hod b4 0 ?hxd (ndCells m) _ HLm.out Tryd.underlying27 rfl HIm.out ?hwd ?_; (case hod => rfl); (case hxd => rfl); (case hwd => rfl))
        refine (known_v _ (HT.out.below HBW.out)).mono ?_
        rintro e w5 ⟨rfl, hB⟩
        have HB5 := Lib.hid (HBW.out.trans (hB.mono HBW.out.size))
        clear hB
        go_wp2_with (fail)
        go_ret
        exact ⟨rfl, HB5.out⟩
      · have d1 : decide (n.lv < 0) = false := decide_eq_false (by omega)
        go_upto_region 6 with (fail)
        go_wp2_with (refine wpList_load_gd (o := ⟨some 28, .load 27 (.tmp 4), _, _, _, _⟩) 27 (.tmp 4) ?hoe b4 0 ?hxe (ndCells m) _ HLm.out Tryd.underlying27 rfl HIm.out ?hwe ?_; (case hoe => rfl); (case hxe => rfl); (case hwe => rfl))
        refine (known_v _ (HT.out.below HBW.out)).mono ?_
        rintro e w5 ⟨rfl, hB⟩
        have HB5 := Lib.hid (HBW.out.trans (hB.mono HBW.out.size))
        clear hB
        go_wp2_with (fail)
        go_ret
        exact ⟨rfl, HB5.out⟩
    · obtain ⟨h1, h2⟩ := HMC.out
      rw [if_neg hl] at h1 h2
      subst h2
      have d1 : decide (n.lv < 0) = false := decide_eq_false (by omega)
      have d2 : decide (15 < n.lv) = false := decide_eq_false (by omega)
      have hEq := fun w => (show (Op.equalIn 10000 27 (.agg (ndCells m)) (.agg (ndCells n))).run Tryd.prog w = .ok true w by rw [← h1]; exact eq_nd n w)
      clear h1 HMC hl
      go_upto_region 7 with (fail)
      go_wp2_with (first | (refine wpList_load_gd (o := ⟨some 38, .load 27 (.tmp 4), _, _, _, _⟩) 27 (.tmp 4) ?hof b4 0 ?hxf (ndCells m) _ HLm.out Tryd.underlying27 rfl HIm.out ?hwf ?_; (case hof => rfl); (case hxf => rfl); (case hwf => rfl)) | (refine wpList_load_gd (o := ⟨some 39, .load 27 (.tmp 1), _, _, _, _⟩) 27 (.tmp 1) ?hog b1 0 ?hxg (ndCells n) _ HLn.out Tryd.underlying27 rfl HI.out ?hwg ?_; (case hog => rfl); (case hxg => rfl); (case hwg => rfl)))
      refine (known_v _ (HT.out.below HBW.out)).mono ?_
      rintro e w5 ⟨rfl, hB⟩
      have HB5 := Lib.hid (HBW.out.trans (hB.mono HBW.out.size))
      clear hB
      go_wp2_with (fail)
      go_ret
      exact ⟨rfl, HB5.out⟩
end Go.Proofs.YtkfpoekeofnglaaDoor
