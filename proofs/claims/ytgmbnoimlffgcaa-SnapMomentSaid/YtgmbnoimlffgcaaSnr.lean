/-
  leveelaw11.right: a contract; a snapshot under way, with what was done told.
-/
import Derived.Test.YtgmbnoimlffgcaaSnq
namespace Go.Proofs.Ytgmbnoimlffgcaa
open Go.RowKit
attribute [local go_sem] Oper.semAt_some
set_option linter.unusedVariables false

/-! ### a snapshot under way, with its loads -/
structure SnA (w5 : World) (sb mb : Nat) (S : Nat → Prop) (vs : List Int) (a st fl fe : Int) (k : Nat) (lo : Int) (wr : World) : Prop where
  s : ∃ s, Blk wr sb (snCells s) 62 ∧ SnI sb (some ⟨mb, 0, none⟩) vs a k s
  m : MemV wr mb S vs lo st fl fe
  k : Keeps (fun i => i = sb ∨ S i) w5 wr
structure SnZA (w5 : World) (sb mb : Nat) (S : Nat → Prop) (vs : List Int) (a st fl fe er : Int) (lo : Int) (wr : World) : Prop where
  s : ∃ s, Blk wr sb (snCells s) 62 ∧ SnD sb vs a er s
  m : MemV wr mb S vs lo st fl fe
  k : Keeps (fun i => i = sb ∨ S i) w5 wr
section
variable {w5 wr wr' : World} {sb mb : Nat} {S : Nat → Prop} {vs : List Int} {a st fl fe : Int} {k : Nat} {lo er : Int}
theorem SnA.below (h : SnA w5 sb mb S vs a st fl fe k lo wr) (hB : Below wr.heap.size wr wr') : SnA w5 sb mb S vs a st fl fe k lo wr' := by
  obtain ⟨⟨s, hb, hI⟩, ⟨is, mk, F, hm⟩, hk⟩ := h
  exact ⟨⟨s, hb.kept (Keeps.of_below' hB) (fun h => h), hI⟩, ⟨is, mk, F, hm.below hB⟩, hk.trans ((Keeps.of_below' hB).mono (fun _ _ h => h.elim))⟩
theorem SnZA.below (h : SnZA w5 sb mb S vs a st fl fe er lo wr) (hB : Below wr.heap.size wr wr') : SnZA w5 sb mb S vs a st fl fe er lo wr' := by
  obtain ⟨⟨s, hb, hI⟩, ⟨is, mk, F, hm⟩, hk⟩ := h
  exact ⟨⟨s, hb.kept (Keeps.of_below' hB) (fun h => h), hI⟩, ⟨is, mk, F, hm.below hB⟩, hk.trans ((Keeps.of_below' hB).mono (fun _ _ h => h.elim))⟩
end
/-! ### right -/
def rightN (n : Nd) : Nd := if n.nx = 0 then n else { n with nx := 1280 }
def rightB (n : Nd) : Bool := n.mayB 0 false && decide (n.inval < 0)
structure RtW (w : World) (b1 b2 : Nat) (m : Nd) (L : Nat → Bool) (W : World) : Prop where
  f : Blk W b1 (ndCells m) 40
  r : Blk W b2 (ndCells (if L 8 = true then m else nd0)) 40
  b : Below w.heap.size w W
  lt : w.heap.size ≤ b1 ∧ b1 < b2
section
variable {w W W' : World} {b1 b2 : Nat} {m : Nd} {L L' : Nat → Bool}
theorem RtW.keep (h : RtW w b1 b2 m L W) (e : L' 8 = L 8) : RtW w b1 b2 m L' W := ⟨h.f, by rw [e]; exact h.r, h.b, h.lt⟩
theorem RtW.below (h : RtW w b1 b2 m L W) (hB : Below W.heap.size W W') (e : L' 8 = L 8) : RtW w b1 b2 m L' W' :=
  ⟨h.f.kept (Keeps.of_below' hB) (fun h => h), by rw [e]; exact h.r.kept (Keeps.of_below' hB) (fun h => h), h.b.trans (hB.mono h.b.size), h.lt⟩
theorem RtW.store (h : RtW w b1 b2 m L W) : RtW w b1 b2 m (lset L 8) (W.setRow b2 (ndCells m)) :=
  ⟨h.f.rowOther _ (by have := h.lt; omega), by rw [if_pos (by simp [lset])]; exact h.r.row _, below_setRow h.b (by have := h.lt; omega) _, h.lt⟩
theorem TrW.rt (h : TrW w b1 b2 m W) : RtW w b1 b2 m (fun _ => false) W.drew := ⟨h.f.drew, by rw [if_neg (by simp)]; exact h.r.drew, h.b.drew, h.lt⟩
end
set_option maxRecDepth 100000 in
set_option maxHeartbeats 16000000 in
theorem right_v (n : Nd) (w : World) : Calls Try.prog 17 #[.agg (ndCells n)] w fun e w' => e = .returned (.tuple #[.agg (ndCells (rightN n)), .bool (rightB (rightN n))]) ∧ Below w.heap.size w w' := by
  have HT0 := Lib.hid (TrW.start w n)
  have hs1 : (w.alloc (.cells (ndCells n) 40)).heap.size = w.heap.size + 1 := by simp
  obtain ⟨b1, hb1⟩ : ∃ b1, w.heap.size = b1 := ⟨_, rfl⟩
  obtain ⟨b2, hb2⟩ : ∃ b2, b1 + 1 = b2 := ⟨_, rfl⟩
  rw [hb1, hb2] at HT0 hs1
  have HZ := Lib.hid hs1
  clear hs1
  go_enter Try.func17, Try.ntmps17
  go_upto_region 1 with ((with_reducible refine wpList_alloc_ndAt (o := ⟨some 2, _, _, _, _, _⟩) rfl rfl b2 ?hz ?_); (case hz => exact HZ.out))
  generalize (w.alloc (.cells (ndCells n) 40)).alloc (.cells (ndCells nd0) 40) = w0 at *
  have d2 : w0.cell? ⟨b1, 2, none⟩ = some (.int .u64 n.nx) := (HT0.out.f.cell 2).trans (ndCells_2 n)
  have f2 := HT0.out.f.frozen 2
  obtain ⟨x, hx⟩ : ∃ x, n.nx = x := ⟨_, rfl⟩
  rw [hx] at d2
  by_cases hz : x = 0
  · have HRn := Lib.hid (show rightN n = n by unfold rightN; rw [hx, if_pos hz])
    subst hz
    go_upto_region 3 with (fail)
    obtain ⟨W3, hW3⟩ : ∃ W3, w0 = W3 := ⟨_, rfl⟩
    rw [hW3] at HT0 ⊢
    have HT3 := Lib.hid HT0.out
    obtain ⟨m, hm⟩ : ∃ m, n = m := ⟨_, rfl⟩
    have HRn := Lib.hid (show rightN n = m by rw [HRn.out, hm])
    rw [hm] at HT3
    clear hm HT0 hW3 hx d2 f2
    go_wp2_with (fail)
    have HMay := Lib.hid (show ∀ W, Calls Try.prog 38 #[.agg (ndCells m), .int .u64 0, .bool false] W fun e w' => e = .returned (.bool (m.mayB 0 false)) ∧ Below W.heap.size W w' from fun W => rmay_calls m 0 false W)
    have HInv := Lib.hid (fun W => rinvalid_calls m W)
    obtain ⟨iv, hiv⟩ : ∃ iv, m.inval = iv := ⟨_, rfl⟩
    obtain ⟨bm, hbm⟩ : ∃ bm, m.mayB 0 false = bm := ⟨_, rfl⟩
    have HRb := Lib.hid (show rightB m = (bm && decide (iv < 0)) by unfold rightB; rw [hbm, hiv])
    rw [hiv] at HInv
    rw [hbm] at HMay
    clear hiv hbm
    cases bm with
    | true =>
      --GEN r_rt3t
      refine wp_region_vals [Is (.agg (ndCells m)), Is (.agg (ndCells m)), Is (.bool true), Is (.bool true), Is (.agg (ndCells m)), Is (.int .i64 iv), Is (.bool (decide (iv < 0))), Is (.bool (decide (iv < 0))), Any, Is (.bool (decide (iv < 0)))]
        (fun _ _ _ => True) (fun L W => RtW w b1 b2 m L W) (by kernel_rfl) (by kernel_rfl) (by kernel_rfl) ?hst ?h0 ⟨?o0, ?o1, ?o2, ?o3, ?o4, ?o5, ?o6, ?o7, ?o8, ?o9, trivial⟩ ?he
      case hst =>
        exact ⟨(fun _ _ _ _ _ _ h _ => h), (fun _ _ _ _ _ _ h _ => h), (fun _ _ _ _ _ _ h _ => h), (fun _ _ _ _ _ _ h _ => h), (fun _ _ _ _ _ _ h _ => h), (fun _ _ _ _ _ _ h _ => h), (fun _ _ _ _ _ _ h _ => h), (fun _ _ _ _ _ _ h _ => h), (fun _ _ _ _ _ _ h _ => h), (fun _ _ _ _ _ _ h _ => h), trivial⟩
      case h0 =>
        exact HT3.out.rt
      case o0 =>
        intro L vs A W H hf hd K hK
        have e1 : A.tmps[1]?.getD undef = .pointer (some ⟨b1, 0, none⟩) := H.old 1 (by kernel_rfl)
        exact wp_load_nd (.tmp 1) rfl b1 m (ev_tmp e1) H.glob.f (hK _ _ trivial rfl (H.glob.keep rfl))
      case o1 =>
        intro L vs A W H hf hd K hK
        have e1 : A.tmps[1]?.getD undef = .pointer (some ⟨b1, 0, none⟩) := H.old 1 (by kernel_rfl)
        exact wp_load_nd (.tmp 1) rfl b1 m (ev_tmp e1) H.glob.f (hK _ _ trivial rfl (H.glob.keep rfl))
      case o2 =>
        intro L vs A W H hf hd K hK
        have e9 := H.is 1 9 rfl rfl rfl (deps_of' hd 1 (by kernel_rfl)) (by kernel_rfl)
        have HL := Lib.hid (HMay.out W)
        go_simp
        refine HL.out.mono ?_
        rintro e w' ⟨rfl, hB⟩
        go_simp
        exact hK _ _ trivial rfl (H.glob.below hB rfl)
      case o3 =>
        intro L vs A W H hf hd K hK
        have e10 := H.is 2 10 rfl rfl rfl (deps_of' hd 2 (by kernel_rfl)) (by kernel_rfl)
        go_simp
        exact hK _ _ (trivial) rfl (H.glob.keep rfl)
      case o4 =>
        intro L vs A W H hf hd K hK
        have e11 := H.is 3 11 rfl rfl rfl (deps_of' hd 3 (by kernel_rfl)) (by kernel_rfl)
        refine if_wanted (j := 3) (s := 11) rfl rfl rfl e11 rfl ?_
        have e1 : A.tmps[1]?.getD undef = .pointer (some ⟨b1, 0, none⟩) := H.old 1 (by kernel_rfl)
        exact wp_load_nd (.tmp 1) rfl b1 m (ev_tmp e1) H.glob.f (hK _ _ trivial rfl (H.glob.keep rfl))
      case o5 =>
        intro L vs A W H hf hd K hK
        have e11 := H.is 3 11 rfl rfl rfl (deps_of' hd 3 (by kernel_rfl)) (by kernel_rfl)
        refine if_wanted (j := 3) (s := 11) rfl rfl rfl e11 rfl ?_
        have e12 := H.is 4 12 rfl rfl rfl (deps_of' hd 4 (by kernel_rfl)) (by kernel_rfl)
        have HL := Lib.hid (HInv.out W)
        go_simp
        refine HL.out.mono ?_
        rintro e w' ⟨rfl, hB⟩
        go_simp
        exact hK _ _ trivial rfl (H.glob.below hB rfl)
      case o6 =>
        intro L vs A W H hf hd K hK
        have e11 := H.is 3 11 rfl rfl rfl (deps_of' hd 3 (by kernel_rfl)) (by kernel_rfl)
        refine if_wanted (j := 3) (s := 11) rfl rfl rfl e11 rfl ?_
        have e13 := H.is 5 13 rfl rfl rfl (deps_of' hd 5 (by kernel_rfl)) (by kernel_rfl)
        go_simp
        exact hK _ _ (trivial) rfl (H.glob.keep rfl)
      case o7 =>
        intro L vs A W H hf hd K hK
        have e11 := H.is 3 11 rfl rfl rfl (deps_of' hd 3 (by kernel_rfl)) (by kernel_rfl)
        have e14 := H.is 6 14 rfl rfl rfl (deps_of' hd 6 (by kernel_rfl)) (by kernel_rfl)
        go_simp
        exact hK _ _ (trivial) rfl (H.glob.keep rfl)
      case o8 =>
        intro L vs A W H hf hd K hK
        have e2 : A.tmps[2]?.getD undef = .pointer (some ⟨b2, 0, none⟩) := H.old 2 (by kernel_rfl)
        have e8 := H.is 0 8 rfl rfl rfl (deps_of' hd 0 (by kernel_rfl)) (by kernel_rfl)
        exact wp_store_nd (.tmp 2) (.tmp 8) rfl b2 m nd0 (ev_tmp e2) (ev_tmp e8) (by have := H.glob.r; rwa [if_neg (by rw [hf]; decide)] at this) (hK undef _ trivial trivial H.glob.store)
      case o9 =>
        intro L vs A W H hf hd K hK
        have e15 := H.is 7 15 rfl rfl rfl (deps_of' hd 7 (by kernel_rfl)) (by kernel_rfl)
        go_simp
        exact hK _ _ (trivial) rfl (H.glob.keep rfl)
      case he =>
        intro vs W hlen hv
        match vs, hlen, hv with
        | [x0_, x1_, x2_, x3_, x4_, x5_, x6_, x7_, x8_, x9_], _, hv =>
        obtain rfl : (.agg (ndCells m)) = x0_ := by obtain ⟨z, h1, h2⟩ := hv 0 _ rfl; cases h1; exact h2.symm
        obtain rfl : (.agg (ndCells m)) = x1_ := by obtain ⟨z, h1, h2⟩ := hv 1 _ rfl; cases h1; exact h2.symm
        obtain rfl : (.bool true) = x2_ := by obtain ⟨z, h1, h2⟩ := hv 2 _ rfl; cases h1; exact h2.symm
        obtain rfl : (.bool true) = x3_ := by obtain ⟨z, h1, h2⟩ := hv 3 _ rfl; cases h1; exact h2.symm
        obtain rfl : (.agg (ndCells m)) = x4_ := by obtain ⟨z, h1, h2⟩ := hv 4 _ rfl; cases h1; exact h2.symm
        obtain rfl : (.int .i64 iv) = x5_ := by obtain ⟨z, h1, h2⟩ := hv 5 _ rfl; cases h1; exact h2.symm
        obtain rfl : (.bool (decide (iv < 0))) = x6_ := by obtain ⟨z, h1, h2⟩ := hv 6 _ rfl; cases h1; exact h2.symm
        obtain rfl : (.bool (decide (iv < 0))) = x7_ := by obtain ⟨z, h1, h2⟩ := hv 7 _ rfl; cases h1; exact h2.symm
        obtain rfl : (.bool (decide (iv < 0))) = x9_ := by obtain ⟨z, h1, h2⟩ := hv 9 _ rfl; cases h1; exact h2.symm
        intro L hall hG
        clear hv hlen
        have HG := Lib.hid hG
        have H8 := Lib.hid (hall 8 (by decide))
        clear hG hall
        simp only [fill, if_true]
      --END
        simp [Act.put]
        go_wp2_with (fail)
        have hr := HG.out.r
        rw [if_pos H8.out] at hr
        (try simp only [Exit.inBlock, Exit.then])
        refine bodyPost_ret (results_nd (fn := Try.f17) rfl _ b2 m rfl hr) rfl ?_
        rw [HRn.out, HRb.out]
        exact ⟨by rw [Bool.true_and]; rfl, HG.out.b⟩
    | false =>
      --GEN r_rt3f
      refine wp_region_vals [Is (.agg (ndCells m)), Is (.agg (ndCells m)), Is (.bool false), Is (.bool false), Any, Any, Any, Is (.bool false), Any, Is (.bool false)]
        (fun _ _ _ => True) (fun L W => RtW w b1 b2 m L W) (by kernel_rfl) (by kernel_rfl) (by kernel_rfl) ?hst ?h0 ⟨?o0, ?o1, ?o2, ?o3, ?o4, ?o5, ?o6, ?o7, ?o8, ?o9, trivial⟩ ?he
      case hst =>
        exact ⟨(fun _ _ _ _ _ _ h _ => h), (fun _ _ _ _ _ _ h _ => h), (fun _ _ _ _ _ _ h _ => h), (fun _ _ _ _ _ _ h _ => h), (fun _ _ _ _ _ _ h _ => h), (fun _ _ _ _ _ _ h _ => h), (fun _ _ _ _ _ _ h _ => h), (fun _ _ _ _ _ _ h _ => h), (fun _ _ _ _ _ _ h _ => h), (fun _ _ _ _ _ _ h _ => h), trivial⟩
      case h0 =>
        exact HT3.out.rt
      case o0 =>
        intro L vs A W H hf hd K hK
        have e1 : A.tmps[1]?.getD undef = .pointer (some ⟨b1, 0, none⟩) := H.old 1 (by kernel_rfl)
        exact wp_load_nd (.tmp 1) rfl b1 m (ev_tmp e1) H.glob.f (hK _ _ trivial rfl (H.glob.keep rfl))
      case o1 =>
        intro L vs A W H hf hd K hK
        have e1 : A.tmps[1]?.getD undef = .pointer (some ⟨b1, 0, none⟩) := H.old 1 (by kernel_rfl)
        exact wp_load_nd (.tmp 1) rfl b1 m (ev_tmp e1) H.glob.f (hK _ _ trivial rfl (H.glob.keep rfl))
      case o2 =>
        intro L vs A W H hf hd K hK
        have e9 := H.is 1 9 rfl rfl rfl (deps_of' hd 1 (by kernel_rfl)) (by kernel_rfl)
        have HL := Lib.hid (HMay.out W)
        go_simp
        refine HL.out.mono ?_
        rintro e w' ⟨rfl, hB⟩
        go_simp
        exact hK _ _ trivial rfl (H.glob.below hB rfl)
      case o3 =>
        intro L vs A W H hf hd K hK
        have e10 := H.is 2 10 rfl rfl rfl (deps_of' hd 2 (by kernel_rfl)) (by kernel_rfl)
        go_simp
        exact hK _ _ (trivial) rfl (H.glob.keep rfl)
      case o4 =>
        intro L vs A W H hf hd K hK
        have e11 := H.is 3 11 rfl rfl rfl (deps_of' hd 3 (by kernel_rfl)) (by kernel_rfl)
        refine if_unwanted (j := 3) (s := 11) rfl rfl rfl e11 rfl ?_
        exact hK _ _ (trivial) trivial (H.glob.keep rfl)
      case o5 =>
        intro L vs A W H hf hd K hK
        have e11 := H.is 3 11 rfl rfl rfl (deps_of' hd 3 (by kernel_rfl)) (by kernel_rfl)
        refine if_unwanted (j := 3) (s := 11) rfl rfl rfl e11 rfl ?_
        exact hK _ _ (trivial) trivial (H.glob.keep rfl)
      case o6 =>
        intro L vs A W H hf hd K hK
        have e11 := H.is 3 11 rfl rfl rfl (deps_of' hd 3 (by kernel_rfl)) (by kernel_rfl)
        refine if_unwanted (j := 3) (s := 11) rfl rfl rfl e11 rfl ?_
        exact hK _ _ (trivial) trivial (H.glob.keep rfl)
      case o7 =>
        intro L vs A W H hf hd K hK
        have e11 := H.is 3 11 rfl rfl rfl (deps_of' hd 3 (by kernel_rfl)) (by kernel_rfl)
        obtain ⟨v14, e14, q14⟩ := H.val 6 14 rfl rfl rfl (deps_of' hd 6 (by kernel_rfl)) (by kernel_rfl)
        go_simp
        exact hK _ _ (trivial) rfl (H.glob.keep rfl)
      case o8 =>
        intro L vs A W H hf hd K hK
        have e2 : A.tmps[2]?.getD undef = .pointer (some ⟨b2, 0, none⟩) := H.old 2 (by kernel_rfl)
        have e8 := H.is 0 8 rfl rfl rfl (deps_of' hd 0 (by kernel_rfl)) (by kernel_rfl)
        exact wp_store_nd (.tmp 2) (.tmp 8) rfl b2 m nd0 (ev_tmp e2) (ev_tmp e8) (by have := H.glob.r; rwa [if_neg (by rw [hf]; decide)] at this) (hK undef _ trivial trivial H.glob.store)
      case o9 =>
        intro L vs A W H hf hd K hK
        have e15 := H.is 7 15 rfl rfl rfl (deps_of' hd 7 (by kernel_rfl)) (by kernel_rfl)
        go_simp
        exact hK _ _ (trivial) rfl (H.glob.keep rfl)
      case he =>
        intro vs W hlen hv
        match vs, hlen, hv with
        | [x0_, x1_, x2_, x3_, x4_, x5_, x6_, x7_, x8_, x9_], _, hv =>
        obtain rfl : (.agg (ndCells m)) = x0_ := by obtain ⟨z, h1, h2⟩ := hv 0 _ rfl; cases h1; exact h2.symm
        obtain rfl : (.agg (ndCells m)) = x1_ := by obtain ⟨z, h1, h2⟩ := hv 1 _ rfl; cases h1; exact h2.symm
        obtain rfl : (.bool false) = x2_ := by obtain ⟨z, h1, h2⟩ := hv 2 _ rfl; cases h1; exact h2.symm
        obtain rfl : (.bool false) = x3_ := by obtain ⟨z, h1, h2⟩ := hv 3 _ rfl; cases h1; exact h2.symm
        obtain rfl : (.bool false) = x7_ := by obtain ⟨z, h1, h2⟩ := hv 7 _ rfl; cases h1; exact h2.symm
        obtain rfl : (.bool false) = x9_ := by obtain ⟨z, h1, h2⟩ := hv 9 _ rfl; cases h1; exact h2.symm
        intro L hall hG
        clear hv hlen
        have HG := Lib.hid hG
        have H8 := Lib.hid (hall 8 (by decide))
        clear hG hall
        simp only [fill, if_true]
      --END
        simp [Act.put]
        go_wp2_with (fail)
        have hr := HG.out.r
        rw [if_pos H8.out] at hr
        (try simp only [Exit.inBlock, Exit.then])
        refine bodyPost_ret (results_nd (fn := Try.f17) rfl _ b2 m rfl hr) rfl ?_
        rw [HRn.out, HRb.out]
        exact ⟨by rw [Bool.false_and]; rfl, HG.out.b⟩
  · have HRn := Lib.hid (show rightN n = { n with nx := 1280 } by unfold rightN; rw [hx, if_neg hz])
    have hxn : (x != 0) = true := bne_iff_ne.2 hz
    go_upto_region 3 with (fail)
    have hf3 := HT0.out.f.set 2 (.int .u64 1280)
    rw [ndCells_set2] at hf3
    obtain ⟨m, hm⟩ : ∃ m, { n with nx := 1280 } = m := ⟨_, rfl⟩
    rw [hm] at hf3 HRn
    have HT3 := Lib.hid (show TrW w b1 b2 m (w0.setCell ⟨b1, 2, none⟩ (.int .u64 1280)) from ⟨hf3, HT0.out.r.other _ _ (by have := HT0.out.lt; omega), HT0.out.b.setCell (p := ⟨b1, 2, none⟩) HT0.out.lt.1 _, HT0.out.lt⟩)
    obtain ⟨W3, hW3⟩ : ∃ W3, w0.setCell ⟨b1, 2, none⟩ (.int .u64 1280) = W3 := ⟨_, rfl⟩
    rw [hW3] at HT3 ⊢
    clear hm HT0 hW3 hx d2 f2 hf3 hxn hz
    go_wp2_with (fail)
    have HMay := Lib.hid (show ∀ W, Calls Try.prog 38 #[.agg (ndCells m), .int .u64 0, .bool false] W fun e w' => e = .returned (.bool (m.mayB 0 false)) ∧ Below W.heap.size W w' from fun W => rmay_calls m 0 false W)
    have HInv := Lib.hid (fun W => rinvalid_calls m W)
    obtain ⟨iv, hiv⟩ : ∃ iv, m.inval = iv := ⟨_, rfl⟩
    obtain ⟨bm, hbm⟩ : ∃ bm, m.mayB 0 false = bm := ⟨_, rfl⟩
    have HRb := Lib.hid (show rightB m = (bm && decide (iv < 0)) by unfold rightB; rw [hbm, hiv])
    rw [hiv] at HInv
    rw [hbm] at HMay
    clear hiv hbm
    cases bm with
    | true =>
      --GEN r_rt3t
      refine wp_region_vals [Is (.agg (ndCells m)), Is (.agg (ndCells m)), Is (.bool true), Is (.bool true), Is (.agg (ndCells m)), Is (.int .i64 iv), Is (.bool (decide (iv < 0))), Is (.bool (decide (iv < 0))), Any, Is (.bool (decide (iv < 0)))]
        (fun _ _ _ => True) (fun L W => RtW w b1 b2 m L W) (by kernel_rfl) (by kernel_rfl) (by kernel_rfl) ?hst ?h0 ⟨?o0, ?o1, ?o2, ?o3, ?o4, ?o5, ?o6, ?o7, ?o8, ?o9, trivial⟩ ?he
      case hst =>
        exact ⟨(fun _ _ _ _ _ _ h _ => h), (fun _ _ _ _ _ _ h _ => h), (fun _ _ _ _ _ _ h _ => h), (fun _ _ _ _ _ _ h _ => h), (fun _ _ _ _ _ _ h _ => h), (fun _ _ _ _ _ _ h _ => h), (fun _ _ _ _ _ _ h _ => h), (fun _ _ _ _ _ _ h _ => h), (fun _ _ _ _ _ _ h _ => h), (fun _ _ _ _ _ _ h _ => h), trivial⟩
      case h0 =>
        exact HT3.out.rt
      case o0 =>
        intro L vs A W H hf hd K hK
        have e1 : A.tmps[1]?.getD undef = .pointer (some ⟨b1, 0, none⟩) := H.old 1 (by kernel_rfl)
        exact wp_load_nd (.tmp 1) rfl b1 m (ev_tmp e1) H.glob.f (hK _ _ trivial rfl (H.glob.keep rfl))
      case o1 =>
        intro L vs A W H hf hd K hK
        have e1 : A.tmps[1]?.getD undef = .pointer (some ⟨b1, 0, none⟩) := H.old 1 (by kernel_rfl)
        exact wp_load_nd (.tmp 1) rfl b1 m (ev_tmp e1) H.glob.f (hK _ _ trivial rfl (H.glob.keep rfl))
      case o2 =>
        intro L vs A W H hf hd K hK
        have e9 := H.is 1 9 rfl rfl rfl (deps_of' hd 1 (by kernel_rfl)) (by kernel_rfl)
        have HL := Lib.hid (HMay.out W)
        go_simp
        refine HL.out.mono ?_
        rintro e w' ⟨rfl, hB⟩
        go_simp
        exact hK _ _ trivial rfl (H.glob.below hB rfl)
      case o3 =>
        intro L vs A W H hf hd K hK
        have e10 := H.is 2 10 rfl rfl rfl (deps_of' hd 2 (by kernel_rfl)) (by kernel_rfl)
        go_simp
        exact hK _ _ (trivial) rfl (H.glob.keep rfl)
      case o4 =>
        intro L vs A W H hf hd K hK
        have e11 := H.is 3 11 rfl rfl rfl (deps_of' hd 3 (by kernel_rfl)) (by kernel_rfl)
        refine if_wanted (j := 3) (s := 11) rfl rfl rfl e11 rfl ?_
        have e1 : A.tmps[1]?.getD undef = .pointer (some ⟨b1, 0, none⟩) := H.old 1 (by kernel_rfl)
        exact wp_load_nd (.tmp 1) rfl b1 m (ev_tmp e1) H.glob.f (hK _ _ trivial rfl (H.glob.keep rfl))
      case o5 =>
        intro L vs A W H hf hd K hK
        have e11 := H.is 3 11 rfl rfl rfl (deps_of' hd 3 (by kernel_rfl)) (by kernel_rfl)
        refine if_wanted (j := 3) (s := 11) rfl rfl rfl e11 rfl ?_
        have e12 := H.is 4 12 rfl rfl rfl (deps_of' hd 4 (by kernel_rfl)) (by kernel_rfl)
        have HL := Lib.hid (HInv.out W)
        go_simp
        refine HL.out.mono ?_
        rintro e w' ⟨rfl, hB⟩
        go_simp
        exact hK _ _ trivial rfl (H.glob.below hB rfl)
      case o6 =>
        intro L vs A W H hf hd K hK
        have e11 := H.is 3 11 rfl rfl rfl (deps_of' hd 3 (by kernel_rfl)) (by kernel_rfl)
        refine if_wanted (j := 3) (s := 11) rfl rfl rfl e11 rfl ?_
        have e13 := H.is 5 13 rfl rfl rfl (deps_of' hd 5 (by kernel_rfl)) (by kernel_rfl)
        go_simp
        exact hK _ _ (trivial) rfl (H.glob.keep rfl)
      case o7 =>
        intro L vs A W H hf hd K hK
        have e11 := H.is 3 11 rfl rfl rfl (deps_of' hd 3 (by kernel_rfl)) (by kernel_rfl)
        have e14 := H.is 6 14 rfl rfl rfl (deps_of' hd 6 (by kernel_rfl)) (by kernel_rfl)
        go_simp
        exact hK _ _ (trivial) rfl (H.glob.keep rfl)
      case o8 =>
        intro L vs A W H hf hd K hK
        have e2 : A.tmps[2]?.getD undef = .pointer (some ⟨b2, 0, none⟩) := H.old 2 (by kernel_rfl)
        have e8 := H.is 0 8 rfl rfl rfl (deps_of' hd 0 (by kernel_rfl)) (by kernel_rfl)
        exact wp_store_nd (.tmp 2) (.tmp 8) rfl b2 m nd0 (ev_tmp e2) (ev_tmp e8) (by have := H.glob.r; rwa [if_neg (by rw [hf]; decide)] at this) (hK undef _ trivial trivial H.glob.store)
      case o9 =>
        intro L vs A W H hf hd K hK
        have e15 := H.is 7 15 rfl rfl rfl (deps_of' hd 7 (by kernel_rfl)) (by kernel_rfl)
        go_simp
        exact hK _ _ (trivial) rfl (H.glob.keep rfl)
      case he =>
        intro vs W hlen hv
        match vs, hlen, hv with
        | [x0_, x1_, x2_, x3_, x4_, x5_, x6_, x7_, x8_, x9_], _, hv =>
        obtain rfl : (.agg (ndCells m)) = x0_ := by obtain ⟨z, h1, h2⟩ := hv 0 _ rfl; cases h1; exact h2.symm
        obtain rfl : (.agg (ndCells m)) = x1_ := by obtain ⟨z, h1, h2⟩ := hv 1 _ rfl; cases h1; exact h2.symm
        obtain rfl : (.bool true) = x2_ := by obtain ⟨z, h1, h2⟩ := hv 2 _ rfl; cases h1; exact h2.symm
        obtain rfl : (.bool true) = x3_ := by obtain ⟨z, h1, h2⟩ := hv 3 _ rfl; cases h1; exact h2.symm
        obtain rfl : (.agg (ndCells m)) = x4_ := by obtain ⟨z, h1, h2⟩ := hv 4 _ rfl; cases h1; exact h2.symm
        obtain rfl : (.int .i64 iv) = x5_ := by obtain ⟨z, h1, h2⟩ := hv 5 _ rfl; cases h1; exact h2.symm
        obtain rfl : (.bool (decide (iv < 0))) = x6_ := by obtain ⟨z, h1, h2⟩ := hv 6 _ rfl; cases h1; exact h2.symm
        obtain rfl : (.bool (decide (iv < 0))) = x7_ := by obtain ⟨z, h1, h2⟩ := hv 7 _ rfl; cases h1; exact h2.symm
        obtain rfl : (.bool (decide (iv < 0))) = x9_ := by obtain ⟨z, h1, h2⟩ := hv 9 _ rfl; cases h1; exact h2.symm
        intro L hall hG
        clear hv hlen
        have HG := Lib.hid hG
        have H8 := Lib.hid (hall 8 (by decide))
        clear hG hall
        simp only [fill, if_true]
      --END
        simp [Act.put]
        go_wp2_with (fail)
        have hr := HG.out.r
        rw [if_pos H8.out] at hr
        (try simp only [Exit.inBlock, Exit.then])
        refine bodyPost_ret (results_nd (fn := Try.f17) rfl _ b2 m rfl hr) rfl ?_
        rw [HRn.out, HRb.out]
        exact ⟨by rw [Bool.true_and]; rfl, HG.out.b⟩
    | false =>
      --GEN r_rt3f
      refine wp_region_vals [Is (.agg (ndCells m)), Is (.agg (ndCells m)), Is (.bool false), Is (.bool false), Any, Any, Any, Is (.bool false), Any, Is (.bool false)]
        (fun _ _ _ => True) (fun L W => RtW w b1 b2 m L W) (by kernel_rfl) (by kernel_rfl) (by kernel_rfl) ?hst ?h0 ⟨?o0, ?o1, ?o2, ?o3, ?o4, ?o5, ?o6, ?o7, ?o8, ?o9, trivial⟩ ?he
      case hst =>
        exact ⟨(fun _ _ _ _ _ _ h _ => h), (fun _ _ _ _ _ _ h _ => h), (fun _ _ _ _ _ _ h _ => h), (fun _ _ _ _ _ _ h _ => h), (fun _ _ _ _ _ _ h _ => h), (fun _ _ _ _ _ _ h _ => h), (fun _ _ _ _ _ _ h _ => h), (fun _ _ _ _ _ _ h _ => h), (fun _ _ _ _ _ _ h _ => h), (fun _ _ _ _ _ _ h _ => h), trivial⟩
      case h0 =>
        exact HT3.out.rt
      case o0 =>
        intro L vs A W H hf hd K hK
        have e1 : A.tmps[1]?.getD undef = .pointer (some ⟨b1, 0, none⟩) := H.old 1 (by kernel_rfl)
        exact wp_load_nd (.tmp 1) rfl b1 m (ev_tmp e1) H.glob.f (hK _ _ trivial rfl (H.glob.keep rfl))
      case o1 =>
        intro L vs A W H hf hd K hK
        have e1 : A.tmps[1]?.getD undef = .pointer (some ⟨b1, 0, none⟩) := H.old 1 (by kernel_rfl)
        exact wp_load_nd (.tmp 1) rfl b1 m (ev_tmp e1) H.glob.f (hK _ _ trivial rfl (H.glob.keep rfl))
      case o2 =>
        intro L vs A W H hf hd K hK
        have e9 := H.is 1 9 rfl rfl rfl (deps_of' hd 1 (by kernel_rfl)) (by kernel_rfl)
        have HL := Lib.hid (HMay.out W)
        go_simp
        refine HL.out.mono ?_
        rintro e w' ⟨rfl, hB⟩
        go_simp
        exact hK _ _ trivial rfl (H.glob.below hB rfl)
      case o3 =>
        intro L vs A W H hf hd K hK
        have e10 := H.is 2 10 rfl rfl rfl (deps_of' hd 2 (by kernel_rfl)) (by kernel_rfl)
        go_simp
        exact hK _ _ (trivial) rfl (H.glob.keep rfl)
      case o4 =>
        intro L vs A W H hf hd K hK
        have e11 := H.is 3 11 rfl rfl rfl (deps_of' hd 3 (by kernel_rfl)) (by kernel_rfl)
        refine if_unwanted (j := 3) (s := 11) rfl rfl rfl e11 rfl ?_
        exact hK _ _ (trivial) trivial (H.glob.keep rfl)
      case o5 =>
        intro L vs A W H hf hd K hK
        have e11 := H.is 3 11 rfl rfl rfl (deps_of' hd 3 (by kernel_rfl)) (by kernel_rfl)
        refine if_unwanted (j := 3) (s := 11) rfl rfl rfl e11 rfl ?_
        exact hK _ _ (trivial) trivial (H.glob.keep rfl)
      case o6 =>
        intro L vs A W H hf hd K hK
        have e11 := H.is 3 11 rfl rfl rfl (deps_of' hd 3 (by kernel_rfl)) (by kernel_rfl)
        refine if_unwanted (j := 3) (s := 11) rfl rfl rfl e11 rfl ?_
        exact hK _ _ (trivial) trivial (H.glob.keep rfl)
      case o7 =>
        intro L vs A W H hf hd K hK
        have e11 := H.is 3 11 rfl rfl rfl (deps_of' hd 3 (by kernel_rfl)) (by kernel_rfl)
        obtain ⟨v14, e14, q14⟩ := H.val 6 14 rfl rfl rfl (deps_of' hd 6 (by kernel_rfl)) (by kernel_rfl)
        go_simp
        exact hK _ _ (trivial) rfl (H.glob.keep rfl)
      case o8 =>
        intro L vs A W H hf hd K hK
        have e2 : A.tmps[2]?.getD undef = .pointer (some ⟨b2, 0, none⟩) := H.old 2 (by kernel_rfl)
        have e8 := H.is 0 8 rfl rfl rfl (deps_of' hd 0 (by kernel_rfl)) (by kernel_rfl)
        exact wp_store_nd (.tmp 2) (.tmp 8) rfl b2 m nd0 (ev_tmp e2) (ev_tmp e8) (by have := H.glob.r; rwa [if_neg (by rw [hf]; decide)] at this) (hK undef _ trivial trivial H.glob.store)
      case o9 =>
        intro L vs A W H hf hd K hK
        have e15 := H.is 7 15 rfl rfl rfl (deps_of' hd 7 (by kernel_rfl)) (by kernel_rfl)
        go_simp
        exact hK _ _ (trivial) rfl (H.glob.keep rfl)
      case he =>
        intro vs W hlen hv
        match vs, hlen, hv with
        | [x0_, x1_, x2_, x3_, x4_, x5_, x6_, x7_, x8_, x9_], _, hv =>
        obtain rfl : (.agg (ndCells m)) = x0_ := by obtain ⟨z, h1, h2⟩ := hv 0 _ rfl; cases h1; exact h2.symm
        obtain rfl : (.agg (ndCells m)) = x1_ := by obtain ⟨z, h1, h2⟩ := hv 1 _ rfl; cases h1; exact h2.symm
        obtain rfl : (.bool false) = x2_ := by obtain ⟨z, h1, h2⟩ := hv 2 _ rfl; cases h1; exact h2.symm
        obtain rfl : (.bool false) = x3_ := by obtain ⟨z, h1, h2⟩ := hv 3 _ rfl; cases h1; exact h2.symm
        obtain rfl : (.bool false) = x7_ := by obtain ⟨z, h1, h2⟩ := hv 7 _ rfl; cases h1; exact h2.symm
        obtain rfl : (.bool false) = x9_ := by obtain ⟨z, h1, h2⟩ := hv 9 _ rfl; cases h1; exact h2.symm
        intro L hall hG
        clear hv hlen
        have HG := Lib.hid hG
        have H8 := Lib.hid (hall 8 (by decide))
        clear hG hall
        simp only [fill, if_true]
      --END
        simp [Act.put]
        go_wp2_with (fail)
        have hr := HG.out.r
        rw [if_pos H8.out] at hr
        (try simp only [Exit.inBlock, Exit.then])
        refine bodyPost_ret (results_nd (fn := Try.f17) rfl _ b2 m rfl hr) rfl ?_
        rw [HRn.out, HRb.out]
        exact ⟨by rw [Bool.false_and]; rfl, HG.out.b⟩
end Go.Proofs.Ytgmbnoimlffgcaa
