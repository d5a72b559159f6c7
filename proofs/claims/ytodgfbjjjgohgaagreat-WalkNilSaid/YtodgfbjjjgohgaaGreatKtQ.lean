/-
  A WALK: At: contracts; Step, At, High, Hop of nothing.
-/
import Derived.Test.YtodgfbjjjgohgaaGreatKyQ
namespace Go.Proofs.YtodgfbjjjgohgaaGreat
open Go.RowKit
attribute [local go_sem] Oper.semAt_some
set_option linter.unusedVariables false

theorem results_tnt {fn : Func} {w : World} {s t u : Nat} (hr : fn.results = #[.tmp t, .cell s 46, .tmp u]) (tmps : Array Value) (g : Nat) (n : Nd) (hs : tmps.getD s undef = .pointer (some ⟨g, 0, none⟩)) (h : Blk w g (ndCells n) 46) :
    (results fn tmps).run Tryz.prog w = .ok (.tuple #[tmps.getD t undef, .agg (ndCells n), tmps.getD u undef]) w := by
  have hl := run_loadVar_part (P := Tryz.prog) w g 0 46 (ndCells n) _ (ndLoad h) Tryz.underlying46 rfl (info27 n)
  have hs' : tmps[s]?.getD undef = .pointer (some ⟨g, 0, none⟩) := by rw [← hs]; simp
  simp [results, hr, hs', asAddr, Result.andThen, hl]
theorem results_ttt {fn : Func} {w : World} {s t u : Nat} (hr : fn.results = #[.tmp s, .tmp t, .tmp u]) (tmps : Array Value) :
    (results fn tmps).run Tryz.prog w = .ok (.tuple #[tmps.getD s undef, tmps.getD t undef, tmps.getD u undef]) w := by
  simp [results, hr]
/-- a node laid, within a region -/
structure AtG (w1 : World) (nb : Nat) (n : Nd) (L : Nat → Bool) (W : World) : Prop where
  kp : Keeps (fun i => i = nb) w1 W
  n0 : L 15 = false → Blk W nb (ndCells nd0) 46
  y : L 15 = true → Blk W nb (ndCells n) 46
theorem AtG.start {w1 : World} {nb : Nat} {n : Nd} (h : Blk w1 nb (ndCells nd0) 46) : AtG w1 nb n (fun _ => false) w1.drew := ⟨(Keeps.refl _ _).drew, fun _ => h.drew, fun h => (by cases h)⟩
theorem AtG.keep {w1 W : World} {nb : Nat} {n : Nd} {L L' : Nat → Bool} (h : AtG w1 nb n L W) (e : L' 15 = L 15) : AtG w1 nb n L' W := ⟨h.kp, by rw [e]; exact h.n0, by rw [e]; exact h.y⟩
theorem AtG.store {w1 W : World} {nb : Nat} {n : Nd} {L : Nat → Bool} (h : AtG w1 nb n L W) (hf : L 15 = false) : AtG w1 nb n (lset L 15) (W.setRow nb (ndCells n)) :=
  ⟨keeps_setRow h.kp (.inl rfl) _, fun e => (by simp [lset] at e), fun _ => (h.n0 hf).row _⟩
set_option maxRecDepth 100000 in
set_option maxHeartbeats 8000000 in
theorem wat_v (w : World) (kb : Nat) (k : Wk) (f : Nat) (hb : Blk w kb (wkCells k) 70) (hn : k.next = .func (.func 72) #[.pointer (some ⟨kb, 0, none⟩)] #[]) (ho : k.over = true) (he : k.e = 0 ∨ k.e = 5) :
    Calls Tryz.prog 17 #[.pointer (some ⟨kb, 0, none⟩)] w fun e w' => e = .returned (.tuple #[.int .u64 k.at_, .agg (ndCells k.n), .int .i64 k.e]) ∧ Below w.heap.size w w' := by
  have hq2 := fn_eq 72
  have hb1 := hb.alloc (.cells (ndCells nd0) 46)
  have hn1 := Blk.new w (ndCells nd0) 46
  obtain ⟨nb, hnb⟩ : ∃ nb, w.heap.size = nb := ⟨_, rfl⟩
  have HNe := Lib.hid (show kb ≠ nb from by have := hb.lt; omega)
  rw [hnb] at hn1
  have hk1 : Below nb w (w.alloc (.cells (ndCells nd0) 46)) := by rw [← hnb]; exact (Below.refl _ w).alloc (Nat.le_refl _) _
  have Hnb := Lib.hid hnb
  have hq : (k.e != 0) = true → (k.e != 5) = false := fun h => by
    rcases he with e | e
    · rw [e] at h; cases h
    · rw [e]; rfl
  clear hb
  go_enter Tryz.func17, Tryz.ntmps17
  go_upto_region 1 with ((with_reducible refine wpList_alloc_ndAt (o := ⟨some 3, _, _, _, _, _⟩) ?ha ?hbb nb ?hz ?_); (case ha => rfl); (case hbb => rfl); (case hz => exact Hnb.out))
  obtain ⟨w1, hw1⟩ : ∃ w1, w.alloc (.cells (ndCells nd0) 46) = w1 := ⟨_, rfl⟩
  rw [hw1] at hb1 hn1 hk1 ⊢
  have HB1 := Lib.hid hb1
  have HN1 := Lib.hid hn1
  have HK1 := Lib.hid hk1
  have c31 : w1.cell? ⟨kb, 31, none⟩ = some (.func (.func 72) #[.pointer (some ⟨kb, 0, none⟩)] #[]) := (hb1.cell 31).trans ((wk_tl _ 3).trans (by rw [← hn]; rfl))
  have c32 : w1.cell? ⟨kb, 32, none⟩ = some (.bool true) := (hb1.cell 32).trans ((wk_tl _ 4).trans (by rw [← ho]; rfl))
  have c33 : w1.cell? ⟨kb, 33, none⟩ = some (.int .i64 k.e) := (hb1.cell 33).trans ((wk_tl _ 5).trans rfl)
  clear hb1 hn1 hk1 hw1 hnb hn ho
  rcases he with he | he
  all_goals
    rw [he] at c33
    clear hq he
    go_wp2_with (fail)
    --GEN r_kat7
    refine wp_region_vals [Is (.pointer (some ⟨kb, 0, none⟩)), Is (.pointer (some ⟨kb, 0, none⟩)), Is (.pointer (some ⟨kb, 4, none⟩)), Is (.pointer (some ⟨kb, 4, none⟩)), Is (.int .u64 k.at_), Is (.pointer (some ⟨kb, 0, none⟩)), Is (.pointer (some ⟨kb, 0, none⟩)), Is (.pointer (some ⟨kb, 4, none⟩)), Is (.pointer (some ⟨kb, 5, none⟩)), Is (.agg (ndCells k.n)), Is (.pointer (some ⟨kb, 0, none⟩)), Is (.pointer (some ⟨kb, 0, none⟩)), Is (.pointer (some ⟨kb, 33, none⟩)), Is (.int .i64 k.e), Is (.int .u64 k.at_), Is (undef), Is (.int .i64 k.e)]
      (fun _ _ _ => True) (fun L W => AtG w1 nb k.n L W) (by kernel_rfl) (by kernel_rfl) (by kernel_rfl) ?hst ?h0 ⟨?o0, ?o1, ?o2, ?o3, ?o4, ?o5, ?o6, ?o7, ?o8, ?o9, ?o10, ?o11, ?o12, ?o13, ?o14, ?o15, ?o16, trivial⟩ ?he
    case hst =>
      exact ⟨(fun _ _ _ _ _ _ h _ => h), (fun _ _ _ _ _ _ h _ => h), (fun _ _ _ _ _ _ h _ => h), (fun _ _ _ _ _ _ h _ => h), (fun _ _ _ _ _ _ h _ => h), (fun _ _ _ _ _ _ h _ => h), (fun _ _ _ _ _ _ h _ => h), (fun _ _ _ _ _ _ h _ => h), (fun _ _ _ _ _ _ h _ => h), (fun _ _ _ _ _ _ h _ => h), (fun _ _ _ _ _ _ h _ => h), (fun _ _ _ _ _ _ h _ => h), (fun _ _ _ _ _ _ h _ => h), (fun _ _ _ _ _ _ h _ => h), (fun _ _ _ _ _ _ h _ => h), (fun _ _ _ _ _ _ h _ => h), (fun _ _ _ _ _ _ h _ => h), trivial⟩
    case h0 =>
      exact AtG.start HN1.out
    case o0 =>
      intro L vs A W H hf hd K hK
      have e0 : A.tmps[0]?.getD undef = .pointer (some ⟨kb, 0, none⟩) := H.old 0 (by kernel_rfl)
      go_simp
      exact hK _ _ (trivial) rfl (H.glob.keep rfl)
    case o1 =>
      intro L vs A W H hf hd K hK
      have e41 := H.is 0 41 rfl rfl rfl (deps_of' hd 0 (by kernel_rfl)) (by kernel_rfl)
      go_simp
      exact hK _ _ (trivial) rfl (H.glob.keep rfl)
    case o2 =>
      intro L vs A W H hf hd K hK
      have e42 := H.is 1 42 rfl rfl rfl (deps_of' hd 1 (by kernel_rfl)) (by kernel_rfl)
      go_simp
      exact hK _ _ (trivial) rfl (H.glob.keep rfl)
    case o3 =>
      intro L vs A W H hf hd K hK
      have e43 := H.is 2 43 rfl rfl rfl (deps_of' hd 2 (by kernel_rfl)) (by kernel_rfl)
      go_simp
      exact hK _ _ (trivial) rfl (H.glob.keep rfl)
    case o4 =>
      intro L vs A W H hf hd K hK
      have e44 := H.is 3 44 rfl rfl rfl (deps_of' hd 3 (by kernel_rfl)) (by kernel_rfl)
      have d0 : W.cell? ⟨kb, 4, none⟩ = some (.int .u64 k.at_) := (H.glob.kp.cell (p := ⟨kb, 4, none⟩) HB1.out.lt HNe.out).trans ((HB1.out.cell 4).trans (wk_4 _))
      go_simp
      exact hK _ _ (trivial) rfl (H.glob.keep rfl)
    case o5 =>
      intro L vs A W H hf hd K hK
      have e0 : A.tmps[0]?.getD undef = .pointer (some ⟨kb, 0, none⟩) := H.old 0 (by kernel_rfl)
      go_simp
      exact hK _ _ (trivial) rfl (H.glob.keep rfl)
    case o6 =>
      intro L vs A W H hf hd K hK
      have e46 := H.is 5 46 rfl rfl rfl (deps_of' hd 5 (by kernel_rfl)) (by kernel_rfl)
      go_simp
      exact hK _ _ (trivial) rfl (H.glob.keep rfl)
    case o7 =>
      intro L vs A W H hf hd K hK
      have e47 := H.is 6 47 rfl rfl rfl (deps_of' hd 6 (by kernel_rfl)) (by kernel_rfl)
      go_simp
      exact hK _ _ (trivial) rfl (H.glob.keep rfl)
    case o8 =>
      intro L vs A W H hf hd K hK
      have e48 := H.is 7 48 rfl rfl rfl (deps_of' hd 7 (by kernel_rfl)) (by kernel_rfl)
      go_simp
      exact hK _ _ (trivial) rfl (H.glob.keep rfl)
    case o9 =>
      intro L vs A W H hf hd K hK
      have e49 := H.is 8 49 rfl rfl rfl (deps_of' hd 8 (by kernel_rfl)) (by kernel_rfl)
      refine wp_ld_part 46 (.tmp 49) rfl kb 5 (ev_tmp e49) (ndCells k.n) _ (fun j u hj => ?_) Tryz.underlying46 rfl (info27 k.n) (hK _ _ trivial rfl (H.glob.keep rfl))
      rw [H.glob.kp.cell (p := ⟨kb, 5 + j, none⟩) HB1.out.lt HNe.out]
      exact (HB1.out.cell (5 + j)).trans (wk_n k j u hj)
    case o10 =>
      intro L vs A W H hf hd K hK
      have e0 : A.tmps[0]?.getD undef = .pointer (some ⟨kb, 0, none⟩) := H.old 0 (by kernel_rfl)
      go_simp
      exact hK _ _ (trivial) rfl (H.glob.keep rfl)
    case o11 =>
      intro L vs A W H hf hd K hK
      have e51 := H.is 10 51 rfl rfl rfl (deps_of' hd 10 (by kernel_rfl)) (by kernel_rfl)
      go_simp
      exact hK _ _ (trivial) rfl (H.glob.keep rfl)
    case o12 =>
      intro L vs A W H hf hd K hK
      have e52 := H.is 11 52 rfl rfl rfl (deps_of' hd 11 (by kernel_rfl)) (by kernel_rfl)
      go_simp
      exact hK _ _ (trivial) rfl (H.glob.keep rfl)
    case o13 =>
      intro L vs A W H hf hd K hK
      have e53 := H.is 12 53 rfl rfl rfl (deps_of' hd 12 (by kernel_rfl)) (by kernel_rfl)
      have d0 : W.cell? ⟨kb, 33, none⟩ = some (.int .i64 k.e) := (H.glob.kp.cell (p := ⟨kb, 33, none⟩) HB1.out.lt HNe.out).trans ((HB1.out.cell 33).trans ((wk_tl _ 5).trans rfl))
      go_simp
      exact hK _ _ (trivial) rfl (H.glob.keep rfl)
    case o14 =>
      intro L vs A W H hf hd K hK
      have e45 := H.is 4 45 rfl rfl rfl (deps_of' hd 4 (by kernel_rfl)) (by kernel_rfl)
      go_simp
      exact hK _ _ (trivial) rfl (H.glob.keep rfl)
    case o15 =>
      intro L vs A W H hf hd K hK
      have e3 : A.tmps[3]?.getD undef = .pointer (some ⟨nb, 0, none⟩) := H.old 3 (by kernel_rfl)
      have e50 := H.is 9 50 rfl rfl rfl (deps_of' hd 9 (by kernel_rfl)) (by kernel_rfl)
      have hbn := H.glob.n0 hf
      exact wp_store_nd (.tmp 3) (.tmp 50) rfl nb k.n nd0 (ev_tmp e3) (ev_tmp e50) hbn (hK _ _ trivial rfl (H.glob.store hf))
    case o16 =>
      intro L vs A W H hf hd K hK
      have e54 := H.is 13 54 rfl rfl rfl (deps_of' hd 13 (by kernel_rfl)) (by kernel_rfl)
      go_simp
      exact hK _ _ (trivial) rfl (H.glob.keep rfl)
    case he =>
      intro vs W hlen hv
      match vs, hlen, hv with
      | [x0_, x1_, x2_, x3_, x4_, x5_, x6_, x7_, x8_, x9_, x10_, x11_, x12_, x13_, x14_, x15_, x16_], _, hv =>
      obtain rfl : (.pointer (some ⟨kb, 0, none⟩)) = x0_ := by obtain ⟨z, h1, h2⟩ := hv 0 _ rfl; cases h1; exact h2.symm
      obtain rfl : (.pointer (some ⟨kb, 0, none⟩)) = x1_ := by obtain ⟨z, h1, h2⟩ := hv 1 _ rfl; cases h1; exact h2.symm
      obtain rfl : (.pointer (some ⟨kb, 4, none⟩)) = x2_ := by obtain ⟨z, h1, h2⟩ := hv 2 _ rfl; cases h1; exact h2.symm
      obtain rfl : (.pointer (some ⟨kb, 4, none⟩)) = x3_ := by obtain ⟨z, h1, h2⟩ := hv 3 _ rfl; cases h1; exact h2.symm
      obtain rfl : (.int .u64 k.at_) = x4_ := by obtain ⟨z, h1, h2⟩ := hv 4 _ rfl; cases h1; exact h2.symm
      obtain rfl : (.pointer (some ⟨kb, 0, none⟩)) = x5_ := by obtain ⟨z, h1, h2⟩ := hv 5 _ rfl; cases h1; exact h2.symm
      obtain rfl : (.pointer (some ⟨kb, 0, none⟩)) = x6_ := by obtain ⟨z, h1, h2⟩ := hv 6 _ rfl; cases h1; exact h2.symm
      obtain rfl : (.pointer (some ⟨kb, 4, none⟩)) = x7_ := by obtain ⟨z, h1, h2⟩ := hv 7 _ rfl; cases h1; exact h2.symm
      obtain rfl : (.pointer (some ⟨kb, 5, none⟩)) = x8_ := by obtain ⟨z, h1, h2⟩ := hv 8 _ rfl; cases h1; exact h2.symm
      obtain rfl : (.agg (ndCells k.n)) = x9_ := by obtain ⟨z, h1, h2⟩ := hv 9 _ rfl; cases h1; exact h2.symm
      obtain rfl : (.pointer (some ⟨kb, 0, none⟩)) = x10_ := by obtain ⟨z, h1, h2⟩ := hv 10 _ rfl; cases h1; exact h2.symm
      obtain rfl : (.pointer (some ⟨kb, 0, none⟩)) = x11_ := by obtain ⟨z, h1, h2⟩ := hv 11 _ rfl; cases h1; exact h2.symm
      obtain rfl : (.pointer (some ⟨kb, 33, none⟩)) = x12_ := by obtain ⟨z, h1, h2⟩ := hv 12 _ rfl; cases h1; exact h2.symm
      obtain rfl : (.int .i64 k.e) = x13_ := by obtain ⟨z, h1, h2⟩ := hv 13 _ rfl; cases h1; exact h2.symm
      obtain rfl : (.int .u64 k.at_) = x14_ := by obtain ⟨z, h1, h2⟩ := hv 14 _ rfl; cases h1; exact h2.symm
      obtain rfl : (undef) = x15_ := by obtain ⟨z, h1, h2⟩ := hv 15 _ rfl; cases h1; exact h2.symm
      obtain rfl : (.int .i64 k.e) = x16_ := by obtain ⟨z, h1, h2⟩ := hv 16 _ rfl; cases h1; exact h2.symm
      intro L hall hG
      clear hv hlen
      have HN2 := Lib.hid (hG.y (hall 15 (by decide)))
      have HKt := Lib.hid hG.kp
      clear hG hall
      simp only [fill, if_true]
    --END
      simp [Act.put]
      have HKf := Lib.hid (show Below w.heap.size w W from by
        have h1 := HK1.out
        have h2 := HKt.out
        exact ⟨h2.os.trans h1.os, h2.tape.trans h1.tape, h2.output.trans h1.output, Nat.le_trans h1.size h2.size, fun i hi => (h2.block i (Nat.lt_of_lt_of_le hi h1.size) (by have := Hnb.out; omega)).trans (h1.block i (by have := Hnb.out; omega))⟩)
      clear c31 c32 c33
      go_wp2_with (fail)
      (try simp only [Exit.inBlock, Exit.then])
      refine bodyPost_ret (results_tnt (fn := Tryz.f17) rfl _ nb k.n rfl HN2.out) rfl ?_
      exact ⟨rfl, HKf.out⟩
/-! ### of nothing -/
theorem wstep_nil (w : World) : Calls Tryz.prog 16 #[.pointer none] w fun e w' => e = .returned (.tuple #[.bool true, .int .i64 1]) ∧ w = w' := by
  go_enter Tryz.func16, Tryz.ntmps16
  go_wp2_with (fail)
  go_ret2
  exact ⟨rfl, rfl⟩
theorem wstep_zero (w : World) (kb : Nat) (k : Wk) (hb : Blk w kb (wkCells k) 70) (hn : k.next = .nilFunc) : Calls Tryz.prog 16 #[.pointer (some ⟨kb, 0, none⟩)] w fun e w' => e = .returned (.tuple #[.bool true, .int .i64 1]) ∧ w = w' := by
  have hq1 := nil_eq
  have c31 : w.cell? ⟨kb, 31, none⟩ = some .nilFunc := (hb.cell 31).trans ((wk_tl _ 3).trans (by rw [← hn]; rfl))
  clear hb hn
  go_enter Tryz.func16, Tryz.ntmps16
  go_wp2_with (fail)
  go_ret2
  exact ⟨rfl, rfl⟩
theorem whop_nil (w : World) : Calls Tryz.prog 12 #[.pointer none] w fun e w' => e = .returned (.tuple #[.int .u64 0, .int .u64 0, .bool false]) ∧ w = w' := by
  go_enter Tryz.func12, Tryz.ntmps12
  go_wp2_with (fail)
  (try simp only [Exit.inBlock, Exit.then])
  refine bodyPost_ret (results_ttt (fn := Tryz.f12) rfl _) rfl ?_
  exact ⟨rfl, rfl⟩
set_option maxRecDepth 100000 in
theorem wat_nil (w : World) : Calls Tryz.prog 17 #[.pointer none] w fun e w' => e = .returned (.tuple #[.int .u64 0, .agg (ndCells nd0), .int .i64 1]) ∧ Below w.heap.size w w' := by
  obtain ⟨nb, hnb⟩ : ∃ nb, w.heap.size = nb := ⟨_, rfl⟩
  have hn1 := Blk.new w (ndCells nd0) 46
  rw [hnb] at hn1
  have hk1 : Below nb w (w.alloc (.cells (ndCells nd0) 46)) := by rw [← hnb]; exact (Below.refl _ w).alloc (Nat.le_refl _) _
  have Hnb := Lib.hid hnb
  go_enter Tryz.func17, Tryz.ntmps17
  go_upto_region 1 with ((with_reducible refine wpList_alloc_ndAt (o := ⟨some 3, _, _, _, _, _⟩) ?ha ?hbb nb ?hz ?_); (case ha => rfl); (case hbb => rfl); (case hz => exact Hnb.out))
  obtain ⟨w1, hw1⟩ : ∃ w1, w.alloc (.cells (ndCells nd0) 46) = w1 := ⟨_, rfl⟩
  rw [hw1] at hn1 hk1 ⊢
  have HN1 := Lib.hid hn1
  have HK1 := Lib.hid (below_setRow hk1 (Nat.le_refl nb) (ndCells nd0))
  clear hn1 hk1 hnb
  go_wp2_with ((with_reducible refine wpList_store_ndc (o := ⟨none, .store 46 (.tmp 3) (.tmp 15), _, _, _, _⟩) ?hgd (.tmp 3) (.tmp 15) ?hod nb (ndCells nd0) nd0 nd0 ?hxd ?hyd ?hbd ?hmd ?_); (case hgd => rfl); (case hod => rfl); (case hxd => rfl); (case hyd => rfl); (case hbd => exact HN1.out); (case hmd => rfl))
  (try simp only [Exit.inBlock, Exit.then])
  refine bodyPost_ret (results_tnt (fn := Tryz.f17) rfl _ nb nd0 rfl (HN1.out.row _)) rfl ?_
  exact ⟨rfl, by rw [Hnb.out]; exact HK1.out⟩
set_option maxRecDepth 100000 in
theorem wat_zero (w : World) (kb : Nat) (k : Wk) (hb : Blk w kb (wkCells k) 70) (hn : k.next = .nilFunc) : Calls Tryz.prog 17 #[.pointer (some ⟨kb, 0, none⟩)] w fun e w' => e = .returned (.tuple #[.int .u64 0, .agg (ndCells nd0), .int .i64 1]) ∧ Below w.heap.size w w' := by
  have hq1 := nil_eq
  have hc : ∀ o : Obj, (w.alloc o).cell? ⟨kb, 31, none⟩ = some .nilFunc := fun o => ((hb.alloc o).cell 31).trans ((wk_tl _ 3).trans (by rw [← hn]; rfl))
  have HC := Lib.hid hc
  clear hb hn hc
  obtain ⟨nb, hnb⟩ : ∃ nb, w.heap.size = nb := ⟨_, rfl⟩
  have hn1 := Blk.new w (ndCells nd0) 46
  rw [hnb] at hn1
  have hk1 : Below nb w (w.alloc (.cells (ndCells nd0) 46)) := by rw [← hnb]; exact (Below.refl _ w).alloc (Nat.le_refl _) _
  have Hnb := Lib.hid hnb
  go_enter Tryz.func17, Tryz.ntmps17
  go_upto_region 1 with ((with_reducible refine wpList_alloc_ndAt (o := ⟨some 3, _, _, _, _, _⟩) ?ha ?hbb nb ?hz ?_); (case ha => rfl); (case hbb => rfl); (case hz => exact Hnb.out))
  obtain ⟨w1, hw1⟩ : ∃ w1, w.alloc (.cells (ndCells nd0) 46) = w1 := ⟨_, rfl⟩
  rw [hw1] at hn1 hk1 ⊢
  have HN1 := Lib.hid hn1
  have HK1 := Lib.hid (below_setRow hk1 (Nat.le_refl nb) (ndCells nd0))
  clear hn1 hk1 hnb
  have c31 : w1.cell? ⟨kb, 31, none⟩ = some .nilFunc := by rw [← hw1]; exact HC.out _
  clear hw1
  go_wp2_with ((with_reducible refine wpList_store_ndc (o := ⟨none, .store 46 (.tmp 3) (.tmp 15), _, _, _, _⟩) ?hgd (.tmp 3) (.tmp 15) ?hod nb (ndCells nd0) nd0 nd0 ?hxd ?hyd ?hbd ?hmd ?_); (case hgd => rfl); (case hod => rfl); (case hxd => rfl); (case hyd => rfl); (case hbd => exact HN1.out); (case hmd => rfl))
  (try simp only [Exit.inBlock, Exit.then])
  refine bodyPost_ret (results_tnt (fn := Tryz.f17) rfl _ nb nd0 rfl (HN1.out.row _)) rfl ?_
  exact ⟨rfl, by rw [Hnb.out]; exact HK1.out⟩
structure AtH (w1 : World) (nb : Nat) (L : Nat → Bool) (W : World) : Prop where
  kp : Keeps (fun i => i = nb) w1 W
  b : Blk W nb (ndCells nd0) 46
theorem AtH.start {w1 : World} {nb : Nat} (h : Blk w1 nb (ndCells nd0) 46) : AtH w1 nb (fun _ => false) w1.drew := ⟨(Keeps.refl _ _).drew, h.drew⟩
theorem AtH.keep {w1 W : World} {nb : Nat} {L L' : Nat → Bool} (h : AtH w1 nb L W) : AtH w1 nb L' W := ⟨h.kp, h.b⟩
theorem AtH.store {w1 W : World} {nb : Nat} {L L' : Nat → Bool} (h : AtH w1 nb L W) : AtH w1 nb L' (W.setRow nb (ndCells nd0)) := ⟨keeps_setRow h.kp (.inl rfl) _, h.b.row _⟩
set_option maxRecDepth 100000 in
set_option maxHeartbeats 8000000 in
theorem wat_err (w : World) (kb : Nat) (k : Wk) (hb : Blk w kb (wkCells k) 70) (hn : k.next = .func (.func 26) #[.pointer (some ⟨kb, 0, none⟩)] #[]) (ho : k.over = true) (he : k.e = 1) :
    Calls Tryz.prog 17 #[.pointer (some ⟨kb, 0, none⟩)] w fun e w' => e = .returned (.tuple #[.int .u64 0, .agg (ndCells nd0), .int .i64 1]) ∧ Below w.heap.size w w' := by
  have hq2 := fn_eq 26
  have hb1 := hb.alloc (.cells (ndCells nd0) 46)
  have hn1 := Blk.new w (ndCells nd0) 46
  obtain ⟨nb, hnb⟩ : ∃ nb, w.heap.size = nb := ⟨_, rfl⟩
  have HNe := Lib.hid (show kb ≠ nb from by have := hb.lt; omega)
  rw [hnb] at hn1
  have hk1 : Below nb w (w.alloc (.cells (ndCells nd0) 46)) := by rw [← hnb]; exact (Below.refl _ w).alloc (Nat.le_refl _) _
  have Hnb := Lib.hid hnb
  clear hb
  go_enter Tryz.func17, Tryz.ntmps17
  go_upto_region 1 with ((with_reducible refine wpList_alloc_ndAt (o := ⟨some 3, _, _, _, _, _⟩) ?ha ?hbb nb ?hz ?_); (case ha => rfl); (case hbb => rfl); (case hz => exact Hnb.out))
  obtain ⟨w1, hw1⟩ : ∃ w1, w.alloc (.cells (ndCells nd0) 46) = w1 := ⟨_, rfl⟩
  rw [hw1] at hb1 hn1 hk1 ⊢
  have HB1 := Lib.hid hb1
  have HN1 := Lib.hid hn1
  have HK1 := Lib.hid hk1
  have c31 : w1.cell? ⟨kb, 31, none⟩ = some (.func (.func 26) #[.pointer (some ⟨kb, 0, none⟩)] #[]) := (hb1.cell 31).trans ((wk_tl _ 3).trans (by rw [← hn]; rfl))
  have c32 : w1.cell? ⟨kb, 32, none⟩ = some (.bool true) := (hb1.cell 32).trans ((wk_tl _ 4).trans (by rw [← ho]; rfl))
  have c33 : w1.cell? ⟨kb, 33, none⟩ = some (.int .i64 1) := (hb1.cell 33).trans ((wk_tl _ 5).trans (by rw [← he]; rfl))
  obtain ⟨ke, hke⟩ : ∃ ke : Int, ke = 1 := ⟨_, rfl⟩
  have HC33 := Lib.hid (show w1.cell? ⟨kb, 33, none⟩ = some (.int .i64 ke) from by rw [hke]; exact c33)
  have Hke := Lib.hid hke
  clear hb1 hn1 hk1 hw1 hnb hn ho he hke
  go_wp2_with (fail)
  --GEN r_kat6
  refine wp_region_vals [Is (.agg (ndCells nd0)), Is (.pointer (some ⟨kb, 0, none⟩)), Is (.pointer (some ⟨kb, 0, none⟩)), Is (.pointer (some ⟨kb, 33, none⟩)), Is (.int .i64 ke), Is (.int .u64 0), Is (undef), Is (.int .i64 ke)]
    (fun _ _ _ => True) (fun L W => AtH w1 nb L W) (by kernel_rfl) (by kernel_rfl) (by kernel_rfl) ?hst ?h0 ⟨?o0, ?o1, ?o2, ?o3, ?o4, ?o5, ?o6, ?o7, trivial⟩ ?he
  case hst =>
    exact ⟨(fun _ _ _ _ _ _ h _ => h), (fun _ _ _ _ _ _ h _ => h), (fun _ _ _ _ _ _ h _ => h), (fun _ _ _ _ _ _ h _ => h), (fun _ _ _ _ _ _ h _ => h), (fun _ _ _ _ _ _ h _ => h), (fun _ _ _ _ _ _ h _ => h), (fun _ _ _ _ _ _ h _ => h), trivial⟩
  case h0 =>
    exact AtH.start HN1.out
  case o0 =>
    intro L vs A W H hf hd K hK
    go_simp
    exact hK _ _ (trivial) rfl (H.glob.keep)
  case o1 =>
    intro L vs A W H hf hd K hK
    have e0 : A.tmps[0]?.getD undef = .pointer (some ⟨kb, 0, none⟩) := H.old 0 (by kernel_rfl)
    go_simp
    exact hK _ _ (trivial) rfl (H.glob.keep)
  case o2 =>
    intro L vs A W H hf hd K hK
    have e37 := H.is 1 37 rfl rfl rfl (deps_of' hd 1 (by kernel_rfl)) (by kernel_rfl)
    go_simp
    exact hK _ _ (trivial) rfl (H.glob.keep)
  case o3 =>
    intro L vs A W H hf hd K hK
    have e38 := H.is 2 38 rfl rfl rfl (deps_of' hd 2 (by kernel_rfl)) (by kernel_rfl)
    go_simp
    exact hK _ _ (trivial) rfl (H.glob.keep)
  case o4 =>
    intro L vs A W H hf hd K hK
    have e39 := H.is 3 39 rfl rfl rfl (deps_of' hd 3 (by kernel_rfl)) (by kernel_rfl)
    have d0 : W.cell? ⟨kb, 33, none⟩ = some (.int .i64 ke) := (H.glob.kp.cell (p := ⟨kb, 33, none⟩) HB1.out.lt HNe.out).trans HC33.out
    go_simp
    exact hK _ _ (trivial) rfl (H.glob.keep)
  case o5 =>
    intro L vs A W H hf hd K hK
    go_simp
    exact hK _ _ (trivial) rfl (H.glob.keep)
  case o6 =>
    intro L vs A W H hf hd K hK
    have e3 : A.tmps[3]?.getD undef = .pointer (some ⟨nb, 0, none⟩) := H.old 3 (by kernel_rfl)
    have e36 := H.is 0 36 rfl rfl rfl (deps_of' hd 0 (by kernel_rfl)) (by kernel_rfl)
    exact wp_store_nd (.tmp 3) (.tmp 36) rfl nb nd0 nd0 (ev_tmp e3) (ev_tmp e36) H.glob.b (hK _ _ trivial rfl H.glob.store)
  case o7 =>
    intro L vs A W H hf hd K hK
    have e40 := H.is 4 40 rfl rfl rfl (deps_of' hd 4 (by kernel_rfl)) (by kernel_rfl)
    go_simp
    exact hK _ _ (trivial) rfl (H.glob.keep)
  case he =>
    intro vs W hlen hv
    match vs, hlen, hv with
    | [x0_, x1_, x2_, x3_, x4_, x5_, x6_, x7_], _, hv =>
    obtain rfl : (.agg (ndCells nd0)) = x0_ := by obtain ⟨z, h1, h2⟩ := hv 0 _ rfl; cases h1; exact h2.symm
    obtain rfl : (.pointer (some ⟨kb, 0, none⟩)) = x1_ := by obtain ⟨z, h1, h2⟩ := hv 1 _ rfl; cases h1; exact h2.symm
    obtain rfl : (.pointer (some ⟨kb, 0, none⟩)) = x2_ := by obtain ⟨z, h1, h2⟩ := hv 2 _ rfl; cases h1; exact h2.symm
    obtain rfl : (.pointer (some ⟨kb, 33, none⟩)) = x3_ := by obtain ⟨z, h1, h2⟩ := hv 3 _ rfl; cases h1; exact h2.symm
    obtain rfl : (.int .i64 ke) = x4_ := by obtain ⟨z, h1, h2⟩ := hv 4 _ rfl; cases h1; exact h2.symm
    obtain rfl : (.int .u64 0) = x5_ := by obtain ⟨z, h1, h2⟩ := hv 5 _ rfl; cases h1; exact h2.symm
    obtain rfl : (undef) = x6_ := by obtain ⟨z, h1, h2⟩ := hv 6 _ rfl; cases h1; exact h2.symm
    obtain rfl : (.int .i64 ke) = x7_ := by obtain ⟨z, h1, h2⟩ := hv 7 _ rfl; cases h1; exact h2.symm
    intro L hall hG
    clear hv hlen
    have HN2 := Lib.hid hG.b
    have HKt := Lib.hid hG.kp
    clear hG hall
    simp only [fill, if_true]
  --END
    simp [Act.put]
    have HKf := Lib.hid (show Below w.heap.size w W from by
      have h1 := HK1.out
      have h2 := HKt.out
      exact ⟨h2.os.trans h1.os, h2.tape.trans h1.tape, h2.output.trans h1.output, Nat.le_trans h1.size h2.size, fun i hi => (h2.block i (Nat.lt_of_lt_of_le hi h1.size) (by have := Hnb.out; omega)).trans (h1.block i (by have := Hnb.out; omega))⟩)
    clear c31 c32 c33
    go_wp2_with (fail)
    (try simp only [Exit.inBlock, Exit.then])
    refine bodyPost_ret (results_tnt (fn := Tryz.f17) rfl _ nb nd0 rfl HN2.out) rfl ?_
    refine ⟨?_, HKf.out⟩
    rw [← Hke.out]; rfl
set_option maxRecDepth 100000 in
set_option maxHeartbeats 8000000 in
theorem whigh_zero (w : World) (kb : Nat) (k : Wk) (hb : Blk w kb (wkCells k) 70) (hn : k.next = .nilFunc) : Calls Tryz.prog 18 #[.pointer (some ⟨kb, 0, none⟩)] w fun e w' => e = .returned (.tuple #[.int .u64 0, .bool false]) ∧ Below w.heap.size w w' := by
  have HAt := Lib.hid (wat_zero w kb k hb hn)
  clear hb hn
  go_enter Tryz.func18, Tryz.ntmps18
  go_wp2_with (fail)
  refine HAt.out.mono ?_
  rintro e w1 ⟨rfl, hB1⟩
  have hz := Blk.new w1 (ndCells nd0) 46
  have k2 : Below w.heap.size w ((w1.alloc (.cells (ndCells nd0) 46)).setRow w1.heap.size (ndCells nd0)) := below_setRow (hB1.alloc hB1.size _) hB1.size _
  obtain ⟨xb, hxb⟩ : ∃ xb, w1.heap.size = xb := ⟨_, rfl⟩
  rw [hxb] at hz k2
  have HXb := Lib.hid hxb
  have HZb := Lib.hid hz
  have HK2 := Lib.hid k2
  clear hz hxb k2 hB1 HAt
  go_wp2_with (first
    | ((with_reducible refine wpList_alloc_ndAt (o := ⟨some 5, _, _, _, _, _⟩) rfl rfl xb ?hz ?_); (case hz => exact HXb.out))
    | ((with_reducible refine wpList_store_ndc (o := ⟨none, .store 46 (.tmp 5) (.tmp 11), _, _, _, _⟩) ?hgd (.tmp 5) (.tmp 11) ?hod xb (ndCells nd0) nd0 nd0 ?hxd ?hyd ?hbd ?hmd ?_); (case hgd => rfl); (case hod => rfl); (case hxd => exact ev_tmp (by simp)); (case hyd => exact ev_tmp (by simp)); (case hmd => rfl); (case hbd => exact HZb.out); simp [Act.put]))
  go_ret2
  exact ⟨rfl, HK2.out⟩
set_option maxRecDepth 100000 in
set_option maxHeartbeats 8000000 in
theorem wstep_nos (w : World) (kb : Nat) (k : Wk) (hb : Blk w kb (wkCells k) 70) (hs : k.s = none) (hn : k.next = .func (.func 26) #[.pointer (some ⟨kb, 0, none⟩)] #[]) (hov : k.over = false) :
    Calls Tryz.prog 16 #[.pointer (some ⟨kb, 0, none⟩)] w fun e w' => e = .returned (.tuple #[.bool true, .int .i64 1]) ∧ Blk w' kb (wkCells { k with over := true, e := 1 }) 70 ∧ Keeps (fun i => i = kb) w w' := by
  have hq1 := nil_eq
  have hq2 := fn_eq 26
  have c0 : w.cell? ⟨kb, 0, none⟩ = some (.pointer none) := (hb.cell 0).trans ((wk_hd _ 0 (by decide)).trans (by simp [wkHd, hs]))
  have c31 : w.cell? ⟨kb, 31, none⟩ = some (.func (.func 26) #[.pointer (some ⟨kb, 0, none⟩)] #[]) := (hb.cell 31).trans ((wk_tl _ 3).trans (by rw [← hn]; rfl))
  have c32 : w.cell? ⟨kb, 32, none⟩ = some (.bool false) := (hb.cell 32).trans ((wk_tl _ 4).trans (by rw [← hov]; rfl))
  have f32 : w.frozen? ⟨kb, 32, none⟩ = false := hb.frozen 32
  have c33 : w.cell? ⟨kb, 33, none⟩ = some (.int .i64 k.e) := (hb.cell 33).trans ((wk_tl _ 5).trans rfl)
  have f33 : w.frozen? ⟨kb, 33, none⟩ = false := hb.frozen 33
  obtain ⟨d, hd⟩ : ∃ d : Bool, d = true := ⟨_, rfl⟩
  obtain ⟨er, her⟩ : ∃ er : Int, er = 1 := ⟨_, rfl⟩
  have hb5 := (hb.set 32 (.bool d)).set 33 (.int .i64 er)
  rw [wk_setOver, wk_setE] at hb5
  have HB5 := Lib.hid hb5
  have HK5 := Lib.hid (((Keeps.refl (fun i => i = kb) w).setCell (p := ⟨kb, 32, none⟩) (.inl rfl) (.bool d)).setCell (p := ⟨kb, 33, none⟩) (.inl rfl) (.int .i64 er))
  have Hd := Lib.hid (And.intro hd her)
  clear hb hs hn hov hb5 hd her
  go_enter Tryz.func16, Tryz.ntmps16
  go_wp2_with (fail)
  refine (smem_nil w).mono ?_
  rintro e w1 ⟨rfl, rfl⟩
  go_upto_region 9 with (fail)
  obtain ⟨w5, hw5⟩ : ∃ w5, (w.setCell ⟨kb, 32, none⟩ (.bool d)).setCell ⟨kb, 33, none⟩ (.int .i64 er) = w5 := ⟨_, rfl⟩
  rw [hw5] at HB5 HK5
  rw [Hd.out.1, Hd.out.2] at hw5
  rw [hw5]
  clear hw5 c0 c31 c32 f32 c33 f33
  --GEN r_kst9
  refine wp_region_vals [Is (.pointer (some ⟨kb, 0, none⟩)), Is (.pointer (some ⟨kb, 0, none⟩)), Is (.pointer (some ⟨kb, 32, none⟩)), Is (.bool d), Is (.pointer (some ⟨kb, 0, none⟩)), Is (.pointer (some ⟨kb, 0, none⟩)), Is (.pointer (some ⟨kb, 33, none⟩)), Is (.int .i64 er), Is (.bool d), Is (.int .i64 er)]
    (fun _ _ _ => True) (fun _ W => Below w5.heap.size w5 W) (by kernel_rfl) (by kernel_rfl) (by kernel_rfl) ?hst ?h0 ⟨?o0, ?o1, ?o2, ?o3, ?o4, ?o5, ?o6, ?o7, ?o8, ?o9, trivial⟩ ?he
  case hst =>
    exact ⟨(fun _ _ _ _ _ _ h _ => h), (fun _ _ _ _ _ _ h _ => h), (fun _ _ _ _ _ _ h _ => h), (fun _ _ _ _ _ _ h _ => h), (fun _ _ _ _ _ _ h _ => h), (fun _ _ _ _ _ _ h _ => h), (fun _ _ _ _ _ _ h _ => h), (fun _ _ _ _ _ _ h _ => h), (fun _ _ _ _ _ _ h _ => h), (fun _ _ _ _ _ _ h _ => h), trivial⟩
  case h0 =>
    exact (Below.refl _ w5).drew
  case o0 =>
    intro L vs A W H hf hd K hK
    have e0 : A.tmps[0]?.getD undef = .pointer (some ⟨kb, 0, none⟩) := H.old 0 (by kernel_rfl)
    go_simp
    exact hK _ _ (trivial) rfl (H.glob)
  case o1 =>
    intro L vs A W H hf hd K hK
    have e65 := H.is 0 65 rfl rfl rfl (deps_of' hd 0 (by kernel_rfl)) (by kernel_rfl)
    go_simp
    exact hK _ _ (trivial) rfl (H.glob)
  case o2 =>
    intro L vs A W H hf hd K hK
    have e66 := H.is 1 66 rfl rfl rfl (deps_of' hd 1 (by kernel_rfl)) (by kernel_rfl)
    go_simp
    exact hK _ _ (trivial) rfl (H.glob)
  case o3 =>
    intro L vs A W H hf hd K hK
    have e67 := H.is 2 67 rfl rfl rfl (deps_of' hd 2 (by kernel_rfl)) (by kernel_rfl)
    have d0 : W.cell? ⟨kb, 32, none⟩ = some (.bool d) := (H.glob.cell (p := ⟨kb, 32, none⟩) HB5.out.lt).trans ((HB5.out.cell 32).trans ((wk_tl _ 4).trans rfl))
    go_simp
    exact hK _ _ (trivial) rfl (H.glob)
  case o4 =>
    intro L vs A W H hf hd K hK
    have e0 : A.tmps[0]?.getD undef = .pointer (some ⟨kb, 0, none⟩) := H.old 0 (by kernel_rfl)
    go_simp
    exact hK _ _ (trivial) rfl (H.glob)
  case o5 =>
    intro L vs A W H hf hd K hK
    have e69 := H.is 4 69 rfl rfl rfl (deps_of' hd 4 (by kernel_rfl)) (by kernel_rfl)
    go_simp
    exact hK _ _ (trivial) rfl (H.glob)
  case o6 =>
    intro L vs A W H hf hd K hK
    have e70 := H.is 5 70 rfl rfl rfl (deps_of' hd 5 (by kernel_rfl)) (by kernel_rfl)
    go_simp
    exact hK _ _ (trivial) rfl (H.glob)
  case o7 =>
    intro L vs A W H hf hd K hK
    have e71 := H.is 6 71 rfl rfl rfl (deps_of' hd 6 (by kernel_rfl)) (by kernel_rfl)
    have d0 : W.cell? ⟨kb, 33, none⟩ = some (.int .i64 er) := (H.glob.cell (p := ⟨kb, 33, none⟩) HB5.out.lt).trans ((HB5.out.cell 33).trans ((wk_tl _ 5).trans rfl))
    go_simp
    exact hK _ _ (trivial) rfl (H.glob)
  case o8 =>
    intro L vs A W H hf hd K hK
    have e68 := H.is 3 68 rfl rfl rfl (deps_of' hd 3 (by kernel_rfl)) (by kernel_rfl)
    go_simp
    exact hK _ _ (trivial) rfl (H.glob)
  case o9 =>
    intro L vs A W H hf hd K hK
    have e72 := H.is 7 72 rfl rfl rfl (deps_of' hd 7 (by kernel_rfl)) (by kernel_rfl)
    go_simp
    exact hK _ _ (trivial) rfl (H.glob)
  case he =>
    intro vs W hlen hv
    match vs, hlen, hv with
    | [x0_, x1_, x2_, x3_, x4_, x5_, x6_, x7_, x8_, x9_], _, hv =>
    obtain rfl : (.pointer (some ⟨kb, 0, none⟩)) = x0_ := by obtain ⟨z, h1, h2⟩ := hv 0 _ rfl; cases h1; exact h2.symm
    obtain rfl : (.pointer (some ⟨kb, 0, none⟩)) = x1_ := by obtain ⟨z, h1, h2⟩ := hv 1 _ rfl; cases h1; exact h2.symm
    obtain rfl : (.pointer (some ⟨kb, 32, none⟩)) = x2_ := by obtain ⟨z, h1, h2⟩ := hv 2 _ rfl; cases h1; exact h2.symm
    obtain rfl : (.bool d) = x3_ := by obtain ⟨z, h1, h2⟩ := hv 3 _ rfl; cases h1; exact h2.symm
    obtain rfl : (.pointer (some ⟨kb, 0, none⟩)) = x4_ := by obtain ⟨z, h1, h2⟩ := hv 4 _ rfl; cases h1; exact h2.symm
    obtain rfl : (.pointer (some ⟨kb, 0, none⟩)) = x5_ := by obtain ⟨z, h1, h2⟩ := hv 5 _ rfl; cases h1; exact h2.symm
    obtain rfl : (.pointer (some ⟨kb, 33, none⟩)) = x6_ := by obtain ⟨z, h1, h2⟩ := hv 6 _ rfl; cases h1; exact h2.symm
    obtain rfl : (.int .i64 er) = x7_ := by obtain ⟨z, h1, h2⟩ := hv 7 _ rfl; cases h1; exact h2.symm
    obtain rfl : (.bool d) = x8_ := by obtain ⟨z, h1, h2⟩ := hv 8 _ rfl; cases h1; exact h2.symm
    obtain rfl : (.int .i64 er) = x9_ := by obtain ⟨z, h1, h2⟩ := hv 9 _ rfl; cases h1; exact h2.symm
    intro L hall hG
    clear hv hlen
    have HB6 := Lib.hid hG
    clear hG hall
    simp only [fill, if_true]
  --END
    simp [Act.put]
    have HBf := Lib.hid (HB5.out.below HB6.out HB5.out.lt)
    have HKf := Lib.hid (HK5.out.trans ((Keeps.of_below' HB6.out).mono (fun _ _ h => h.elim)))
    clear HB5 HK5
    go_wp2_with (fail)
    go_ret2
    obtain ⟨rfl, rfl⟩ := Hd.out
    exact ⟨rfl, HBf.out, HKf.out⟩
end Go.Proofs.YtodgfbjjjgohgaaGreat
