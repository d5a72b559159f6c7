/-
  The law SnapNil: the walk.
-/
import Derived.Test.YtgmbnoimlffgcaaSns
namespace Go.Proofs.Ytgmbnoimlffgcaa
open Go.RowKit
attribute [local go_sem] Oper.semAt_some
set_option linter.unusedVariables false

theorem there_nil (w : World) : Calls Try.prog 42 #[.pointer none] w fun e w' => e = .returned (.bool false) ∧ w = w' := by
  go_enter Try.func42, Try.ntmps42
  go_wp2_with (fail)
  go_ret
  exact ⟨rfl, rfl⟩
theorem size_nil (w : World) : Calls Try.prog 36 #[.pointer none] w fun e w' => e = .returned (.int .i64 0) ∧ w = w' := by
  have HT := Lib.hid (there_nil w)
  go_enter Try.func36, Try.ntmps36
  go_wp2_with (fail)
  refine HT.out.mono ?_
  rintro e w' ⟨rfl, rfl⟩
  go_wp2_with (fail)
  go_ret
  exact ⟨rfl, rfl⟩
theorem step_nil (w : World) : Calls Try.prog 11 #[.pointer none] w fun e w' => e = .returned (.tuple #[.bool true, .int .i64 1]) ∧ w = w' := by
  have hq1 := nil_eq
  go_enter Try.func11, Try.ntmps11
  go_wp2_with (fail)
  go_ret2
  exact ⟨rfl, rfl⟩
theorem step_zero (w : World) (sb : Nat) (hb : Blk w sb (snCells (sn0 none 0)) 62) : Calls Try.prog 11 #[.pointer (some ⟨sb, 0, none⟩)] w fun e w' => e = .returned (.tuple #[.bool true, .int .i64 1]) ∧ w = w' := by
  have hq1 := nil_eq
  have c2 : w.cell? ⟨sb, 54, none⟩ = some .nilFunc := (hb.cell 54).trans (sn_54 _)
  clear hb
  go_enter Try.func11, Try.ntmps11
  go_wp2_with (fail)
  go_ret2
  exact ⟨rfl, rfl⟩
theorem node_nil (w : World) : Calls Try.prog 12 #[.pointer none] w fun e w' => e = .returned (.tuple #[.agg (ndCells nd0), .int .i64 1]) ∧ Below w.heap.size w w' := by
  have hq1 := nil_eq
  obtain ⟨nb, hnb⟩ : ∃ nb, w.heap.size = nb := ⟨_, rfl⟩
  have HN0 := Lib.hid (show Blk (w.alloc (.cells (ndCells nd0) 40)) nb (ndCells nd0) 40 by rw [← hnb]; exact Blk.new w _ _)
  have HK0 := Lib.hid (show Below nb w (w.alloc (.cells (ndCells nd0) 40)) from (Below.refl nb w).alloc (by omega) _)
  have HNb := Lib.hid hnb
  rw [hnb]
  clear hnb
  go_enter Try.func12, Try.ntmps12
  go_upto_region 1 with ((with_reducible refine wpList_alloc_ndAt (o := ⟨some 2, _, _, _, _, _⟩) rfl rfl nb ?hz ?_); (case hz => exact HNb.out))
  go_wp2_with ((with_reducible refine wpList_store_ndc (o := ⟨none, .store 40 (.tmp 2) (.tmp 14), _, _, _, _⟩) ?hgc (.tmp 2) (.tmp 14) ?hoc nb ?csc nd0 nd0 ?hxc ?hyc ?hbc ?hmc ?_); (case hgc => rfl); (case hoc => rfl); (case hxc => rfl); (case hyc => rfl); (case hmc => rfl); (case hbc => exact HN0.out))
  (try simp only [Exit.inBlock, Exit.then])
  refine bodyPost_ret (results_nd (fn := Try.f12) rfl _ nb nd0 rfl (HN0.out.row _)) rfl ?_
  exact ⟨rfl, below_setRow HK0.out (Nat.le_refl _) _⟩
theorem high_nil (w : World) : Calls Try.prog 13 #[.pointer none] w fun e w' => e = .returned (.tuple #[.int .u64 0, .bool false]) ∧ Below w.heap.size w w' := by
  have HNo := Lib.hid (node_nil w)
  go_enter Try.func13, Try.ntmps13
  go_wp2_with (fail)
  refine HNo.out.mono ?_
  rintro e w1 ⟨rfl, hB⟩
  have HNw := Lib.hid (Blk.new w1 (ndCells nd0) 40)
  have HK2 := Lib.hid (below_setRow (hB.alloc hB.size (.cells (ndCells nd0) 40)) hB.size (ndCells nd0))
  clear hB
  go_upto_region 2 with (first
    | (with_reducible refine wpList_alloc_nd (o := ⟨some 4, _, _, _, _, _⟩) rfl rfl ?_)
    | ((with_reducible refine wpList_store_ndc (o := ⟨none, .store 40 (.tmp 4) (.tmp 9), _, _, _, _⟩) ?hgc (.tmp 4) (.tmp 9) ?hoc w1.heap.size (ndCells nd0) nd0 nd0 ?hxc ?hyc ?hbc ?hmc ?_); (case hgc => rfl); (case hoc => rfl); (case hxc => exact ev_tmp (by simp [Act.put])); (case hyc => exact ev_tmp (by simp [Act.put])); (case hmc => rfl); (case hbc => exact HNw.out)))
  go_wp2_with (fail)
  go_ret2
  exact ⟨rfl, HK2.out⟩
set_option maxRecDepth 100000 in
set_option maxHeartbeats 4000000 in
theorem step_new (w : World) (sb : Nat) (hb : Blk w sb (snCells (snNew sb none 64)) 62) : Calls Try.prog 11 #[.pointer (some ⟨sb, 0, none⟩)] w fun e w' => e = .returned (.tuple #[.bool true, .int .i64 1]) ∧ Keeps (fun i => i = sb) w w' := by
  have hq1 := nil_eq
  have hq2 := fn_eq 53
  have HSz := Lib.hid (size_nil w)
  have c0 : w.cell? ⟨sb, 0, none⟩ = some (.pointer none) := (hb.cell 0).trans (sn_0 _)
  have c2 : w.cell? ⟨sb, 54, none⟩ = some (.func (.func 53) #[.pointer (some ⟨sb, 0, none⟩)] #[]) := (hb.cell 54).trans (sn_54 _)
  have c5 : w.cell? ⟨sb, 55, none⟩ = some (.bool false) := (hb.cell 55).trans (sn_55 _)
  have c6 : w.cell? ⟨sb, 56, none⟩ = some (.int .i64 0) := (hb.cell 56).trans (sn_56 _)
  have f5 := hb.frozen 55
  have f6 := hb.frozen 56
  obtain ⟨s, hs⟩ : ∃ s, snNew sb none 64 = s := ⟨_, rfl⟩
  rw [hs] at hb
  have hb5 := (hb.set 55 (.bool true)).set 56 (.int .i64 1)
  rw [sn_set55, sn_set56] at hb5
  have k5 : Keeps (fun k => k = sb) w ((w.setCell ⟨sb, 55, none⟩ (.bool true)).setCell ⟨sb, 56, none⟩ (.int .i64 1)) := ((Keeps.refl (fun k => k = sb) w).setCell (p := ⟨sb, 55, none⟩) (.inl rfl) _).setCell (p := ⟨sb, 56, none⟩) (.inl rfl) _
  have HB5 := Lib.hid hb5
  have HK5 := Lib.hid k5
  clear hb hb5 k5 hs
  go_enter Try.func11, Try.ntmps11
  go_wp2_with (go_at_call 36; refine HSz.out.mono ?_; rintro e w1 ⟨rfl, rfl⟩)
  obtain ⟨b5, hb5⟩ : ∃ b5, b5 = (1 : Int) := ⟨_, rfl⟩
  have HQ5 := Lib.hid hb5
  obtain ⟨W5, hW5⟩ : ∃ W5, W5 = ((w.setCell ⟨sb, 55, none⟩ (.bool true)).setCell ⟨sb, 56, none⟩ (.int .i64 1)) := ⟨_, rfl⟩
  rw [← hW5] at HB5 HK5 ⊢
  have HC5 := Lib.hid (show W5.cell? ⟨sb, 55, none⟩ = some (.bool true) ∧ W5.cell? ⟨sb, 56, none⟩ = some (.int .i64 b5) from ⟨(HB5.out.cell 55).trans (sn_55 _), by rw [hb5]; exact (HB5.out.cell 56).trans (sn_56 _)⟩)
  clear hW5 f5 f6 c0 c2 c5 c6 hb5
  --GEN r_st8t
  refine wp_region_vals [Is (.pointer (some ⟨sb, 0, none⟩)), Is (.pointer (some ⟨sb, 0, none⟩)), Is (.pointer (some ⟨sb, 55, none⟩)), Is (.bool true), Is (.pointer (some ⟨sb, 0, none⟩)), Is (.pointer (some ⟨sb, 0, none⟩)), Is (.pointer (some ⟨sb, 56, none⟩)), Is (.int .i64 b5), Is (.bool true), Is (.int .i64 b5)]
    (fun _ _ _ => True) (fun _ W => W = W5.drew) (by kernel_rfl) (by kernel_rfl) (by kernel_rfl) ?hst ?h0 ⟨?o0, ?o1, ?o2, ?o3, ?o4, ?o5, ?o6, ?o7, ?o8, ?o9, trivial⟩ ?he
  case hst =>
    exact ⟨(fun _ _ _ _ _ _ h _ => h), (fun _ _ _ _ _ _ h _ => h), (fun _ _ _ _ _ _ h _ => h), (fun _ _ _ _ _ _ h _ => h), (fun _ _ _ _ _ _ h _ => h), (fun _ _ _ _ _ _ h _ => h), (fun _ _ _ _ _ _ h _ => h), (fun _ _ _ _ _ _ h _ => h), (fun _ _ _ _ _ _ h _ => h), (fun _ _ _ _ _ _ h _ => h), trivial⟩
  case h0 =>
    exact rfl
  case o0 =>
    intro L vs A W H hf hd K hK
    have e0 : A.tmps[0]?.getD undef = .pointer (some ⟨sb, 0, none⟩) := H.old 0 (by kernel_rfl)
    go_simp
    exact hK _ _ (trivial) rfl (H.glob)
  case o1 =>
    intro L vs A W H hf hd K hK
    have e54 := H.is 0 54 rfl rfl rfl (deps_of' hd 0 (by kernel_rfl)) (by kernel_rfl)
    go_simp
    exact hK _ _ (trivial) rfl (H.glob)
  case o2 =>
    intro L vs A W H hf hd K hK
    have e55 := H.is 1 55 rfl rfl rfl (deps_of' hd 1 (by kernel_rfl)) (by kernel_rfl)
    go_simp
    exact hK _ _ (trivial) rfl (H.glob)
  case o3 =>
    intro L vs A W H hf hd K hK
    have e56 := H.is 2 56 rfl rfl rfl (deps_of' hd 2 (by kernel_rfl)) (by kernel_rfl)
    have d : W.cell? ⟨sb, 55, none⟩ = some (.bool true) := (by rw [H.glob]; exact HC5.out.1)
    go_simp
    exact hK _ _ (trivial) rfl (H.glob)
  case o4 =>
    intro L vs A W H hf hd K hK
    have e0 : A.tmps[0]?.getD undef = .pointer (some ⟨sb, 0, none⟩) := H.old 0 (by kernel_rfl)
    go_simp
    exact hK _ _ (trivial) rfl (H.glob)
  case o5 =>
    intro L vs A W H hf hd K hK
    have e58 := H.is 4 58 rfl rfl rfl (deps_of' hd 4 (by kernel_rfl)) (by kernel_rfl)
    go_simp
    exact hK _ _ (trivial) rfl (H.glob)
  case o6 =>
    intro L vs A W H hf hd K hK
    have e59 := H.is 5 59 rfl rfl rfl (deps_of' hd 5 (by kernel_rfl)) (by kernel_rfl)
    go_simp
    exact hK _ _ (trivial) rfl (H.glob)
  case o7 =>
    intro L vs A W H hf hd K hK
    have e60 := H.is 6 60 rfl rfl rfl (deps_of' hd 6 (by kernel_rfl)) (by kernel_rfl)
    have d : W.cell? ⟨sb, 56, none⟩ = some (.int .i64 b5) := (by rw [H.glob]; exact HC5.out.2)
    go_simp
    exact hK _ _ (trivial) rfl (H.glob)
  case o8 =>
    intro L vs A W H hf hd K hK
    have e57 := H.is 3 57 rfl rfl rfl (deps_of' hd 3 (by kernel_rfl)) (by kernel_rfl)
    go_simp
    exact hK _ _ (trivial) rfl (H.glob)
  case o9 =>
    intro L vs A W H hf hd K hK
    have e61 := H.is 7 61 rfl rfl rfl (deps_of' hd 7 (by kernel_rfl)) (by kernel_rfl)
    go_simp
    exact hK _ _ (trivial) rfl (H.glob)
  case he =>
    intro vs W hlen hv
    match vs, hlen, hv with
    | [x0_, x1_, x2_, x3_, x4_, x5_, x6_, x7_, x8_, x9_], _, hv =>
    obtain rfl : (.pointer (some ⟨sb, 0, none⟩)) = x0_ := by obtain ⟨z, h1, h2⟩ := hv 0 _ rfl; cases h1; exact h2.symm
    obtain rfl : (.pointer (some ⟨sb, 0, none⟩)) = x1_ := by obtain ⟨z, h1, h2⟩ := hv 1 _ rfl; cases h1; exact h2.symm
    obtain rfl : (.pointer (some ⟨sb, 55, none⟩)) = x2_ := by obtain ⟨z, h1, h2⟩ := hv 2 _ rfl; cases h1; exact h2.symm
    obtain rfl : (.bool true) = x3_ := by obtain ⟨z, h1, h2⟩ := hv 3 _ rfl; cases h1; exact h2.symm
    obtain rfl : (.pointer (some ⟨sb, 0, none⟩)) = x4_ := by obtain ⟨z, h1, h2⟩ := hv 4 _ rfl; cases h1; exact h2.symm
    obtain rfl : (.pointer (some ⟨sb, 0, none⟩)) = x5_ := by obtain ⟨z, h1, h2⟩ := hv 5 _ rfl; cases h1; exact h2.symm
    obtain rfl : (.pointer (some ⟨sb, 56, none⟩)) = x6_ := by obtain ⟨z, h1, h2⟩ := hv 6 _ rfl; cases h1; exact h2.symm
    obtain rfl : (.int .i64 b5) = x7_ := by obtain ⟨z, h1, h2⟩ := hv 7 _ rfl; cases h1; exact h2.symm
    obtain rfl : (.bool true) = x8_ := by obtain ⟨z, h1, h2⟩ := hv 8 _ rfl; cases h1; exact h2.symm
    obtain rfl : (.int .i64 b5) = x9_ := by obtain ⟨z, h1, h2⟩ := hv 9 _ rfl; cases h1; exact h2.symm
    intro L hall hG
    clear hv hlen
    have HW := hG
    clear hG hall
    subst HW
    simp only [fill, if_true]
  --END
    simp [Act.put]
    go_wp2_with (fail)
    go_ret2
    exact ⟨by rw [HQ5.out]; rfl, HK5.out.drew⟩
/-! ### Still, Last -/
def stCells0 : Array Value := (([Value.pointer none, Value.int .u64 0] ++ (ndCells nd0).toList) ++ [Value.int .i64 0, Value.bool false, Value.bool false, Value.int .i64 0]).toArray
def lsCells (mv : Option Addr) (c : Int) (sl : Value) (bg ov : Bool) (e : Int) : Array Value := #[.pointer mv, .int .i64 c, sl, .bool bg, .bool ov, .int .i64 e]
theorem still_nil (w : World) : Calls Try.prog 20 #[.pointer none] w fun e w' => e = .returned (.tuple #[.bool true, .int .i64 1]) ∧ w = w' := by
  go_enter Try.func20, Try.ntmps20
  go_wp2_with (fail)
  go_ret2
  exact ⟨rfl, rfl⟩
theorem still_zero (w : World) (b : Nat) (hb : Blk w b stCells0 64) : Calls Try.prog 20 #[.pointer (some ⟨b, 0, none⟩)] w fun e w' => e = .returned (.tuple #[.bool true, .int .i64 1]) ∧ w = w' := by
  have c2 : w.cell? ⟨b, 23, none⟩ = some (.int .i64 0) := hb.cell 23
  clear hb
  go_enter Try.func20, Try.ntmps20
  go_wp2_with (fail)
  go_ret2
  exact ⟨rfl, rfl⟩
theorem same_nil (w : World) : Calls Try.prog 24 #[.pointer none] w fun e w' => e = .returned (.bool false) ∧ w = w' := by
  go_enter Try.func24, Try.ntmps24
  go_wp2_with (fail)
  go_ret
  exact ⟨rfl, rfl⟩
theorem same_zero (w : World) (b : Nat) (hb : Blk w b stCells0 64) : Calls Try.prog 24 #[.pointer (some ⟨b, 0, none⟩)] w fun e w' => e = .returned (.bool false) ∧ w = w' := by
  have c2 : w.cell? ⟨b, 25, none⟩ = some (.bool false) := hb.cell 25
  clear hb
  go_enter Try.func24, Try.ntmps24
  go_wp2_with (fail)
  go_ret
  exact ⟨rfl, rfl⟩
theorem last_nil (w : World) : Calls Try.prog 21 #[.pointer none] w fun e w' => e = .returned (.tuple #[.bool true, .int .i64 1]) ∧ w = w' := by
  go_enter Try.func21, Try.ntmps21
  go_wp2_with (fail)
  go_ret2
  exact ⟨rfl, rfl⟩
set_option maxRecDepth 100000 in
theorem last_zero (w : World) (b : Nat) (hb : Blk w b (lsCells none 0 (.slice none 0 0) false false 0) 67) : Calls Try.prog 21 #[.pointer (some ⟨b, 0, none⟩)] w fun e w' => e = .returned (.tuple #[.bool true, .int .i64 1]) ∧ w = w' := by
  have c2 : w.cell? ⟨b, 3, none⟩ = some (.bool false) := hb.cell 3
  clear hb
  go_enter Try.func21, Try.ntmps21
  go_wp2_with (fail)
  go_ret2
  exact ⟨rfl, rfl⟩
theorem nil_sl (w : World) : (binOp .eql 65 (.slice none 0 0) (.slice none 0 0)).run Try.prog w = .ok (.bool true) w := by kernel_rfl
theorem clone_nil (w : World) : Calls Try.prog 44 #[.slice none 0 0] w fun e w' => e = .returned (.slice none 0 0) ∧ w = w' := by
  have hq1 := nil_sl
  go_enter Try.func44, Try.ntmps44
  go_wp2_with (fail)
  go_ret
  exact ⟨rfl, rfl⟩
set_option maxRecDepth 100000 in
theorem newlast_v (w : World) : Calls Try.prog 22 #[.pointer none, .int .i64 0, .slice none 0 0] w fun e w' => e = .returned (.pointer (some ⟨w.heap.size, 0, none⟩)) ∧ Blk w' w.heap.size (lsCells none 0 (.slice none 0 0) true false 0) 67 ∧ Below w.heap.size w w' := by
  have HCl := Lib.hid (clone_nil w)
  have HB := Lib.hid (Blk.new w (lsCells none 0 (.slice none 0 0) true false 0) 67)
  have HW := Lib.hid ((Below.refl w.heap.size w).alloc (Nat.le_refl _) (.cells (lsCells none 0 (.slice none 0 0) true false 0) 67))
  unfold lsCells at *
  go_enter Try.func22, Try.ntmps22
  go_wp2_with (fail)
  refine HCl.out.mono ?_
  rintro e w' ⟨rfl, rfl⟩
  go_wp2_with (fail)
  go_ret
  exact ⟨rfl, HB.out, HW.out⟩
set_option maxRecDepth 100000 in
set_option maxHeartbeats 4000000 in
theorem last_new (w : World) (sb : Nat) (hb : Blk w sb (lsCells none 0 (.slice none 0 0) true false 0) 67) : Calls Try.prog 21 #[.pointer (some ⟨sb, 0, none⟩)] w fun e w' => e = .returned (.tuple #[.bool true, .int .i64 1]) ∧ Keeps (fun i => i = sb) w w' := by
  have HSz := Lib.hid (size_nil w)
  have c0 : w.cell? ⟨sb, 0, none⟩ = some (.pointer none) := hb.cell 0
  have c3 : w.cell? ⟨sb, 3, none⟩ = some (.bool true) := hb.cell 3
  have c4 : w.cell? ⟨sb, 4, none⟩ = some (.bool false) := hb.cell 4
  have c5 : w.cell? ⟨sb, 5, none⟩ = some (.int .i64 0) := hb.cell 5
  have f4 := hb.frozen 4
  have f5 := hb.frozen 5
  have hb5 := (hb.set 4 (.bool true)).set 5 (.int .i64 1)
  have k5 : Keeps (fun k => k = sb) w ((w.setCell ⟨sb, 4, none⟩ (.bool true)).setCell ⟨sb, 5, none⟩ (.int .i64 1)) := ((Keeps.refl (fun k => k = sb) w).setCell (p := ⟨sb, 4, none⟩) (.inl rfl) _).setCell (p := ⟨sb, 5, none⟩) (.inl rfl) _
  have HB5 := Lib.hid hb5
  have HK5 := Lib.hid k5
  clear hb hb5 k5
  go_enter Try.func21, Try.ntmps21
  go_wp2_with (go_at_call 36; refine HSz.out.mono ?_; rintro e w1 ⟨rfl, rfl⟩)
  obtain ⟨b5, hb5⟩ : ∃ b5, b5 = (1 : Int) := ⟨_, rfl⟩
  have HQ5 := Lib.hid hb5
  obtain ⟨W5, hW5⟩ : ∃ W5, W5 = ((w.setCell ⟨sb, 4, none⟩ (.bool true)).setCell ⟨sb, 5, none⟩ (.int .i64 1)) := ⟨_, rfl⟩
  rw [← hW5] at HB5 HK5 ⊢
  have HC5 := Lib.hid (show W5.cell? ⟨sb, 4, none⟩ = some (.bool true) ∧ W5.cell? ⟨sb, 5, none⟩ = some (.int .i64 b5) from ⟨HB5.out.cell 4, by rw [hb5]; exact HB5.out.cell 5⟩)
  clear hW5 f4 f5 c0 c3 c4 c5 hb5
  --GEN r_ls11
  refine wp_region_vals [Is (.pointer (some ⟨sb, 0, none⟩)), Is (.pointer (some ⟨sb, 0, none⟩)), Is (.pointer (some ⟨sb, 4, none⟩)), Is (.bool true), Is (.pointer (some ⟨sb, 0, none⟩)), Is (.pointer (some ⟨sb, 0, none⟩)), Is (.pointer (some ⟨sb, 5, none⟩)), Is (.int .i64 b5), Is (.bool true), Is (.int .i64 b5)]
    (fun _ _ _ => True) (fun _ W => W = W5.drew) (by kernel_rfl) (by kernel_rfl) (by kernel_rfl) ?hst ?h0 ⟨?o0, ?o1, ?o2, ?o3, ?o4, ?o5, ?o6, ?o7, ?o8, ?o9, trivial⟩ ?he
  case hst =>
    exact ⟨(fun _ _ _ _ _ _ h _ => h), (fun _ _ _ _ _ _ h _ => h), (fun _ _ _ _ _ _ h _ => h), (fun _ _ _ _ _ _ h _ => h), (fun _ _ _ _ _ _ h _ => h), (fun _ _ _ _ _ _ h _ => h), (fun _ _ _ _ _ _ h _ => h), (fun _ _ _ _ _ _ h _ => h), (fun _ _ _ _ _ _ h _ => h), (fun _ _ _ _ _ _ h _ => h), trivial⟩
  case h0 =>
    exact rfl
  case o0 =>
    intro L vs A W H hf hd K hK
    have e0 : A.tmps[0]?.getD undef = .pointer (some ⟨sb, 0, none⟩) := H.old 0 (by kernel_rfl)
    go_simp
    exact hK _ _ (trivial) rfl (H.glob)
  case o1 =>
    intro L vs A W H hf hd K hK
    have e88 := H.is 0 88 rfl rfl rfl (deps_of' hd 0 (by kernel_rfl)) (by kernel_rfl)
    go_simp
    exact hK _ _ (trivial) rfl (H.glob)
  case o2 =>
    intro L vs A W H hf hd K hK
    have e89 := H.is 1 89 rfl rfl rfl (deps_of' hd 1 (by kernel_rfl)) (by kernel_rfl)
    go_simp
    exact hK _ _ (trivial) rfl (H.glob)
  case o3 =>
    intro L vs A W H hf hd K hK
    have e90 := H.is 2 90 rfl rfl rfl (deps_of' hd 2 (by kernel_rfl)) (by kernel_rfl)
    have d : W.cell? ⟨sb, 4, none⟩ = some (.bool true) := (by rw [H.glob]; exact HC5.out.1)
    go_simp
    exact hK _ _ (trivial) rfl (H.glob)
  case o4 =>
    intro L vs A W H hf hd K hK
    have e0 : A.tmps[0]?.getD undef = .pointer (some ⟨sb, 0, none⟩) := H.old 0 (by kernel_rfl)
    go_simp
    exact hK _ _ (trivial) rfl (H.glob)
  case o5 =>
    intro L vs A W H hf hd K hK
    have e92 := H.is 4 92 rfl rfl rfl (deps_of' hd 4 (by kernel_rfl)) (by kernel_rfl)
    go_simp
    exact hK _ _ (trivial) rfl (H.glob)
  case o6 =>
    intro L vs A W H hf hd K hK
    have e93 := H.is 5 93 rfl rfl rfl (deps_of' hd 5 (by kernel_rfl)) (by kernel_rfl)
    go_simp
    exact hK _ _ (trivial) rfl (H.glob)
  case o7 =>
    intro L vs A W H hf hd K hK
    have e94 := H.is 6 94 rfl rfl rfl (deps_of' hd 6 (by kernel_rfl)) (by kernel_rfl)
    have d : W.cell? ⟨sb, 5, none⟩ = some (.int .i64 b5) := (by rw [H.glob]; exact HC5.out.2)
    go_simp
    exact hK _ _ (trivial) rfl (H.glob)
  case o8 =>
    intro L vs A W H hf hd K hK
    have e91 := H.is 3 91 rfl rfl rfl (deps_of' hd 3 (by kernel_rfl)) (by kernel_rfl)
    go_simp
    exact hK _ _ (trivial) rfl (H.glob)
  case o9 =>
    intro L vs A W H hf hd K hK
    have e95 := H.is 7 95 rfl rfl rfl (deps_of' hd 7 (by kernel_rfl)) (by kernel_rfl)
    go_simp
    exact hK _ _ (trivial) rfl (H.glob)
  case he =>
    intro vs W hlen hv
    match vs, hlen, hv with
    | [x0_, x1_, x2_, x3_, x4_, x5_, x6_, x7_, x8_, x9_], _, hv =>
    obtain rfl : (.pointer (some ⟨sb, 0, none⟩)) = x0_ := by obtain ⟨z, h1, h2⟩ := hv 0 _ rfl; cases h1; exact h2.symm
    obtain rfl : (.pointer (some ⟨sb, 0, none⟩)) = x1_ := by obtain ⟨z, h1, h2⟩ := hv 1 _ rfl; cases h1; exact h2.symm
    obtain rfl : (.pointer (some ⟨sb, 4, none⟩)) = x2_ := by obtain ⟨z, h1, h2⟩ := hv 2 _ rfl; cases h1; exact h2.symm
    obtain rfl : (.bool true) = x3_ := by obtain ⟨z, h1, h2⟩ := hv 3 _ rfl; cases h1; exact h2.symm
    obtain rfl : (.pointer (some ⟨sb, 0, none⟩)) = x4_ := by obtain ⟨z, h1, h2⟩ := hv 4 _ rfl; cases h1; exact h2.symm
    obtain rfl : (.pointer (some ⟨sb, 0, none⟩)) = x5_ := by obtain ⟨z, h1, h2⟩ := hv 5 _ rfl; cases h1; exact h2.symm
    obtain rfl : (.pointer (some ⟨sb, 5, none⟩)) = x6_ := by obtain ⟨z, h1, h2⟩ := hv 6 _ rfl; cases h1; exact h2.symm
    obtain rfl : (.int .i64 b5) = x7_ := by obtain ⟨z, h1, h2⟩ := hv 7 _ rfl; cases h1; exact h2.symm
    obtain rfl : (.bool true) = x8_ := by obtain ⟨z, h1, h2⟩ := hv 8 _ rfl; cases h1; exact h2.symm
    obtain rfl : (.int .i64 b5) = x9_ := by obtain ⟨z, h1, h2⟩ := hv 9 _ rfl; cases h1; exact h2.symm
    intro L hall hG
    clear hv hlen
    have HW := hG
    clear hG hall
    subst HW
    simp only [fill, if_true]
  --END
    simp [Act.put]
    go_wp2_with (fail)
    go_ret2
    exact ⟨by rw [HQ5.out]; rfl, HK5.out.drew⟩
set_option maxRecDepth 100000 in
theorem lines_v (w : World) : Calls Try.prog 23 #[.int .u64 64] w fun e w' => e = .returned (.slice (some ⟨w.heap.size, 0, none⟩) 3 3) ∧ Blk w' w.heap.size #[.int .u64 64, .int .u64 128, .int .u64 192] 24 ∧ Below w.heap.size w w' := by
  have HB := Lib.hid (Blk.new w #[.int .u64 64, .int .u64 128, .int .u64 192] 24)
  have HW := Lib.hid ((Below.refl w.heap.size w).alloc (Nat.le_refl _) (.cells #[.int .u64 64, .int .u64 128, .int .u64 192] 24))
  go_enter Try.func23, Try.ntmps23
  go_wp2_with (fail)
  go_ret
  exact ⟨rfl, HB.out, HW.out⟩
end Go.Proofs.Ytgmbnoimlffgcaa
namespace Go.Proofs.Ytgmbnoimlffgcaa
open Go.RowKit
attribute [local go_sem] Oper.semAt_some
set_option linter.unusedVariables false

theorem wpList_alloc_c {ops : Array Oper} {rest : List Oper} {o : Oper} {a : Act} {w : World} {Q : Exit → Act → World → Prop} {t : TypeId} (cs : Array Value) (hr : ∀ w, (Instr.alloc t true (.tuple #[])).run Try.prog w = .ok (.pointer (some ⟨w.heap.size, 0, none⟩)) (w.alloc (.cells cs t)))
    (hgd : o.guard = none) (ho : o.op = .alloc t) (H : Nat) (hH : w.heap.size = H) (h : wpList Try.prog ops Q rest (a.put o.dst (.pointer (some ⟨H, 0, none⟩))) (w.alloc (.cells cs t))) : wpList Try.prog ops Q (o :: rest) a w := by
  subst hH
  exact wpList_plain hgd fun _ hK => by
    unfold Oper.wp execOp
    simp only [ho, Sem.run_bind, hr, Result.andThen_ok, Sem.run_pure]
    exact hK _ _ h
theorem run_alloc_sn (w : World) : (Instr.alloc 62 true (.tuple #[])).run Try.prog w = .ok (.pointer (some ⟨w.heap.size, 0, none⟩)) (w.alloc (.cells (snCells (sn0 none 0)) 62)) := by kernel_rfl
theorem run_alloc_st (w : World) : (Instr.alloc 64 true (.tuple #[])).run Try.prog w = .ok (.pointer (some ⟨w.heap.size, 0, none⟩)) (w.alloc (.cells stCells0 64)) := by kernel_rfl
theorem run_alloc_ls (w : World) : (Instr.alloc 67 true (.tuple #[])).run Try.prog w = .ok (.pointer (some ⟨w.heap.size, 0, none⟩)) (w.alloc (.cells (lsCells none 0 (.slice none 0 0) false false 0) 67)) := by kernel_rfl
theorem below_one {B sb : Nat} {a w w' : World} (h : Below B a w) (hk : Keeps (fun i => i = sb) w w') (hB : B ≤ sb) (hw : B ≤ w.heap.size) : Below B a w' :=
  h.trans ⟨hk.os, hk.tape, hk.output, hk.size, fun k hk2 => hk.block k (by omega) (by omega)⟩
set_option maxRecDepth 100000 in
set_option maxHeartbeats 40000000 in
theorem snil_v (w : World) : Calls Try.prog 5 #[] w fun e w' => e = .returned (.bool true) ∧ Below w.heap.size w w' := by
  obtain ⟨b4, hb4⟩ : ∃ b, w.heap.size = b := ⟨_, rfl⟩
  have hA := Blk.new w (snCells (sn0 none 0)) 62
  have kA : Below b4 w (w.alloc (.cells (snCells (sn0 none 0)) 62)) := (Below.refl b4 w).alloc (by omega) _
  have sA : (w.alloc (.cells (snCells (sn0 none 0)) 62)).heap.size = b4 + 1 := by simp [hb4]
  rw [hb4] at hA
  have H4 := Lib.hid hb4
  obtain ⟨w4, hw4⟩ : ∃ w4, w.alloc (.cells (snCells (sn0 none 0)) 62) = w4 := ⟨_, rfl⟩
  have HW4 := Lib.hid hw4
  rw [hw4] at hA kA sA
  have hB := Blk.new w4 stCells0 64
  have kB : Below b4 w (w4.alloc (.cells stCells0 64)) := kA.alloc (by omega) _
  have sB : (w4.alloc (.cells stCells0 64)).heap.size = b4 + 2 := by simp [sA]
  rw [sA] at hB
  have hA2 := hA.alloc (.cells stCells0 64)
  obtain ⟨w5, hw5⟩ : ∃ w5, w4.alloc (.cells stCells0 64) = w5 := ⟨_, rfl⟩
  have HW5 := Lib.hid hw5
  rw [hw5] at hB kB sB hA2
  have hC := Blk.new w5 (lsCells none 0 (.slice none 0 0) false false 0) 67
  have kC : Below b4 w (w5.alloc (.cells (lsCells none 0 (.slice none 0 0) false false 0) 67)) := kB.alloc (by omega) _
  rw [sB] at hC
  have hA3 := hA2.alloc (.cells (lsCells none 0 (.slice none 0 0) false false 0) 67)
  have hB3 := hB.alloc (.cells (lsCells none 0 (.slice none 0 0) false false 0) 67)
  obtain ⟨w6, hw6⟩ : ∃ w6, w5.alloc (.cells (lsCells none 0 (.slice none 0 0) false false 0) 67) = w6 := ⟨_, rfl⟩
  have HW6 := Lib.hid hw6
  rw [hw6] at hC kC hA3 hB3
  have S4 := Lib.hid sA
  have S5 := Lib.hid sB
  have HA := Lib.hid hA3
  have HB := Lib.hid hB3
  have HC := Lib.hid hC
  have HK := Lib.hid kC
  have HS6 := Lib.hid (show b4 ≤ w6.heap.size from by have := HA.out.lt; omega)
  obtain ⟨b5, hb5⟩ : ∃ b, b4 + 1 = b := ⟨_, rfl⟩
  obtain ⟨b6, hb6⟩ : ∃ b, b4 + 2 = b := ⟨_, rfl⟩
  rw [hb5] at HB S4
  rw [hb6] at HC S5
  rw [hb4]
  clear hA kA sA hB kB sB hC kC hA2 hA3 hB3 hw4 hw5 hw6 hb4 hb5 hb6
  go_enter Try.func5, Try.ntmps5
  go_upto_region 7 with (first
    | ((with_reducible refine wpList_alloc_c (o := ⟨some 4, .alloc 62, _, _, _, _⟩) (snCells (sn0 none 0)) run_alloc_sn ?hg ?ho b4 ?hz ?_); (case hg => rfl); (case ho => rfl); (case hz => exact H4.out); rw [HW4.out])
    | ((with_reducible refine wpList_alloc_c (o := ⟨some 5, .alloc 64, _, _, _, _⟩) stCells0 run_alloc_st ?hg ?ho b5 ?hz ?_); (case hg => rfl); (case ho => rfl); (case hz => exact S4.out); rw [HW5.out])
    | ((with_reducible refine wpList_alloc_c (o := ⟨some 6, .alloc 67, _, _, _, _⟩) (lsCells none 0 (.slice none 0 0) false false 0) run_alloc_ls ?hg ?ho b6 ?hz ?_); (case hg => rfl); (case ho => rfl); (case hz => exact S5.out); rw [HW6.out]))
  simp [Act.put]
  go_wp2_with (fail)
  refine (step_nil w6).mono ?_
  rintro e w' ⟨rfl, rfl⟩
  go_wp2_with (fail)
  refine (step_zero w6 b4 HA.out).mono ?_
  rintro e w' ⟨rfl, rfl⟩
  go_wp2_with (fail)
  refine (still_nil w6).mono ?_
  rintro e w' ⟨rfl, rfl⟩
  go_wp2_with (fail)
  refine (still_zero w6 b5 HB.out).mono ?_
  rintro e w' ⟨rfl, rfl⟩
  go_wp2_with (fail)
  refine (last_nil w6).mono ?_
  rintro e w' ⟨rfl, rfl⟩
  go_wp2_with (fail)
  refine (last_zero w6 b6 HC.out).mono ?_
  rintro e w' ⟨rfl, rfl⟩
  go_wp2_with (fail)
  refine (node_nil w6).mono ?_
  rintro e w7 ⟨rfl, hB7⟩
  have hz := Blk.new w7 (ndCells nd0) 40
  have k8 : Below w6.heap.size w6 ((w7.alloc (.cells (ndCells nd0) 40)).setRow w7.heap.size (ndCells nd0)) := below_setRow (hB7.alloc hB7.size _) hB7.size _
  have HZ := Lib.hid hz
  obtain ⟨w8, hw8⟩ : ∃ w8, (w7.alloc (.cells (ndCells nd0) 40)).setRow w7.heap.size (ndCells nd0) = w8 := ⟨_, rfl⟩
  have HW8 := Lib.hid hw8
  rw [hw8] at k8
  have HB8 := Lib.hid (HB.out.kept (Keeps.of_below' k8) (fun h => h))
  have HK8 := Lib.hid (HK.out.trans (k8.mono HS6.out))
  have HS8 := Lib.hid (Nat.le_trans HS6.out k8.size)
  clear hz hw8 k8 hB7
  go_upto_region 14 with (first
    | ((with_reducible refine wpList_alloc_nd (o := ⟨some 19, _, _, _, _, _⟩) rfl rfl ?_))
    | ((with_reducible refine wpList_store_ndc (o := ⟨none, .store 40 (.tmp 19) (.tmp 58), _, _, _, _⟩) ?hgc (.tmp 19) (.tmp 58) ?hoc w7.heap.size (ndCells nd0) nd0 nd0 ?hxc ?hyc ?hbc ?hmc ?_); (case hgc => rfl); (case hoc => rfl); (case hxc => exact ev_tmp (by simp [Act.put])); (case hyc => exact ev_tmp (by simp [Act.put])); (case hmc => rfl); (case hbc => exact HZ.out); rw [HW8.out]; simp [Act.put]))
  go_wp2_with (fail)
  refine (new_v none 64 w8).mono ?_
  rintro e w9 ⟨rfl, hb9, hB9⟩
  obtain ⟨sb, hsb⟩ : ∃ sb, w8.heap.size = sb := ⟨_, rfl⟩
  rw [hsb] at hb9 ⊢
  have HS9 := Lib.hid (show b4 ≤ sb ∧ b5 < sb from ⟨by rw [← hsb]; exact HS8.out, by have := HB8.out.lt; omega⟩)
  have HB9 := Lib.hid (HB8.out.kept (Keeps.of_below' hB9) (fun h => h))
  have HK9 := Lib.hid (HK8.out.trans (hB9.mono HS8.out))
  have HSt := Lib.hid (step_new w9 sb hb9)
  have HSz9 := Lib.hid (Nat.le_trans HS8.out hB9.size)
  clear hb9 hB9 hsb
  go_wp2_with (fail)
  refine HSt.out.mono ?_
  rintro e w10 ⟨rfl, hk10⟩
  have HB10 := Lib.hid (HB9.out.kept hk10 (by have := HS9.out.2; omega))
  have HK10 := Lib.hid (below_one HK9.out hk10 HS9.out.1 HSz9.out)
  have HS10 := Lib.hid (Nat.le_trans HSz9.out hk10.size)
  clear hk10 HSt
  go_wp2_with (fail)
  refine (newlast_v w10).mono ?_
  rintro e w11 ⟨rfl, hb11, hB11⟩
  obtain ⟨lb, hlb⟩ : ∃ lb, w10.heap.size = lb := ⟨_, rfl⟩
  rw [hlb] at hb11 ⊢
  have HL := Lib.hid (show b4 ≤ lb ∧ b5 < lb from ⟨by rw [← hlb]; exact HS10.out, by have := HB10.out.lt; omega⟩)
  have HB11 := Lib.hid (HB10.out.kept (Keeps.of_below' hB11) (fun h => h))
  have HK11 := Lib.hid (HK10.out.trans (hB11.mono HS10.out))
  have HS11 := Lib.hid (Nat.le_trans HS10.out hB11.size)
  have HSt := Lib.hid (last_new w11 lb hb11)
  clear hb11 hB11 hlb
  go_wp2_with (fail)
  refine HSt.out.mono ?_
  rintro e w12 ⟨rfl, hk12⟩
  have HB12 := Lib.hid (HB11.out.kept hk12 (by have := HL.out.2; omega))
  have HK12 := Lib.hid (below_one HK11.out hk12 HL.out.1 HS11.out)
  have HS12 := Lib.hid (Nat.le_trans HS11.out hk12.size)
  clear hk12 HSt
  go_wp2_with (fail)
  refine (high_nil w12).mono ?_
  rintro e w13 ⟨rfl, hB13⟩
  have HB13 := Lib.hid (HB12.out.kept (Keeps.of_below' hB13) (fun h => h))
  have HK13 := Lib.hid (HK12.out.trans (hB13.mono HS12.out))
  have HS13 := Lib.hid (Nat.le_trans HS12.out hB13.size)
  clear hB13
  go_wp2_with (fail)
  refine (lines_v w13).mono ?_
  rintro e w14 ⟨rfl, hb14, hB14⟩
  have HB14 := Lib.hid (HB13.out.kept (Keeps.of_below' hB14) (fun h => h))
  have HK14 := Lib.hid (HK13.out.trans (hB14.mono HS13.out))
  have HS14 := Lib.hid (Nat.le_trans HS13.out hB14.size)
  have g0 : w14.cell? ⟨w13.heap.size, 0, none⟩ = some (.int .u64 64) := hb14.cell 0
  have g2 : w14.cell? ⟨w13.heap.size, 2, none⟩ = some (.int .u64 192) := hb14.cell 2
  have hs1 := same_nil w14
  have hs2 := same_zero w14 b5 HB14.out
  have HS1 := Lib.hid hs1
  have HS2 := Lib.hid hs2
  have HKn := Lib.hid (known_v w14)
  obtain ⟨lb2, hlb2⟩ : ∃ lb, w13.heap.size = lb := ⟨_, rfl⟩
  rw [hlb2] at g0 g2 ⊢
  clear hs1 hs2 hb14 hB14 hlb2
  go_wp2_with (fail)
  refine HS1.out.mono ?_
  rintro e w' ⟨rfl, rfl⟩
  go_wp2_with (fail)
  refine HS2.out.mono ?_
  rintro e w' ⟨rfl, rfl⟩
  go_wp2_with (fail)
  refine HKn.out.mono ?_
  rintro e w15 ⟨rfl, hB15⟩
  have HK15 := Lib.hid (HK14.out.trans (hB15.mono HS14.out))
  clear hB15
  go_wp2_with (fail)
  go_ret
  exact ⟨rfl, HK15.out⟩
end Go.Proofs.Ytgmbnoimlffgcaa
