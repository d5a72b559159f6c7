/-
  leveelaw11.known: the walk.
-/
import Derived.Test.YtgmbnoimlffgcaaSnm
namespace Go.Proofs.Ytgmbnoimlffgcaa
open Go.RowKit
attribute [local go_sem] Oper.semAt_some
set_option linter.unusedVariables false

set_option maxRecDepth 100000 in
set_option maxHeartbeats 16000000 in
theorem known_v (w : World) : Calls Try.prog 8 #[] w fun e w' => e = .returned (.bool true) ∧ Below w.heap.size w w' := by
  obtain ⟨nb, hnb⟩ : ∃ nb, w.heap.size = nb := ⟨_, rfl⟩
  have hb0 : Blk (w.alloc (.cells (ndCells nd0) 40)) nb (ndCells nd0) 40 := by rw [← hnb]; exact Blk.new w _ _
  have hb1 := hb0.row (ndCells ndF)
  have k1 : Below nb w ((w.alloc (.cells (ndCells nd0) 40)).setRow nb (ndCells ndF)) := below_setRow ((Below.refl nb w).alloc (by omega) _) (Nat.le_refl _) _
  have HB0 := Lib.hid hb0
  obtain ⟨w1, hw1⟩ : ∃ w1, (w.alloc (.cells (ndCells nd0) 40)).setRow nb (ndCells ndF) = w1 := ⟨_, rfl⟩
  have HW1 := Lib.hid hw1
  have HNb := Lib.hid hnb
  rw [hw1] at hb1 k1
  have HB1 := Lib.hid hb1
  have HK1 := Lib.hid k1
  have d5 : w1.cell? ⟨nb, 5, none⟩ = some (.int .u64 0) := hb1.cell 5
  have d13 : w1.cell? ⟨nb, 13, none⟩ = some (.int .u64 0) := hb1.cell 13
  have d6 : w1.cell? ⟨nb, 6, none⟩ = some (.int .u64 0) := hb1.cell 6
  have d14 : w1.cell? ⟨nb, 14, none⟩ = some (.int .u64 0) := hb1.cell 14
  have f5 := hb1.frozen 5
  have f13 := hb1.frozen 13
  have f6 := hb1.frozen 6
  have f14 := hb1.frozen 14
  clear hb0 hb1 k1 hw1
  rw [hnb]
  clear hnb
  go_enter Try.func8, Try.ntmps8
  go_upto_region 2 with (first
    | ((with_reducible refine wpList_alloc_ndAt (o := ⟨some 1, _, _, _, _, _⟩) rfl rfl nb ?hz ?_); (case hz => exact HNb.out))
    | ((with_reducible refine wpList_store_ndc (o := ⟨none, .store 40 (.tmp 1) (.tmp 13), _, _, _, _⟩) ?hgc (.tmp 1) (.tmp 13) ?hoc nb ?csc ndF nd0 ?hxc ?hyc ?hbc ?hmc ?_); (case hgc => rfl); (case hoc => rfl); (case hxc => exact ev_tmp (by simp [Act.put])); (case hyc => exact ev_tmp (by simp [Act.put]; rfl)); (case hmc => rfl); (case hbc => exact HB0.out); rw [HW1.out]; simp [Act.put]))
  go_upto_region 4 with (fail)
  have hb4 : Blk ((((w1.setCell ⟨nb, 5, none⟩ (.int .u64 5)).setCell ⟨nb, 13, none⟩ (.int .u64 2112)).setCell ⟨nb, 6, none⟩ (.int .u64 9)).setCell ⟨nb, 14, none⟩ (.int .u64 2176)) nb (ndCells n0) 40 :=
    (((HB1.out.setk 0 (by decide) 5).setp 0 (by decide) 2112).setk 1 (by decide) 9).setp 1 (by decide) 2176
  have hk4 : Below nb w ((((w1.setCell ⟨nb, 5, none⟩ (.int .u64 5)).setCell ⟨nb, 13, none⟩ (.int .u64 2112)).setCell ⟨nb, 6, none⟩ (.int .u64 9)).setCell ⟨nb, 14, none⟩ (.int .u64 2176)) :=
    (((HK1.out.setCell (p := ⟨nb, 5, none⟩) (Nat.le_refl _) _).setCell (p := ⟨nb, 13, none⟩) (Nat.le_refl _) _).setCell (p := ⟨nb, 6, none⟩) (Nat.le_refl _) _).setCell (p := ⟨nb, 14, none⟩) (Nat.le_refl _) _
  generalize (((w1.setCell ⟨nb, 5, none⟩ (.int .u64 5)).setCell ⟨nb, 13, none⟩ (.int .u64 2112)).setCell ⟨nb, 6, none⟩ (.int .u64 9)).setCell ⟨nb, 14, none⟩ (.int .u64 2176) = w4 at *
  have HB4 := Lib.hid hb4
  have HK4 := Lib.hid hk4
  have HL4 := Lib.hid (show ∀ j v, (ndCells n0)[j]? = some v → w4.cell? ⟨nb, 0 + j, none⟩ = some v from ndLoad hb4)
  have HLa := Lib.hid (laid_v n0 n0_lv (fun i => wordsF_rng n0_wf i) 0 (by decide) (by decide) w4)
  clear hb4 hk4 d5 d13 d6 d14 f5 f13 f6 f14 HB1 HK1 HB0 HW1
  go_wp2_with ((with_reducible refine wpList_load_part (o := ⟨some 22, .load 40 (.tmp 1), _, _, _, _⟩) ?hg 40 (.tmp 1) ?ho nb 0 ?hx (ndCells n0) ?dd ?hc ?hu ?hd ?hi ?_); (case hg => rfl); (case ho => rfl); (case hx => rfl); (case hc => exact HL4.out); (case hu => exact Try.underlying40); (case hd => rfl); (case hi => exact info27 n0))
  refine HLa.out.mono ?_
  rintro e w5 ⟨mb, S, vs, rfl, hm5, hu5, hl5, hv5, _, hS5, hB5⟩
  have HM5 := Lib.hid hm5
  have HU5 := Lib.hid hu5
  have HL5 := Lib.hid hl5
  have HV5 := Lib.hid hv5
  have HS5 := Lib.hid (show ∀ i, S i → w4.heap.size ≤ i ∧ i < w5.heap.size from fun i hi => ⟨hS5 i hi, by obtain ⟨is, mk, F, hm⟩ := hm5; exact hm.lt hi⟩)
  have HN5 := Lib.hid (HB4.out.kept (Keeps.of_below' hB5) (fun h => h))
  have HB5 := Lib.hid (HK4.out.trans (hB5.mono (by rw [← HNb.out]; exact HK4.out.size)))
  have HN4 := Lib.hid HB4.out.lt
  clear hm5 hu5 hl5 hv5 hS5 hB5 HLa HL4 HK4 HB4
  go_wp2_with (fail)
  refine (new_v (some ⟨mb, 0, none⟩) 1088 w5).mono ?_
  rintro e w6 ⟨rfl, hb6, hB6⟩
  obtain ⟨sb, hsb⟩ : ∃ sb, w5.heap.size = sb := ⟨_, rfl⟩
  rw [hsb] at hb6 ⊢
  have hS6 : ¬ S sb := fun h => by have := (HS5.out sb h).2; omega
  have HS6 := Lib.hid hS6
  have HSb := Lib.hid hsb
  have HNo := Lib.hid (show Calls Try.prog 12 #[.pointer (some ⟨sb, 0, none⟩)] w6 fun e w' => e = .returned (.tuple #[.agg (ndCells nd0), .int .i64 7]) ∧ Below w6.heap.size w6 w' from node_v (snNew sb (some ⟨mb, 0, none⟩) 1088) sb 53 w6 hb6 rfl)
  have HB6 := Lib.hid hb6
  have HK6 := Lib.hid hB6
  clear hS6 hsb hb6 hB6
  go_wp2_with (fail)
  refine HNo.out.mono ?_
  rintro e w7 ⟨rfl, hB7⟩
  have hz8 := Blk.new w7 (ndCells nd0) 40
  have k8 : Below w7.heap.size w7 ((w7.alloc (.cells (ndCells nd0) 40)).setRow w7.heap.size (ndCells nd0)) := below_setRow ((Below.refl _ w7).alloc (Nat.le_refl _) _) (Nat.le_refl _) _
  have HZ8 := Lib.hid hz8
  have hB67 := hB7.trans (k8.mono hB7.size)
  obtain ⟨w8, hw8⟩ : ∃ w8, (w7.alloc (.cells (ndCells nd0) 40)).setRow w7.heap.size (ndCells nd0) = w8 := ⟨_, rfl⟩
  have HW8 := Lib.hid hw8
  rw [hw8] at hB67
  have hB58 := HK6.out.trans (hB67.mono HK6.out.size)
  have HI8 := Lib.hid (show SnW w8 sb mb S vs 1088 48 6 1 0 w8 from ⟨⟨_, HB6.out.kept (Keeps.of_below' hB67) (fun h => h), SnI.new _ _ _ _⟩, ⟨0, by obtain ⟨is, mk, F, hm⟩ := HM5.out; exact ⟨is, mk, F, hm.below hB58⟩⟩, Keeps.refl _ _⟩)
  have HN8 := Lib.hid (HN5.out.kept (Keeps.of_below' hB58) (fun h => h))
  have HB8 := Lib.hid (HB5.out.trans (hB58.mono (by rw [← HNb.out]; exact HB5.out.size)))
  have HX8 := Lib.hid (show (∀ i, (i = sb ∨ S i) → nb < i) from fun i hi => by
    have h1 := HN4.out
    rcases hi with rfl | hi
    · have h2 := HN5.out.lt; have := HSb.out; omega
    · have := (HS5.out i hi).1; omega)
  have HQ8 := Lib.hid (show nb ≤ w8.heap.size from by have := HN8.out.lt; omega)
  clear hz8 k8 hB67 hw8 hB58 hB7 HNo HK6 HB6
  go_upto_region 9 with (first
    | ((with_reducible refine wpList_alloc_nd (o := ⟨some 4, _, _, _, _, _⟩) rfl rfl ?_))
    | ((with_reducible refine wpList_store_ndc (o := ⟨none, .store 40 (.tmp 4) (.tmp 31), _, _, _, _⟩) ?hgc (.tmp 4) (.tmp 31) ?hoc w7.heap.size (ndCells nd0) nd0 nd0 ?hxc ?hyc ?hbc ?hmc ?_); (case hgc => rfl); (case hoc => rfl); (case hxc => exact ev_tmp (by simp [Act.put])); (case hyc => exact ev_tmp (by simp [Act.put])); (case hmc => rfl); (case hbc => exact HZ8.out); rw [HW8.out]; simp [Act.put]))
  go_wp2_with (fail)
  go_loopw [6, 7, 8] (fun iv dv ev wq => ∃ k : Nat, iv = .int .i64 k ∧ SnW w8 sb mb S vs 1088 48 6 1 k wq) (fun iv _ _ _ => 64 - (intOf iv).toNat)
  case atStart => exact ⟨0, rfl, HI8.out⟩
  case round =>
    obtain ⟨k, rfl, hI⟩ := hrel
    have hk42 : k ≤ 42 := by obtain ⟨⟨s, _, hs⟩, _, _⟩ := hI; exact hs.le
    have hkb : (k : Int) < 64 := by omega
    have HK42 := Lib.hid hk42
    have HSt := Lib.hid (step_w hI HS6.out HU5.out)
    clear hI hk42
    go_wp2_with (fail)
    refine HSt.out.mono ?_
    rintro e w9 (⟨rfl, hI⟩ | ⟨er, rfl, hZ⟩)
    · have HI := Lib.hid hI
      clear hI
      go_wp2_with (fail)
      go_roundw
      case rel => exact ⟨k + 1, by go_num, HI.out⟩
      case measure => have := HK42.out; simp [intOf]; omega
    · obtain ⟨⟨s, hb9, hD⟩, ⟨lo9, hm9⟩, hk9⟩ := hZ
      obtain ⟨rfl, hfo, hha⟩ := known_over HL5.out HV5.out hD
      obtain ⟨f, hf⟩ := hD.step
      have hnp : nodeP s = (s.found, 0) := by unfold nodeP; rw [hD.over, if_neg (by decide), hD.e, if_neg (fun h => h rfl)]
      have hhp : highP s = (0, false) := by unfold highP; rw [hnp, hha]; rfl
      have HNo := Lib.hid (show Calls Try.prog 12 #[.pointer (some ⟨sb, 0, none⟩)] w9 fun e w' => e = .returned (.tuple #[.agg (ndCells n0), .int .i64 0]) ∧ Below w9.heap.size w9 w' from by
        have := node_v s sb f w9 hb9 hf
        rw [hnp] at this
        rw [← hfo]; exact this)
      have HHi := Lib.hid (show ∀ W, Below w9.heap.size w9 W → Calls Try.prog 13 #[.pointer (some ⟨sb, 0, none⟩)] W fun e w' => e = .returned (.tuple #[.int .u64 0, .bool false]) ∧ Below W.heap.size W w' from fun W hB => by
        have := high_v s sb f W (hb9.kept (Keeps.of_below' hB) (fun h => h)) hf
        rw [hhp] at this
        exact this)
      have HN9 := Lib.hid (HN8.out.kept hk9 (fun h => by have := HX8.out nb h; omega))
      have HB9 := Lib.hid (show Below nb w w9 from HB8.out.trans ⟨hk9.os, hk9.tape, hk9.output, hk9.size, fun i hi => hk9.block i (Nat.lt_of_lt_of_le hi HQ8.out) (fun h => by have := HX8.out i h; omega)⟩)
      clear hnp hhp hf hD hfo hha hb9 hm9 hk9
      go_wp2_with (fail)
      refine HNo.out.mono ?_
      rintro e w10 ⟨rfl, hB10⟩
      have hz := Blk.new w10 (ndCells nd0) 40
      have hzr := hz.row (ndCells n0)
      have k11 : Below w9.heap.size w9 ((w10.alloc (.cells (ndCells nd0) 40)).setRow w10.heap.size (ndCells n0)) := below_setRow (hB10.alloc hB10.size _) hB10.size _
      obtain ⟨xb, hxb⟩ : ∃ xb, w10.heap.size = xb := ⟨_, rfl⟩
      rw [hxb] at hz hzr k11
      have HXb := Lib.hid hxb
      have HZ := Lib.hid hz
      obtain ⟨w11, hw11⟩ : ∃ w11, (w10.alloc (.cells (ndCells nd0) 40)).setRow xb (ndCells n0) = w11 := ⟨_, rfl⟩
      have HW11 := Lib.hid hw11
      rw [hw11] at hzr k11
      have HX11 := Lib.hid hzr
      have HK11 := Lib.hid k11
      have HN11 := Lib.hid (HN9.out.kept (Keeps.of_below' k11) (fun h => h))
      clear hz hzr hxb hw11 k11 HNo hB10
      go_upto_region 17 with (first
        | ((with_reducible refine wpList_alloc_ndAt (o := ⟨some 9, _, _, _, _, _⟩) rfl rfl xb ?hz ?_); (case hz => exact HXb.out))
        | ((with_reducible refine wpList_store_ndc (o := ⟨none, .store 40 (.tmp 9) (.tmp 48), _, _, _, _⟩) ?hgc (.tmp 9) (.tmp 48) ?hoc xb (ndCells n0) n0 nd0 ?hxc ?hyc ?hbc ?hmc ?_); (case hgc => rfl); (case hoc => rfl); (case hxc => exact ev_tmp (by simp [Act.put])); (case hyc => exact ev_tmp (by simp [Act.put])); (case hmc => rfl); (case hbc => exact HZ.out); rw [HW11.out]; simp [Act.put]))
      go_wp2_with (fail)
      refine (HHi.out w11 HK11.out).mono ?_
      rintro e w12 ⟨rfl, hB12⟩
      have HX12 := Lib.hid (HX11.out.kept (Keeps.of_below' hB12) (fun h => h))
      have HN12 := Lib.hid (HN11.out.kept (Keeps.of_below' hB12) (fun h => h))
      have HB12 := Lib.hid (HB9.out.trans ((HK11.out.trans (hB12.mono HK11.out.size)).mono (by rw [← HNb.out]; exact HB9.out.size)))
      obtain ⟨nn, hnn⟩ : ∃ nn, n0 = nn := ⟨_, rfl⟩
      rw [hnn] at HX12 HN12 ⊢
      have hq := eq_nd nn w12
      clear hB12 HHi hnn
      go_wp2_with (first
        | ((with_reducible refine wpList_load_ndg (o := ⟨some 62, .load 40 (.tmp 9), _, _, _, _⟩) ?hw (.tmp 9) ?ho xb nn ?hx ?hb ?_); (case hw => rfl); (case ho => rfl); (case hx => exact ev_tmp (by simp)); (case hb => exact HX12.out))
        | ((with_reducible refine wpList_load_ndg (o := ⟨some 63, .load 40 (.tmp 1), _, _, _, _⟩) ?hw2 (.tmp 1) ?ho2 nb nn ?hx2 ?hb2 ?_); (case hw2 => rfl); (case ho2 => rfl); (case hx2 => exact ev_tmp (by simp [Act.put])); (case hb2 => exact HN12.out))
        | ((with_reducible refine wpList_eq_ndg _ 62 63 _ _ _ _ nn ?hw3 ?hx3 ?hy3 ?_); (case hw3 => rfl); (case hx3 => simp [Act.put]); (case hy3 => simp [Act.put])))
      go_ret
      exact ⟨rfl, HB12.out⟩
end Go.Proofs.Ytgmbnoimlffgcaa
