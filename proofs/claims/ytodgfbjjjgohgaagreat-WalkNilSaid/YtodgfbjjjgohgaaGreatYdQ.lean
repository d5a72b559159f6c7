/-
  THE LAW WalkNil: a contract.
-/
import Derived.Test.YtodgfbjjjgohgaaGreatYbQ
namespace Go.Proofs.YtodgfbjjjgohgaaGreat
open Go.RowKit
attribute [local go_sem] Oper.semAt_some
set_option linter.unusedVariables false

def wk0 : Wk := { s := none, client := 0, key := 0, level := 0, at_ := 0, n := nd0, high := 0, has := false, low := 0, tto := 0, under := .nilIface, next := .nilFunc, over := false, e := 0 }
theorem wpList_alloc_wk {ops : Array Oper} {rest : List Oper} {o : Oper} {a : Act} {w : World} {Q : Exit → Act → World → Prop} (hgd : o.guard = none) (ho : o.op = .alloc 70) (H : Nat) (hH : w.heap.size = H)
    (h : wpList Tryz.prog ops Q rest (a.put o.dst (.pointer (some ⟨H, 0, none⟩))) (w.alloc (.cells (wkCells wk0) 70))) : wpList Tryz.prog ops Q (o :: rest) a w := by
  subst hH
  refine wpList_plain hgd fun K hK => ?_
  unfold Oper.wp execOp
  simp only [ho]
  go_simp
  exact hK _ _ h
set_option maxRecDepth 100000 in
set_option maxHeartbeats 8000000 in
theorem walknil_v (w : World) : Calls Tryz.prog 5 #[] w fun e w' => e = .returned (.bool true) ∧ Below w.heap.size w w' := by
  obtain ⟨zb, hzb⟩ : ∃ zb, w.heap.size = zb := ⟨_, rfl⟩
  have Hzb := Lib.hid hzb
  have hb0 := Blk.new w (wkCells wk0) 70
  have hB0 : Below zb w (w.alloc (.cells (wkCells wk0) 70)) := by rw [← hzb]; exact (Below.refl _ w).alloc (Nat.le_refl _) _
  rw [hzb] at hb0
  obtain ⟨w1, hw1⟩ : ∃ w1, w.alloc (.cells (wkCells wk0) 70) = w1 := ⟨_, rfl⟩
  rw [hw1] at hb0 hB0
  have HW1 := Lib.hid hw1
  have HB1 := Lib.hid hB0
  have Hb1 := Lib.hid hb0
  rw [hzb]
  clear hb0 hB0 hw1 hzb
  go_enter Tryz.func5, Tryz.ntmps5
  go_upto_region 3 with ((with_reducible refine wpList_alloc_wk (o := ⟨some 2, _, _, _, _, _⟩) ?ha ?hb zb ?hz ?_); (case ha => rfl); (case hb => rfl); (case hz => exact Hzb.out))
  rw [HW1.out]
  clear HW1
  go_wp2_with (fail)
  refine (wstep_nil w1).mono ?_
  rintro e w2 ⟨rfl, rfl⟩
  go_wp2_with (fail)
  refine (wstep_zero w1 zb wk0 Hb1.out rfl).mono ?_
  rintro e w2 ⟨rfl, rfl⟩
  go_wp2_with (fail)
  refine (wat_nil w1).mono ?_
  rintro e w2 ⟨rfl, hB2⟩
  have hz := Blk.new w2 (ndCells nd0) 46
  have kx : Below w1.heap.size w1 ((w2.alloc (.cells (ndCells nd0) 46)).setRow w2.heap.size (ndCells nd0)) := below_setRow (hB2.alloc hB2.size _) hB2.size _
  obtain ⟨x1, hx⟩ : ∃ x, w2.heap.size = x := ⟨_, rfl⟩
  rw [hx] at hz kx
  have HXz2 := Lib.hid hx
  have HZ2 := Lib.hid hz
  obtain ⟨w3, hw8⟩ : ∃ w8, (w2.alloc (.cells (ndCells nd0) 46)).setRow x1 (ndCells nd0) = w8 := ⟨_, rfl⟩
  have HWz2 := Lib.hid hw8
  rw [hw8] at kx
  have HKx2 := Lib.hid kx
  clear hz hx hw8 kx hB2
  go_upto_region 6 with (first
    | ((with_reducible refine wpList_alloc_ndAt (o := ⟨some 8, _, _, _, _, _⟩) rfl rfl x1 ?hz2 ?_); (case hz2 => exact HXz2.out))
    | ((with_reducible refine wpList_store_ndc (o := ⟨none, .store 46 (.tmp 8) (.tmp 34), _, _, _, _⟩) ?hgc2 (.tmp 8) (.tmp 34) ?hoc2 x1 (ndCells nd0) nd0 nd0 ?hxc2 ?hyc2 ?hbc2 ?hmc2 ?_); (case hgc2 => rfl); (case hoc2 => rfl); (case hxc2 => exact ev_tmp (by simp)); (case hyc2 => exact ev_tmp (by simp)); (case hmc2 => rfl); (case hbc2 => exact HZ2.out)))
  rw [HWz2.out]
  clear HWz2 HZ2 HXz2
  have HHi := Lib.hid (whigh_zero w3 zb wk0 (Hb1.out.below HKx2.out Hb1.out.lt) rfl)
  have HB3 := Lib.hid (HB1.out.trans (HKx2.out.mono (by have := HB1.out.size; have := Hzb.out; omega)))
  clear HKx2 Hb1 HB1
  go_wp2_with (fail)
  refine HHi.out.mono ?_
  rintro e w4 ⟨rfl, hB4⟩
  have HB4 := Lib.hid (HB3.out.trans (hB4.mono (by have := HB3.out.size; have := Hzb.out; omega)))
  clear hB4 HB3 HHi
  go_wp2_with (fail)
  refine (whop_nil w4).mono ?_
  rintro e w5 ⟨rfl, rfl⟩
  go_wp2_with (fail)
  refine (wnew_v none 0 1 0 w4).mono ?_
  rintro e w5 ⟨rfl, hb5, hB5⟩
  obtain ⟨kb, hkb⟩ : ∃ kb, w4.heap.size = kb := ⟨_, rfl⟩
  rw [hkb] at hb5 hB5 ⊢
  have HSt := Lib.hid (wstep_nos w5 kb _ hb5 rfl rfl rfl)
  have HB5 := Lib.hid (HB4.out.trans (hB5.mono (by have := HB4.out.size; have := Hzb.out; omega)))
  have Hkb := Lib.hid (show zb ≤ kb from by have := HB4.out.size; have := Hzb.out; omega)
  clear hb5 hB5 hkb HB4
  go_wp2_with (fail)
  refine HSt.out.mono ?_
  rintro e w6 ⟨rfl, hb6, hk6⟩
  have HAt := Lib.hid (wat_err w6 kb _ hb6 rfl rfl rfl)
  have HB6 := Lib.hid (show Below zb w w6 from ⟨hk6.os.trans HB5.out.os, hk6.tape.trans HB5.out.tape, hk6.output.trans HB5.out.output, Nat.le_trans HB5.out.size hk6.size, fun i hi => (hk6.block i (by have := HB5.out.size; have := Hzb.out; omega) (fun e => by have := Hkb.out; omega)).trans (HB5.out.block i hi)⟩)
  clear hb6 hk6 HSt HB5
  go_wp2_with (fail)
  refine HAt.out.mono ?_
  rintro e w7 ⟨rfl, hB7⟩
  clear HAt
  have hB2 := hB7
  clear hB7
  have hz := Blk.new w7 (ndCells nd0) 46
  have kx : Below w6.heap.size w6 ((w7.alloc (.cells (ndCells nd0) 46)).setRow w7.heap.size (ndCells nd0)) := below_setRow (hB2.alloc hB2.size _) hB2.size _
  obtain ⟨x2, hx⟩ : ∃ x, w7.heap.size = x := ⟨_, rfl⟩
  rw [hx] at hz kx
  have HXz3 := Lib.hid hx
  have HZ3 := Lib.hid hz
  obtain ⟨w8, hw8⟩ : ∃ w8, (w7.alloc (.cells (ndCells nd0) 46)).setRow x2 (ndCells nd0) = w8 := ⟨_, rfl⟩
  have HWz3 := Lib.hid hw8
  rw [hw8] at kx
  have HKx3 := Lib.hid kx
  clear hz hx hw8 kx hB2
  go_upto_region 11 with (first
    | ((with_reducible refine wpList_alloc_ndAt (o := ⟨some 19, _, _, _, _, _⟩) rfl rfl x2 ?hz3 ?_); (case hz3 => exact HXz3.out))
    | ((with_reducible refine wpList_store_ndc (o := ⟨none, .store 46 (.tmp 19) (.tmp 56), _, _, _, _⟩) ?hgc3 (.tmp 19) (.tmp 56) ?hoc3 x2 (ndCells nd0) nd0 nd0 ?hxc3 ?hyc3 ?hbc3 ?hmc3 ?_); (case hgc3 => rfl); (case hoc3 => rfl); (case hxc3 => exact ev_tmp (by simp)); (case hyc3 => exact ev_tmp (by simp)); (case hmc3 => rfl); (case hbc3 => exact HZ3.out)))
  rw [HWz3.out]
  clear HWz3 HZ3 HXz3
  have HB8 := Lib.hid (HB6.out.trans (HKx3.out.mono (by have := HB6.out.size; have := Hzb.out; omega)))
  have HKn := Lib.hid (known_v w8)
  clear HKx3 HB6
  go_wp2_with (fail)
  refine HKn.out.mono ?_
  rintro e w9 ⟨rfl, hB9⟩
  have HB9 := Lib.hid (HB8.out.trans (hB9.mono (by have := HB8.out.size; have := Hzb.out; omega)))
  clear hB9 HB8 HKn
  go_wp2_with (fail)
  go_ret
  exact ⟨rfl, HB9.out⟩
end Go.Proofs.YtodgfbjjjgohgaaGreat
