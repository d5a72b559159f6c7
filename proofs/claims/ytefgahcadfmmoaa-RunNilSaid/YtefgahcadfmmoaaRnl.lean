/-
  The law RunNil.
-/
import Derived.Test.YtefgahcadfmmoaaRkn
namespace Go.Proofs.Ytefgahcadfmmoaa
open Go.RowKit
attribute [local go_sem] Oper.semAt_some
set_option linter.unusedVariables false

def rnZero : Rn := { mv := none, c := 0, sl := .slice none 0 0, at_ := 0, next := .nilFunc, over := false, e := 0 }
set_option maxRecDepth 100000 in
set_option maxHeartbeats 4000000 in
theorem rnil_v (w : World) : Calls Try.prog 4 #[] w fun e w' => e = .returned (.bool true) ∧ Below w.heap.size w w' := by
  obtain ⟨zb, hzb⟩ : ∃ zb, w.heap.size = zb := ⟨_, rfl⟩
  obtain ⟨w1, hw1⟩ : ∃ w1, w1 = w.alloc (.cells (rnCells rnZero) 41) := ⟨_, rfl⟩
  have hB1 : Below w.heap.size w w1 := by rw [hw1]; exact (Below.refl _ w).alloc (Nat.le_refl _) _
  have hbz : Blk w1 zb (rnCells rnZero) 41 := by rw [hw1, ← hzb]; exact Blk.new w _ _
  have HS0 := Lib.hid (rstep_nil w1)
  have HS1 := Lib.hid (rstep_zero w1 zb rnZero hbz rfl)
  obtain ⟨w2, hw2⟩ : ∃ w2, w2 = w1.alloc (.cells #[.int .u64 8, .int .u64 0] 25) := ⟨_, rfl⟩
  have hB2 : Below w1.heap.size w1 w2 := by rw [hw2]; exact (Below.refl _ w1).alloc (Nat.le_refl _) _
  have hpo : w2.ownsRow 0 25 2 (.slice (some ⟨w1.heap.size, 0, none⟩) 1 1) 1 (ecells [(8, 0)]) := by rw [hw2]; exact World.ownsRow_lit w1 _ 1 (Nat.zero_le _) (by decide) rfl
  have HN := Lib.hid (rnew_v none 0 _ [(8, 0)] w2 hpo (by decide))
  have HZ := Lib.hid hbz
  have HBz := Lib.hid (hB1.trans (hB2.mono hB1.size))
  have HZb := Lib.hid hzb
  have HB2 := Lib.hid hB2
  have hq0 : w.alloc (.cells #[.pointer none, .int .i64 0, .slice none 0 0, .int .i64 0, .nilFunc, .bool false, .int .i64 0] 41) = w1 := by rw [hw1]; rfl
  have HQ := Lib.hid (And.intro hq0 hw2.symm)
  clear hB1 hbz hB2 hpo hq0 hw1 hw2
  go_enter Try.func4, Try.ntmps4
  go_wp2_with (fail)
  rw [HQ.out.1]
  refine HS0.out.mono ?_
  rintro e w' ⟨rfl, rfl⟩
  go_wp2_with (fail)
  refine HS1.out.mono ?_
  rintro e w' ⟨rfl, rfl⟩
  go_wp2_with (fail)
  rw [HQ.out.2]
  refine HN.out.mono ?_
  rintro e w3 ⟨rb, sl, rfl, hb3, hown, hrb, hne, hB3⟩
  have HSt := Lib.hid (rstep_nomem w3 rb _ _ hb3 rfl rfl rfl)
  obtain ⟨a, n, cp, rfl⟩ := own_slice hown
  obtain rfl : n = 1 := own_len hown
  have HB3 := Lib.hid (HBz.out.trans (hB3.mono HBz.out.size))
  have HZ3 := Lib.hid ((HZ.out.kept (Keeps.of_below' HB2.out) (fun h => h)).kept (Keeps.of_below' hB3) (fun h => h))
  have HRb := Lib.hid (show w.heap.size < rb ∧ zb < rb from by have := HZ.out.lt; have := HB2.out.size; have := HZb.out; omega)
  clear hb3 hown hrb hne hB3
  go_wp2_with (fail)
  refine HSt.out.mono ?_
  rintro e w4 ⟨rfl, hk4, hb4⟩
  have HL1 := Lib.hid (rleft_nil w4)
  have hz4 := HZ3.out.kept hk4 (fun e => by have := HRb.out; omega)
  have HL2 := Lib.hid (rleft_v w4 zb 0 0 0 none rnZero hz4 rfl rfl (by decide) (by decide))
  have HL3 := Lib.hid (rleft_v w4.drew rb cp 1 0 a { (rnNew rb none 0 (.slice a 1 cp)) with over := true, e := 1 } hb4.drew rfl rfl (by decide) (by decide))
  have HK := Lib.hid (known_v w4.drew.drew)
  have HB4 := Lib.hid (HB3.out.keeps (Nat.le_refl _) hk4 (fun i e => by have := HRb.out; omega))
  clear hz4 hb4 hk4
  go_wp2_with (fail)
  refine HL1.out.mono ?_
  rintro e w' ⟨rfl, rfl⟩
  go_wp2_with (fail)
  refine HL2.out.mono ?_
  rintro e w' ⟨rfl, rfl⟩
  go_wp2_with (fail)
  refine HL3.out.mono ?_
  rintro e w' ⟨rfl, rfl⟩
  go_wp2_with (fail)
  refine HK.out.mono ?_
  rintro e w5 ⟨rfl, hB5⟩
  have HB5 := Lib.hid (HB4.out.drew.drew.trans (hB5.mono HB4.out.drew.drew.size))
  clear hB5
  go_wp2_with (fail)
  go_ret
  exact ⟨rfl, HB5.out⟩
end Go.Proofs.Ytefgahcadfmmoaa
