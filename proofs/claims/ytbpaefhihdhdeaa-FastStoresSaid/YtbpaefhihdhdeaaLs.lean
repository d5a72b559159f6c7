/-
  leveelaw09.want, and the law FastStores.
-/
import Derived.Test.YtbpaefhihdhdeaaDj
import Derived.Test.YtbpaefhihdhdeaaFs
namespace Go.Proofs.Ytbpaefhihdhdeaa
open Go.RowKit
set_option linter.unusedVariables false

/-- how many stores there are -/
theorem made_len (base : Int) (n : Nd) (kd key ptr : Int) : (madeL base n kd key ptr).length ≤ 40 := by
  have h8 := n.len_le
  unfold madeL
  split
  · unfold insP
    split
    · unfold insL
      have : (n.last key + 1).toNat ≤ n.len := by have := last_ge n key; omega
      have h2 := shiftL_len base n n.len (n.len - (n.last key + 1).toNat)
      simp only [List.length_append, h2]
      split <;> simp <;> omega
    · simp
  split
  · unfold delP
    split
    · unfold delL; simp only [List.length_append, gapL_len]; simp; omega
    · simp
  split
  · unfold repP
    split
    · unfold repL; simp only [List.length_append, gapL_len]; simp; omega
    · simp
  split
  · unfold swapP; split <;> simp
  split
  · unfold cutP; split <;> simp
  · unfold linkP; split <;> simp
set_option maxRecDepth 100000 in
set_option maxHeartbeats 6400000 in
theorem want_v (base : Int) (n : Nd) (kind key ptr : Int) (h0 : 0 ≤ base) (w : World) :
    Calls Try.prog 13 #[.int .u64 base, .agg (ndCells n), .agg (askC kind key ptr)] w fun e w' => MadeP (madeL base n (kdOf kind) key ptr) (madeC base n (kdOf kind) key ptr) w e w' := by
  have HI := Lib.hid (info27 n)
  have hk0 : Blk ((w.alloc (.cells (ndCells n) 27)).alloc (.cells (askC kind key ptr) 39)) w.heap.size (ndCells n) 27 := (Blk.new w _ _).alloc _
  have HL0 := Lib.hid (ndLoad hk0)
  have HB0 := Lib.hid (((Below.refl w.heap.size w).alloc (Nat.le_refl _) (.cells (ndCells n) 27)).alloc (by simp) (.cells (askC kind key ptr) 39))
  obtain ⟨u, hu⟩ : ∃ u, IntKind.u64.wrap kind = u := ⟨_, rfl⟩
  have HU := Lib.hid (show kdOf kind = u % 6 by unfold kdOf; rw [hu])
  have hu0 : 0 ≤ u := by rw [← hu, IntKind.wrap_u64]; omega
  clear hk0
  unfold askC at *
  rcases kdOf_lt kind with h | h | h | h | h | h
  · have HP := Lib.hid (show madeL base n (kdOf kind) key ptr = insP base n key ptr ∧ madeC base n (kdOf kind) key ptr = insE base n key ptr by rw [h]; exact ⟨rfl, rfl⟩)
    have hd : u % 6 = 0 := by rw [← HU.out]; exact h
    have HC := Lib.hid (fun w => insert_d base n key ptr h0 w)
    clear h
    go_enter Try.func13, Try.ntmps13
    go_wp2_with (with_reducible refine wpList_load_part (o := ⟨some 15, _, _, _, _, _⟩) rfl 27 _ rfl w.heap.size 0 rfl (ndCells n) _ HL0.out Try.underlying27 rfl HI.out ?_)
    refine (HC.out _).mono ?_
    rintro e w1 ⟨a, m, c, rfl, hml, ho, hB⟩
    have HD := Lib.hid (show MadeP (madeL base n (kdOf kind) key ptr) (madeC base n (kdOf kind) key ptr) w (.returned (.tuple #[.slice a m c, .int .i64 (insE base n key ptr)])) w1 from by rw [HP.out.1, HP.out.2]; exact MadeP.keep ⟨a, m, c, rfl, hml, ho, hB⟩ HB0.out)
    clear hml ho hB
    go_wp2_with (fail)
    go_ret2
    exact HD.out
  · have HP := Lib.hid (show madeL base n (kdOf kind) key ptr = delP base n key ∧ madeC base n (kdOf kind) key ptr = delE base n key by rw [h]; exact ⟨rfl, rfl⟩)
    have hd : u % 6 = 1 := by rw [← HU.out]; exact h
    have HC := Lib.hid (fun w => delete_d base n key h0 w)
    clear h
    go_enter Try.func13, Try.ntmps13
    go_wp2_with (with_reducible refine wpList_load_part (o := ⟨some 26, _, _, _, _, _⟩) rfl 27 _ rfl w.heap.size 0 rfl (ndCells n) _ HL0.out Try.underlying27 rfl HI.out ?_)
    refine (HC.out _).mono ?_
    rintro e w1 ⟨a, m, c, rfl, hml, ho, hB⟩
    have HD := Lib.hid (show MadeP (madeL base n (kdOf kind) key ptr) (madeC base n (kdOf kind) key ptr) w (.returned (.tuple #[.slice a m c, .int .i64 (delE base n key)])) w1 from by rw [HP.out.1, HP.out.2]; exact MadeP.keep ⟨a, m, c, rfl, hml, ho, hB⟩ HB0.out)
    clear hml ho hB
    go_wp2_with (fail)
    go_ret2
    exact HD.out
  · have HP := Lib.hid (show madeL base n (kdOf kind) key ptr = repP base n ∧ madeC base n (kdOf kind) key ptr = repE base n by rw [h]; exact ⟨rfl, rfl⟩)
    have hd : u % 6 = 2 := by rw [← HU.out]; exact h
    have HC := Lib.hid (fun w => repair_d base n h0 w)
    clear h
    go_enter Try.func13, Try.ntmps13
    go_wp2_with (with_reducible refine wpList_load_part (o := ⟨some 35, _, _, _, _, _⟩) rfl 27 _ rfl w.heap.size 0 rfl (ndCells n) _ HL0.out Try.underlying27 rfl HI.out ?_)
    refine (HC.out _).mono ?_
    rintro e w1 ⟨a, m, c, rfl, hml, ho, hB⟩
    have HD := Lib.hid (show MadeP (madeL base n (kdOf kind) key ptr) (madeC base n (kdOf kind) key ptr) w (.returned (.tuple #[.slice a m c, .int .i64 (repE base n)])) w1 from by rw [HP.out.1, HP.out.2]; exact MadeP.keep ⟨a, m, c, rfl, hml, ho, hB⟩ HB0.out)
    clear hml ho hB
    go_wp2_with (fail)
    go_ret2
    exact HD.out
  · have HP := Lib.hid (show madeL base n (kdOf kind) key ptr = swapP base n key ptr ∧ madeC base n (kdOf kind) key ptr = swapE base n key ptr by rw [h]; exact ⟨rfl, rfl⟩)
    have hd : u % 6 = 3 := by rw [← HU.out]; exact h
    have HC := Lib.hid (fun w => swap_d base n key ptr h0 w)
    clear h
    go_enter Try.func13, Try.ntmps13
    go_wp2_with (with_reducible refine wpList_load_part (o := ⟨some 42, _, _, _, _, _⟩) rfl 27 _ rfl w.heap.size 0 rfl (ndCells n) _ HL0.out Try.underlying27 rfl HI.out ?_)
    refine (HC.out _).mono ?_
    rintro e w1 ⟨a, m, c, rfl, hml, ho, hB⟩
    have HD := Lib.hid (show MadeP (madeL base n (kdOf kind) key ptr) (madeC base n (kdOf kind) key ptr) w (.returned (.tuple #[.slice a m c, .int .i64 (swapE base n key ptr)])) w1 from by rw [HP.out.1, HP.out.2]; exact MadeP.keep ⟨a, m, c, rfl, hml, ho, hB⟩ HB0.out)
    clear hml ho hB
    go_wp2_with (fail)
    go_ret2
    exact HD.out
  · have HP := Lib.hid (show madeL base n (kdOf kind) key ptr = cutP base n key ∧ madeC base n (kdOf kind) key ptr = cutE base n key by rw [h]; exact ⟨rfl, rfl⟩)
    have hd : u % 6 = 4 := by rw [← HU.out]; exact h
    have HC := Lib.hid (fun w => cut_d base n key h0 w)
    clear h
    go_enter Try.func13, Try.ntmps13
    go_wp2_with (with_reducible refine wpList_load_part (o := ⟨some 53, _, _, _, _, _⟩) rfl 27 _ rfl w.heap.size 0 rfl (ndCells n) _ HL0.out Try.underlying27 rfl HI.out ?_)
    refine (HC.out _).mono ?_
    rintro e w1 ⟨a, m, c, rfl, hml, ho, hB⟩
    have HD := Lib.hid (show MadeP (madeL base n (kdOf kind) key ptr) (madeC base n (kdOf kind) key ptr) w (.returned (.tuple #[.slice a m c, .int .i64 (cutE base n key)])) w1 from by rw [HP.out.1, HP.out.2]; exact MadeP.keep ⟨a, m, c, rfl, hml, ho, hB⟩ HB0.out)
    clear hml ho hB
    go_wp2_with (fail)
    go_ret2
    exact HD.out
  · have HP := Lib.hid (show madeL base n (kdOf kind) key ptr = linkP base n ptr ∧ madeC base n (kdOf kind) key ptr = mayE base n by rw [h]; exact ⟨rfl, rfl⟩)
    have hd : u % 6 = 5 := by rw [← HU.out]; exact h
    have HC := Lib.hid (fun w => link_d base n ptr h0 w)
    clear h
    go_enter Try.func13, Try.ntmps13
    go_wp2_with (with_reducible refine wpList_load_part (o := ⟨some 60, _, _, _, _, _⟩) rfl 27 _ rfl w.heap.size 0 rfl (ndCells n) _ HL0.out Try.underlying27 rfl HI.out ?_)
    refine (HC.out _).mono ?_
    rintro e w1 ⟨a, m, c, rfl, hml, ho, hB⟩
    have HD := Lib.hid (show MadeP (madeL base n (kdOf kind) key ptr) (madeC base n (kdOf kind) key ptr) w (.returned (.tuple #[.slice a m c, .int .i64 (mayE base n)])) w1 from by rw [HP.out.1, HP.out.2]; exact MadeP.keep ⟨a, m, c, rfl, hml, ho, hB⟩ HB0.out)
    clear hml ho hB
    go_wp2_with (fail)
    go_ret2
    exact HD.out

/-! ### FastStores -/
set_option maxRecDepth 100000 in
set_option maxHeartbeats 3200000 in
theorem stores_law (base : Int) (n : Nd) (kind key ptr : Int) (h0 : 0 ≤ base) (w : World) :
    Calls Try.prog 4 #[.int .u64 base, .agg (ndCells n), .agg (askC kind key ptr)] w fun e w' => e = .returned (.bool true) ∧ Below w.heap.size w w' := by
  have HI := Lib.hid (info27 n)
  have hk0 : Blk ((w.alloc (.cells (ndCells n) 27)).alloc (.cells (askC kind key ptr) 39)) w.heap.size (ndCells n) 27 := (Blk.new w _ _).alloc _
  have hg0 : Blk ((w.alloc (.cells (ndCells n) 27)).alloc (.cells (askC kind key ptr) 39)) (w.heap.size + 1) (askC kind key ptr) 39 := by
    have := Blk.new (w.alloc (.cells (ndCells n) 27)) (askC kind key ptr) 39
    simpa using this
  have HK0 := Lib.hid hk0
  have HG0 := Lib.hid hg0
  have HL0 := Lib.hid (ndLoad hk0)
  have HB0 := Lib.hid (((Below.refl w.heap.size w).alloc (Nat.le_refl _) (.cells (ndCells n) 27)).alloc (by simp) (.cells (askC kind key ptr) 39))
  have HMd := Lib.hid (fun w => made_v base n kind key ptr w)
  have HWt := Lib.hid (fun w => want_v base n kind key ptr h0 w)
  have HLn := Lib.hid (made_len base n (kdOf kind) key ptr)
  obtain ⟨L, hL⟩ : ∃ l, madeL base n (kdOf kind) key ptr = l := ⟨_, rfl⟩
  obtain ⟨C, hC⟩ : ∃ l, madeC base n (kdOf kind) key ptr = l := ⟨_, rfl⟩
  rw [hL, hC] at HMd HWt
  rw [hL] at HLn
  clear hk0 hg0 hL hC
  unfold askC at *
  go_enter Try.func4, Try.ntmps4
  go_wp2_with (with_reducible refine wpList_load_part (o := ⟨some 13, _, _, _, _, _⟩) rfl 27 _ rfl w.heap.size 0 rfl (ndCells n) _ HL0.out Try.underlying27 rfl HI.out ?_)
  refine (HMd.out _).mono ?_
  rintro e w1 ⟨a1, m1, c1, rfl, hm1, ho1, hB⟩
  have HB1 := Lib.hid (HB0.out.trans (hB.mono HB0.out.size))
  have HK1 := Lib.hid (HK0.out.below hB HK0.out.lt)
  have HG1 := Lib.hid (HG0.out.below hB HG0.out.lt)
  have HL1 := Lib.hid (ndLoad HK1.out)
  have HO1 := Lib.hid ho1
  have g0 : w1.cell? ⟨w.heap.size + 1, 0, none⟩ = some (.int .i64 kind) := by rw [HG1.out.cell]; rfl
  have g1 : w1.cell? ⟨w.heap.size + 1, 1, none⟩ = some (.int .u64 key) := by rw [HG1.out.cell]; rfl
  have g2 : w1.cell? ⟨w.heap.size + 1, 2, none⟩ = some (.int .u64 ptr) := by rw [HG1.out.cell]; rfl
  clear hB hm1 ho1
  go_wp2_with (with_reducible refine wpList_load_part (o := ⟨some 20, _, _, _, _, _⟩) rfl 27 _ rfl w.heap.size 0 rfl (ndCells n) _ HL1.out Try.underlying27 rfl HI.out ?_)
  refine (HWt.out _).mono ?_
  rintro e w2 ⟨a2, m2, c2, rfl, hm2, ho2, hB⟩
  have HB2 := Lib.hid (HB1.out.trans (hB.mono HB1.out.size))
  have HS := Lib.hid (psame_calls L L _ _ _ _ w2 (by have := HLn.out; omega) (own_below HO1.out hB) ho2)
  have q1 : (L == L) = true := beq_self_eq_true L
  have q2 : (C == C) = true := beq_self_eq_true C
  rw [q1] at HS
  clear hB hm2 ho2 q1 g0 g1 g2
  go_wp2_with (fail)
  refine HS.out.mono ?_
  rintro e w3 ⟨rfl, hB⟩
  have HB3 := Lib.hid (HB2.out.trans (hB.mono HB2.out.size))
  clear hB
  go_wp2_with (fail)
  refine (known_v _).mono ?_
  rintro e w4 ⟨rfl, hB⟩
  have HB4 := Lib.hid (HB3.out.trans (hB.mono HB3.out.size))
  clear hB
  go_wp2_with (fail)
  go_ret
  exact ⟨rfl, HB4.out⟩
end Go.Proofs.Ytbpaefhihdhdeaa
