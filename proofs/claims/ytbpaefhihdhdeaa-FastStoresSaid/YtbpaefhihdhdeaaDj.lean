/-
  The document's Insert: a contract.
-/
import Derived.Test.YtbpaefhihdhdeaaDi
namespace Go.Proofs.Ytbpaefhihdhdeaa
open Go.RowKit
set_option linter.unusedVariables false


set_option maxRecDepth 100000 in
set_option maxHeartbeats 1600000 in
theorem dins_2 (base : Int) (n : Nd) (key ptr : Int) (h0 : 0 ≤ base) (w : World) (hm : mayE base n = 2) :
    Calls Try.prog 33 #[.int .u64 base, .agg (ndCells n), .int .u64 key, .int .u64 ptr] w fun e w' => MadeP [] 2 w e w' := by
  have HI := Lib.hid (info27 n)
  have hk0 : Blk (w.alloc (.cells (ndCells n) 27)) w.heap.size (ndCells n) 27 := Blk.new w _ _
  have HK0 := Lib.hid hk0
  have HL0 := Lib.hid (ndLoad hk0)
  have HB0 := Lib.hid ((Below.refl w.heap.size w).alloc (Nat.le_refl _) (.cells (ndCells n) 27))
  have HM := Lib.hid (fun w => rmay_v base n h0 w)
  clear hk0
  rw [hm] at HM
  clear hm
  go_enter Try.func33, Try.ntmps33
  go_wp2_with (with_reducible refine wpList_load_part (o := ⟨some 16, _, _, _, _, _⟩) rfl 27 _ rfl w.heap.size 0 rfl (ndCells n) _ HL0.out Try.underlying27 rfl HI.out ?_)
  refine (HM.out _).mono ?_
  rintro e w1 ⟨rfl, hB⟩
  have HK1 := Lib.hid (HK0.out.below hB HK0.out.lt)
  have HL1 := Lib.hid (ndLoad HK1.out)
  have HB1 := Lib.hid (HB0.out.trans (hB.mono HB0.out.size))
  clear hB
  go_wp2_with (fail)
  go_ret2
  exact MadeP.err HB1.out
set_option maxRecDepth 100000 in
set_option maxHeartbeats 1600000 in
theorem dins_old (base : Int) (n : Nd) (key ptr : Int) (h0 : 0 ≤ base) (w : World) (hm : mayE base n ≠ 2) (hf : freshB n ptr = false) :
    Calls Try.prog 33 #[.int .u64 base, .agg (ndCells n), .int .u64 key, .int .u64 ptr] w fun e w' => MadeP [] 2 w e w' := by
  have HI := Lib.hid (info27 n)
  have hk0 : Blk (w.alloc (.cells (ndCells n) 27)) w.heap.size (ndCells n) 27 := Blk.new w _ _
  have HK0 := Lib.hid hk0
  have HL0 := Lib.hid (ndLoad hk0)
  have HB0 := Lib.hid ((Below.refl w.heap.size w).alloc (Nat.le_refl _) (.cells (ndCells n) 27))
  have HM := Lib.hid (fun w => rmay_v base n h0 w)
  clear hk0
  have HFr := Lib.hid (fun w => fresh_had hf w)
  have q0 : (mayE base n == 2) = false := beq_eq_false_iff_ne.2 hm
  obtain ⟨M, hM⟩ : ∃ M, mayE base n = M := ⟨_, rfl⟩
  rw [hM] at HM q0
  clear hm hf hM
  go_enter Try.func33, Try.ntmps33
  go_wp2_with (with_reducible refine wpList_load_part (o := ⟨some 16, _, _, _, _, _⟩) rfl 27 _ rfl w.heap.size 0 rfl (ndCells n) _ HL0.out Try.underlying27 rfl HI.out ?_)
  refine (HM.out _).mono ?_
  rintro e w1 ⟨rfl, hB⟩
  have HK1 := Lib.hid (HK0.out.below hB HK0.out.lt)
  have HL1 := Lib.hid (ndLoad HK1.out)
  have HB1 := Lib.hid (HB0.out.trans (hB.mono HB0.out.size))
  clear hB
  go_wp2_with (refine wpList_load_gd (o := ⟨some 21, .load 27 (.tmp 5), _, _, _, _⟩) 27 (.tmp 5) ?hoa w.heap.size 0 ?hxa (ndCells n) _ HL1.out Try.underlying27 rfl HI.out ?hwa ?_; (case hoa => rfl); (case hxa => rfl); (case hwa => rfl))
  refine (HFr.out _).mono ?_
  rintro e w2 ⟨rfl, hB⟩
  have HK2 := Lib.hid (HK1.out.below hB HK1.out.lt)
  have HL2 := Lib.hid (ndLoad HK2.out)
  have HB2 := Lib.hid (HB1.out.trans (hB.mono HB1.out.size))
  clear hB
  go_wp2_with (fail)
  go_ret2
  exact MadeP.err HB2.out
set_option maxRecDepth 100000 in
set_option maxHeartbeats 1600000 in
theorem dins_state (base : Int) (n : Nd) (key ptr : Int) (h0 : 0 ≤ base) (w : World) (hm : mayE base n ≠ 2) (hm0 : mayE base n ≠ 0) (hf : freshB n ptr = true) :
    Calls Try.prog 33 #[.int .u64 base, .agg (ndCells n), .int .u64 key, .int .u64 ptr] w fun e w' => MadeP [] (mayE base n) w e w' := by
  have HI := Lib.hid (info27 n)
  have hk0 : Blk (w.alloc (.cells (ndCells n) 27)) w.heap.size (ndCells n) 27 := Blk.new w _ _
  have HK0 := Lib.hid hk0
  have HL0 := Lib.hid (ndLoad hk0)
  have HB0 := Lib.hid ((Below.refl w.heap.size w).alloc (Nat.le_refl _) (.cells (ndCells n) 27))
  have HM := Lib.hid (fun w => rmay_v base n h0 w)
  clear hk0
  have HFr := Lib.hid (fun w => fresh_had hf w)
  have q0 : (mayE base n == 2) = false := beq_eq_false_iff_ne.2 hm
  have q1 : (mayE base n != 0) = true := bne_iff_ne.2 hm0
  obtain ⟨M, hM⟩ : ∃ M, mayE base n = M := ⟨_, rfl⟩
  rw [hM] at HM q0 q1 ⊢
  clear hm hm0 hf hM
  go_enter Try.func33, Try.ntmps33
  go_wp2_with (with_reducible refine wpList_load_part (o := ⟨some 16, _, _, _, _, _⟩) rfl 27 _ rfl w.heap.size 0 rfl (ndCells n) _ HL0.out Try.underlying27 rfl HI.out ?_)
  refine (HM.out _).mono ?_
  rintro e w1 ⟨rfl, hB⟩
  have HK1 := Lib.hid (HK0.out.below hB HK0.out.lt)
  have HL1 := Lib.hid (ndLoad HK1.out)
  have HB1 := Lib.hid (HB0.out.trans (hB.mono HB0.out.size))
  clear hB
  go_wp2_with (refine wpList_load_gd (o := ⟨some 21, .load 27 (.tmp 5), _, _, _, _⟩) 27 (.tmp 5) ?hoa w.heap.size 0 ?hxa (ndCells n) _ HL1.out Try.underlying27 rfl HI.out ?hwa ?_; (case hoa => rfl); (case hxa => rfl); (case hwa => rfl))
  refine (HFr.out _).mono ?_
  rintro e w2 ⟨rfl, hB⟩
  have HK2 := Lib.hid (HK1.out.below hB HK1.out.lt)
  have HL2 := Lib.hid (ndLoad HK2.out)
  have HB2 := Lib.hid (HB1.out.trans (hB.mono HB1.out.size))
  clear hB
  go_wp2_with (fail)
  go_ret2
  exact MadeP.err HB2.out

/-- the test of the key -/
theorem badKey_1 {n : Nd} {key : Int} (h : 0 ≤ n.find key) : badKey n key = true := by unfold badKey; rw [decide_eq_true h]; rfl
theorem badKey_2 {n : Nd} {key : Int} (h : ¬ 0 ≤ n.find key) : badKey n key = (decide (key < n.lo) || (decide (0 < n.lv) && (key == n.lo))) := by unfold badKey; rw [decide_eq_false h]; rfl
set_option maxRecDepth 100000 in
set_option maxHeartbeats 3200000 in
theorem dins_bad (base : Int) (n : Nd) (key ptr : Int) (h0 : 0 ≤ base) (w : World) (hm : mayE base n = 0) (hf : freshB n ptr = true) (hb : badKey n key = true) :
    Calls Try.prog 33 #[.int .u64 base, .agg (ndCells n), .int .u64 key, .int .u64 ptr] w fun e w' => MadeP [] 2 w e w' := by
  have HI := Lib.hid (info27 n)
  have hk0 : Blk (w.alloc (.cells (ndCells n) 27)) w.heap.size (ndCells n) 27 := Blk.new w _ _
  have HK0 := Lib.hid hk0
  have HL0 := Lib.hid (ndLoad hk0)
  have HB0 := Lib.hid ((Below.refl w.heap.size w).alloc (Nat.le_refl _) (.cells (ndCells n) 27))
  have HM := Lib.hid (fun w => rmay_v base n h0 w)
  clear hk0
  have HFr := Lib.hid (fun w => fresh_had hf w)
  have HFd := Lib.hid (fun w => rfind_calls n key w)
  rw [hm] at HM
  obtain ⟨fi, hfi⟩ : ∃ z, n.find key = z := ⟨_, rfl⟩
  rw [hfi] at HFd
  have hb' : 0 ≤ fi ∨ (¬ 0 ≤ fi ∧ key < n.lo) ∨ (¬ 0 ≤ fi ∧ ¬ key < n.lo ∧ 0 < n.lv ∧ (key == n.lo) = true) := by
    by_cases a : 0 ≤ fi
    · exact .inl a
    · have := badKey_2 (n := n) (key := key) (by rw [hfi]; exact a)
      rw [hb] at this
      by_cases b : key < n.lo
      · exact .inr (.inl ⟨a, b⟩)
      · rw [decide_eq_false b, Bool.false_or] at this
        have h3 := this.symm
        simp only [Bool.and_eq_true, decide_eq_true_eq] at h3
        exact .inr (.inr ⟨a, b, h3.1, h3.2⟩)
  clear hm hf hb hfi
  rcases hb' with a | ⟨a, b⟩ | ⟨a, b, c, d⟩
  · skip
    go_enter Try.func33, Try.ntmps33
    go_wp2_with (with_reducible refine wpList_load_part (o := ⟨some 16, _, _, _, _, _⟩) rfl 27 _ rfl w.heap.size 0 rfl (ndCells n) _ HL0.out Try.underlying27 rfl HI.out ?_)
    refine (HM.out _).mono ?_
    rintro e w1 ⟨rfl, hB⟩
    have HK1 := Lib.hid (HK0.out.below hB HK0.out.lt)
    have HL1 := Lib.hid (ndLoad HK1.out)
    have HB1 := Lib.hid (HB0.out.trans (hB.mono HB0.out.size))
    clear hB
    go_wp2_with (refine wpList_load_gd (o := ⟨some 21, .load 27 (.tmp 5), _, _, _, _⟩) 27 (.tmp 5) ?hoa w.heap.size 0 ?hxa (ndCells n) _ HL1.out Try.underlying27 rfl HI.out ?hwa ?_; (case hoa => rfl); (case hxa => rfl); (case hwa => rfl))
    refine (HFr.out _).mono ?_
    rintro e w2 ⟨rfl, hB⟩
    have HK2 := Lib.hid (HK1.out.below hB HK1.out.lt)
    have HL2 := Lib.hid (ndLoad HK2.out)
    have HB2 := Lib.hid (HB1.out.trans (hB.mono HB1.out.size))
    clear hB
    go_wp2_with (with_reducible refine wpList_load_part (o := ⟨some 28, _, _, _, _, _⟩) rfl 27 _ rfl w.heap.size 0 rfl (ndCells n) _ HL2.out Try.underlying27 rfl HI.out ?_)
    refine (HFd.out _).mono ?_
    rintro e w3 ⟨rfl, hB⟩
    have HK3 := Lib.hid (HK2.out.below hB HK2.out.lt)
    have HL3 := Lib.hid (ndLoad HK3.out)
    have HB3 := Lib.hid (HB2.out.trans (hB.mono HB2.out.size))
    clear hB
    have c1 : w3.cell? ⟨w.heap.size, 1, none⟩ = some (.int .u64 n.lo) := by rw [HK3.out.cell, ndCells_1]
    have c0 : w3.cell? ⟨w.heap.size, 0, none⟩ = some (.int .i64 n.lv) := by rw [HK3.out.cell, ndCells_0]
    go_wp2_with (fail)
    go_ret2
    exact MadeP.err HB3.out
  · skip
    go_enter Try.func33, Try.ntmps33
    go_wp2_with (with_reducible refine wpList_load_part (o := ⟨some 16, _, _, _, _, _⟩) rfl 27 _ rfl w.heap.size 0 rfl (ndCells n) _ HL0.out Try.underlying27 rfl HI.out ?_)
    refine (HM.out _).mono ?_
    rintro e w1 ⟨rfl, hB⟩
    have HK1 := Lib.hid (HK0.out.below hB HK0.out.lt)
    have HL1 := Lib.hid (ndLoad HK1.out)
    have HB1 := Lib.hid (HB0.out.trans (hB.mono HB0.out.size))
    clear hB
    go_wp2_with (refine wpList_load_gd (o := ⟨some 21, .load 27 (.tmp 5), _, _, _, _⟩) 27 (.tmp 5) ?hob w.heap.size 0 ?hxb (ndCells n) _ HL1.out Try.underlying27 rfl HI.out ?hwb ?_; (case hob => rfl); (case hxb => rfl); (case hwb => rfl))
    refine (HFr.out _).mono ?_
    rintro e w2 ⟨rfl, hB⟩
    have HK2 := Lib.hid (HK1.out.below hB HK1.out.lt)
    have HL2 := Lib.hid (ndLoad HK2.out)
    have HB2 := Lib.hid (HB1.out.trans (hB.mono HB1.out.size))
    clear hB
    go_wp2_with (with_reducible refine wpList_load_part (o := ⟨some 28, _, _, _, _, _⟩) rfl 27 _ rfl w.heap.size 0 rfl (ndCells n) _ HL2.out Try.underlying27 rfl HI.out ?_)
    refine (HFd.out _).mono ?_
    rintro e w3 ⟨rfl, hB⟩
    have HK3 := Lib.hid (HK2.out.below hB HK2.out.lt)
    have HL3 := Lib.hid (ndLoad HK3.out)
    have HB3 := Lib.hid (HB2.out.trans (hB.mono HB2.out.size))
    clear hB
    have c1 : w3.cell? ⟨w.heap.size, 1, none⟩ = some (.int .u64 n.lo) := by rw [HK3.out.cell, ndCells_1]
    have c0 : w3.cell? ⟨w.heap.size, 0, none⟩ = some (.int .i64 n.lv) := by rw [HK3.out.cell, ndCells_0]
    go_wp2_with (fail)
    go_ret2
    exact MadeP.err HB3.out
  · skip
    go_enter Try.func33, Try.ntmps33
    go_wp2_with (with_reducible refine wpList_load_part (o := ⟨some 16, _, _, _, _, _⟩) rfl 27 _ rfl w.heap.size 0 rfl (ndCells n) _ HL0.out Try.underlying27 rfl HI.out ?_)
    refine (HM.out _).mono ?_
    rintro e w1 ⟨rfl, hB⟩
    have HK1 := Lib.hid (HK0.out.below hB HK0.out.lt)
    have HL1 := Lib.hid (ndLoad HK1.out)
    have HB1 := Lib.hid (HB0.out.trans (hB.mono HB0.out.size))
    clear hB
    go_wp2_with (refine wpList_load_gd (o := ⟨some 21, .load 27 (.tmp 5), _, _, _, _⟩) 27 (.tmp 5) ?hoc w.heap.size 0 ?hxc (ndCells n) _ HL1.out Try.underlying27 rfl HI.out ?hwc ?_; (case hoc => rfl); (case hxc => rfl); (case hwc => rfl))
    refine (HFr.out _).mono ?_
    rintro e w2 ⟨rfl, hB⟩
    have HK2 := Lib.hid (HK1.out.below hB HK1.out.lt)
    have HL2 := Lib.hid (ndLoad HK2.out)
    have HB2 := Lib.hid (HB1.out.trans (hB.mono HB1.out.size))
    clear hB
    go_wp2_with (with_reducible refine wpList_load_part (o := ⟨some 28, _, _, _, _, _⟩) rfl 27 _ rfl w.heap.size 0 rfl (ndCells n) _ HL2.out Try.underlying27 rfl HI.out ?_)
    refine (HFd.out _).mono ?_
    rintro e w3 ⟨rfl, hB⟩
    have HK3 := Lib.hid (HK2.out.below hB HK2.out.lt)
    have HL3 := Lib.hid (ndLoad HK3.out)
    have HB3 := Lib.hid (HB2.out.trans (hB.mono HB2.out.size))
    clear hB
    have c1 : w3.cell? ⟨w.heap.size, 1, none⟩ = some (.int .u64 n.lo) := by rw [HK3.out.cell, ndCells_1]
    have c0 : w3.cell? ⟨w.heap.size, 0, none⟩ = some (.int .i64 n.lv) := by rw [HK3.out.cell, ndCells_0]
    go_wp2_with (fail)
    go_ret2
    exact MadeP.err HB3.out

set_option maxRecDepth 100000 in
set_option maxHeartbeats 3200000 in
theorem dins_full (base : Int) (n : Nd) (key ptr : Int) (h0 : 0 ≤ base) (w : World) (hm : mayE base n = 0) (hf : freshB n ptr = true) (hb : badKey n key = false) (h8 : n.len = 8) :
    Calls Try.prog 33 #[.int .u64 base, .agg (ndCells n), .int .u64 key, .int .u64 ptr] w fun e w' => MadeP [] 4 w e w' := by
  have HI := Lib.hid (info27 n)
  have hk0 : Blk (w.alloc (.cells (ndCells n) 27)) w.heap.size (ndCells n) 27 := Blk.new w _ _
  have HK0 := Lib.hid hk0
  have HL0 := Lib.hid (ndLoad hk0)
  have HB0 := Lib.hid ((Below.refl w.heap.size w).alloc (Nat.le_refl _) (.cells (ndCells n) 27))
  have HM := Lib.hid (fun w => rmay_v base n h0 w)
  clear hk0
  have HFr := Lib.hid (fun w => fresh_had hf w)
  have HFd := Lib.hid (fun w => rfind_calls n key w)
  rw [hm] at HM
  have hk := badKey_no hb
  obtain ⟨k1, k2, k3⟩ := hk
  have k1 : ¬ 0 ≤ n.find key := of_decide_eq_false k1
  obtain ⟨fi, hfi⟩ : ∃ z, n.find key = z := ⟨_, rfl⟩
  rw [hfi] at HFd k1
  have k4 : (0 < n.lv ∧ (key == n.lo) = false) ∨ ¬ 0 < n.lv := by
    by_cases h : 0 < n.lv
    · exact .inl ⟨h, k3 h⟩
    · exact .inr h
  have HLn := Lib.hid (fun w => rlen_calls n w)
  rw [h8] at HLn
  clear hm hf hb hfi h8 k3
  rcases k4 with ⟨k5, k6⟩ | k5
  · skip
    go_enter Try.func33, Try.ntmps33
    go_wp2_with (with_reducible refine wpList_load_part (o := ⟨some 16, _, _, _, _, _⟩) rfl 27 _ rfl w.heap.size 0 rfl (ndCells n) _ HL0.out Try.underlying27 rfl HI.out ?_)
    refine (HM.out _).mono ?_
    rintro e w1 ⟨rfl, hB⟩
    have HK1 := Lib.hid (HK0.out.below hB HK0.out.lt)
    have HL1 := Lib.hid (ndLoad HK1.out)
    have HB1 := Lib.hid (HB0.out.trans (hB.mono HB0.out.size))
    clear hB
    go_wp2_with (refine wpList_load_gd (o := ⟨some 21, .load 27 (.tmp 5), _, _, _, _⟩) 27 (.tmp 5) ?hoa w.heap.size 0 ?hxa (ndCells n) _ HL1.out Try.underlying27 rfl HI.out ?hwa ?_; (case hoa => rfl); (case hxa => rfl); (case hwa => rfl))
    refine (HFr.out _).mono ?_
    rintro e w2 ⟨rfl, hB⟩
    have HK2 := Lib.hid (HK1.out.below hB HK1.out.lt)
    have HL2 := Lib.hid (ndLoad HK2.out)
    have HB2 := Lib.hid (HB1.out.trans (hB.mono HB1.out.size))
    clear hB
    go_wp2_with (with_reducible refine wpList_load_part (o := ⟨some 28, _, _, _, _, _⟩) rfl 27 _ rfl w.heap.size 0 rfl (ndCells n) _ HL2.out Try.underlying27 rfl HI.out ?_)
    refine (HFd.out _).mono ?_
    rintro e w3 ⟨rfl, hB⟩
    have HK3 := Lib.hid (HK2.out.below hB HK2.out.lt)
    have HL3 := Lib.hid (ndLoad HK3.out)
    have HB3 := Lib.hid (HB2.out.trans (hB.mono HB2.out.size))
    clear hB
    have c1 : w3.cell? ⟨w.heap.size, 1, none⟩ = some (.int .u64 n.lo) := by rw [HK3.out.cell, ndCells_1]
    have c0 : w3.cell? ⟨w.heap.size, 0, none⟩ = some (.int .i64 n.lv) := by rw [HK3.out.cell, ndCells_0]
    go_upto_region 8 with (fail)
    go_wp2_with (with_reducible refine wpList_load_part (o := ⟨some 49, _, _, _, _, _⟩) rfl 27 _ rfl w.heap.size 0 rfl (ndCells n) _ HL3.out Try.underlying27 rfl HI.out ?_)
    refine (HLn.out _).mono ?_
    rintro e w4 ⟨rfl, hB⟩
    have HK4 := Lib.hid (HK3.out.below hB HK3.out.lt)
    have HL4 := Lib.hid (ndLoad HK4.out)
    have HB4 := Lib.hid (HB3.out.trans (hB.mono HB3.out.size))
    clear hB
    clear c0 c1
    go_wp2_with (fail)
    go_ret2
    exact MadeP.err HB4.out
  · skip
    go_enter Try.func33, Try.ntmps33
    go_wp2_with (with_reducible refine wpList_load_part (o := ⟨some 16, _, _, _, _, _⟩) rfl 27 _ rfl w.heap.size 0 rfl (ndCells n) _ HL0.out Try.underlying27 rfl HI.out ?_)
    refine (HM.out _).mono ?_
    rintro e w1 ⟨rfl, hB⟩
    have HK1 := Lib.hid (HK0.out.below hB HK0.out.lt)
    have HL1 := Lib.hid (ndLoad HK1.out)
    have HB1 := Lib.hid (HB0.out.trans (hB.mono HB0.out.size))
    clear hB
    go_wp2_with (refine wpList_load_gd (o := ⟨some 21, .load 27 (.tmp 5), _, _, _, _⟩) 27 (.tmp 5) ?hob w.heap.size 0 ?hxb (ndCells n) _ HL1.out Try.underlying27 rfl HI.out ?hwb ?_; (case hob => rfl); (case hxb => rfl); (case hwb => rfl))
    refine (HFr.out _).mono ?_
    rintro e w2 ⟨rfl, hB⟩
    have HK2 := Lib.hid (HK1.out.below hB HK1.out.lt)
    have HL2 := Lib.hid (ndLoad HK2.out)
    have HB2 := Lib.hid (HB1.out.trans (hB.mono HB1.out.size))
    clear hB
    go_wp2_with (with_reducible refine wpList_load_part (o := ⟨some 28, _, _, _, _, _⟩) rfl 27 _ rfl w.heap.size 0 rfl (ndCells n) _ HL2.out Try.underlying27 rfl HI.out ?_)
    refine (HFd.out _).mono ?_
    rintro e w3 ⟨rfl, hB⟩
    have HK3 := Lib.hid (HK2.out.below hB HK2.out.lt)
    have HL3 := Lib.hid (ndLoad HK3.out)
    have HB3 := Lib.hid (HB2.out.trans (hB.mono HB2.out.size))
    clear hB
    have c1 : w3.cell? ⟨w.heap.size, 1, none⟩ = some (.int .u64 n.lo) := by rw [HK3.out.cell, ndCells_1]
    have c0 : w3.cell? ⟨w.heap.size, 0, none⟩ = some (.int .i64 n.lv) := by rw [HK3.out.cell, ndCells_0]
    go_upto_region 8 with (fail)
    go_wp2_with (with_reducible refine wpList_load_part (o := ⟨some 49, _, _, _, _, _⟩) rfl 27 _ rfl w.heap.size 0 rfl (ndCells n) _ HL3.out Try.underlying27 rfl HI.out ?_)
    refine (HLn.out _).mono ?_
    rintro e w4 ⟨rfl, hB⟩
    have HK4 := Lib.hid (HK3.out.below hB HK3.out.lt)
    have HL4 := Lib.hid (ndLoad HK4.out)
    have HB4 := Lib.hid (HB3.out.trans (hB.mono HB3.out.size))
    clear hB
    clear c0 c1
    go_wp2_with (fail)
    go_ret2
    exact MadeP.err HB4.out

/-- the store that ends the entries -/
def endL (base : Int) (n : Nd) : List (Int × Int) := if n.len + 1 < 8 then [(base + 64 + 16 * ((n.len + 1 : Nat) : Int) + 8, 0)] else []
theorem endL_len (base : Int) (n : Nd) : (endL base n).length ≤ 1 := by unfold endL; split <;> simp
set_option maxRecDepth 100000 in
set_option maxHeartbeats 6400000 in
theorem dins_ok (base : Int) (n : Nd) (key ptr : Int) (h0 : 0 ≤ base) (w : World) (hm : mayE base n = 0) (hf : freshB n ptr = true) (hb : badKey n key = false) (h8 : n.len < 8) :
    Calls Try.prog 33 #[.int .u64 base, .agg (ndCells n), .int .u64 key, .int .u64 ptr] w fun e w' => MadeP (insL base n key ptr (n.last key + 1).toNat) 0 w e w' := by
  have HI := Lib.hid (info27 n)
  have hk0 : Blk (w.alloc (.cells (ndCells n) 27)) w.heap.size (ndCells n) 27 := Blk.new w _ _
  have HK0 := Lib.hid hk0
  have HL0 := Lib.hid (ndLoad hk0)
  have HB0 := Lib.hid ((Below.refl w.heap.size w).alloc (Nat.le_refl _) (.cells (ndCells n) 27))
  have HM := Lib.hid (fun w => rmay_v base n h0 w)
  clear hk0
  have HFr := Lib.hid (fun w => fresh_had hf w)
  have HFd := Lib.hid (fun w => rfind_calls n key w)
  rw [hm] at HM
  have hk := badKey_no hb
  obtain ⟨k1, k2, k3⟩ := hk
  have k1 : ¬ 0 ≤ n.find key := of_decide_eq_false k1
  obtain ⟨fi, hfi⟩ : ∃ z, n.find key = z := ⟨_, rfl⟩
  rw [hfi] at HFd k1
  have k4 : (0 < n.lv ∧ (key == n.lo) = false) ∨ ¬ 0 < n.lv := by
    by_cases h : 0 < n.lv
    · exact .inl ⟨h, k3 h⟩
    · exact .inr h
  have HLn := Lib.hid (fun w => rlen_calls n w)
  obtain ⟨⟨s1, s2, s3⟩, _, _⟩ := mayE_stands hm
  obtain ⟨i0, hi, hz0, hz1, hz2⟩ := info_parts Try.info36
  have q8 : ((n.len : Int) == 8) = false := beq_eq_false_iff_ne.2 (by omega)
  obtain ⟨at_, hat, hat2⟩ := last_at n key
  have HLs := Lib.hid (show ∀ w, Calls Try.prog 63 #[.agg (ndCells n), .int .u64 key] w fun e W' => e = .returned (.int .i64 ((at_ : Int) - 1)) ∧ Below w.heap.size w W' from fun w => by have := rlast_calls n key w; rwa [show n.last key = (at_ : Int) - 1 by omega] at this)
  have HP := Lib.hid (show insL base n key ptr (n.last key + 1).toNat = [(base + 24, cOne n)] ++ (endL base n ++ shiftL base n n.len (n.len - at_) ++ [(base + 64 + 16 * (at_ : Int) + 8, n.ahead at_), (base + 64 + 16 * (at_ : Int), key), (base + 64 + 16 * (at_ : Int) + 8, ptr)]) ++ [(base + 24, cTwo n)] by
    rw [hat]; unfold insL endL; simp)
  have HEl := Lib.hid (endL_len base n)
  obtain ⟨eL, heL⟩ : ∃ l, endL base n = l := ⟨_, rfl⟩
  have HEn := Lib.hid heL
  rw [heL] at HP HEl
  obtain ⟨many, hmany⟩ : ∃ m, n.len = m := ⟨_, rfl⟩
  have HMy := Lib.hid hmany
  rw [hmany] at HLn q8 h8 hat2 HP
  clear hm hf hb hfi k3 s3 hat heL hmany
  go_enter Try.func33, Try.ntmps33
  go_wp2_with (with_reducible refine wpList_load_part (o := ⟨some 16, _, _, _, _, _⟩) rfl 27 _ rfl w.heap.size 0 rfl (ndCells n) _ HL0.out Try.underlying27 rfl HI.out ?_)
  refine (HM.out _).mono ?_
  rintro e w1 ⟨rfl, hB⟩
  have HK1 := Lib.hid (HK0.out.below hB HK0.out.lt)
  have HL1 := Lib.hid (ndLoad HK1.out)
  have HB1 := Lib.hid (HB0.out.trans (hB.mono HB0.out.size))
  clear hB
  go_wp2_with (refine wpList_load_gd (o := ⟨some 21, .load 27 (.tmp 5), _, _, _, _⟩) 27 (.tmp 5) ?hoa w.heap.size 0 ?hxa (ndCells n) _ HL1.out Try.underlying27 rfl HI.out ?hwa ?_; (case hoa => rfl); (case hxa => rfl); (case hwa => rfl))
  refine (HFr.out _).mono ?_
  rintro e w2 ⟨rfl, hB⟩
  have HK2 := Lib.hid (HK1.out.below hB HK1.out.lt)
  have HL2 := Lib.hid (ndLoad HK2.out)
  have HB2 := Lib.hid (HB1.out.trans (hB.mono HB1.out.size))
  clear hB
  go_upto_region 6 with (fail)
  go_cut [48] (fun s48 wx => s48 = .bool false ∧ Hid (Blk wx w.heap.size (ndCells n) 27) ∧ Hid (Below w.heap.size w wx))
  case first =>
    rcases k4 with ⟨k5, k6⟩ | k5
    · skip
      go_wp2_with (with_reducible refine wpList_load_part (o := ⟨some 28, _, _, _, _, _⟩) rfl 27 _ rfl w.heap.size 0 rfl (ndCells n) _ HL2.out Try.underlying27 rfl HI.out ?_)
      refine (HFd.out _).mono ?_
      rintro e w3 ⟨rfl, hB⟩
      have HK3 := Lib.hid (HK2.out.below hB HK2.out.lt)
      have HL3 := Lib.hid (ndLoad HK3.out)
      have HB3 := Lib.hid (HB2.out.trans (hB.mono HB2.out.size))
      clear hB
      have c1 : w3.cell? ⟨w.heap.size, 1, none⟩ = some (.int .u64 n.lo) := by rw [HK3.out.cell, ndCells_1]
      have c0 : w3.cell? ⟨w.heap.size, 0, none⟩ = some (.int .i64 n.lv) := by rw [HK3.out.cell, ndCells_0]
      go_wp2_with (fail)
      go_meet
      exact ⟨by rw [decide_eq_false (by omega : ¬ 0 ≤ fi), decide_eq_false (by omega : ¬ key < n.lo)]; rfl, HK3, HB3⟩
    · skip
      go_wp2_with (with_reducible refine wpList_load_part (o := ⟨some 28, _, _, _, _, _⟩) rfl 27 _ rfl w.heap.size 0 rfl (ndCells n) _ HL2.out Try.underlying27 rfl HI.out ?_)
      refine (HFd.out _).mono ?_
      rintro e w3 ⟨rfl, hB⟩
      have HK3 := Lib.hid (HK2.out.below hB HK2.out.lt)
      have HL3 := Lib.hid (ndLoad HK3.out)
      have HB3 := Lib.hid (HB2.out.trans (hB.mono HB2.out.size))
      clear hB
      have c1 : w3.cell? ⟨w.heap.size, 1, none⟩ = some (.int .u64 n.lo) := by rw [HK3.out.cell, ndCells_1]
      have c0 : w3.cell? ⟨w.heap.size, 0, none⟩ = some (.int .i64 n.lv) := by rw [HK3.out.cell, ndCells_0]
      go_wp2_with (fail)
      go_meet
      exact ⟨by rw [decide_eq_false (by omega : ¬ 0 ≤ fi), decide_eq_false (by omega : ¬ key < n.lo)]; rfl, HK3, HB3⟩
  case rest =>
    obtain ⟨rfl, HK3, HB3⟩ := hcut
    clear k1 k2 k4 HK0 HL0 HB0 HM HFr HK1 HL1 HB1 HK2 HL2 HB2 HFd
    have HL3 := Lib.hid (ndLoad HK3.out)
    go_upto_region 8 with (fail)
    go_wp2_with (with_reducible refine wpList_load_part (o := ⟨some 49, _, _, _, _, _⟩) rfl 27 _ rfl w.heap.size 0 rfl (ndCells n) _ HL3.out Try.underlying27 rfl HI.out ?_)
    refine (HLn.out _).mono ?_
    rintro e w4 ⟨rfl, hB⟩
    have HK4 := Lib.hid (HK3.out.below hB HK3.out.lt)
    have HL4 := Lib.hid (ndLoad HK4.out)
    have HB4 := Lib.hid (HB3.out.trans (hB.mono HB3.out.size))
    clear hB
    have HwK := Lib.hid HK4.out.lt
    clear HK3 HL3 HB3 HLn
    go_upto_if 54 with (fail)
    go_cut [12] (fun v12 wx => Hid (RowB w4.heap.size eL v12 wx) ∧ Hid (Below w4.heap.size w4 wx))
    case first =>
      by_cases h7 : many < 7
      · have HE2 := Lib.hid (show eL = [(base + 64 + 16 * ((many + 1 : Nat) : Int) + 8, 0)] by rw [← HEn.out]; unfold endL; rw [HMy.out, if_pos (by omega)])
        have HPt := Lib.hid (fun w => pt_b base (many + 1) h0 s2 (by omega) w)
        obtain ⟨a1, ha1⟩ : ∃ x, base + 64 + 16 * ((many + 1 : Nat) : Int) + 8 = x := ⟨_, rfl⟩
        rw [ha1, Int.natCast_add, Int.natCast_one] at HPt
        rw [ha1] at HE2
        have b1 : (many : Int) < 7 := by omega
        clear ha1
        go_wp2_with (first | (go_at_call 29; refine (HPt.out _).mono ?_; rintro e w5 ⟨rfl, hw5⟩; replace hw5 := hw5.symm; subst hw5) | (at_builtin; refine wpList_append_own _ rfl (.tmp 55) (.tmp 61) 28 rfl w4.heap.size 36 i0 _ 2 16 Try.underlying28 hi hz0 hz1 hz2 rfl (by decide) _ 0 [] rfl (World.ownsRow_nil _ _ _ _) ⟨w4.heap.size, 0, none⟩ 1 1 [.int .u64 a1, .int .u64 0] rfl rfl (World.news_of_block (cs := #[.int .u64 a1, .int .u64 0]) (t := 36) (fr := (0, 0)) (heap_alloc_new w4 _)) (by simp [Value.oneCell']) (by unfold maxLen; omega) (by omega) (by simp) ?_; intro v6 w6 hown6 hg6 _; have HO6 := Lib.hid hown6; have HB6 := Lib.hid (((Below.refl w4.heap.size w4).alloc (Nat.le_refl _) (.cells #[.int .u64 a1, .int .u64 0] 36)).grown hg6 (by simp) (fun r e => by cases e)); clear hown6 hg6))
        go_meet
        exact ⟨Lib.hid (by rw [HE2.out]; have := HO6.out; simpa [RowB, ecells] using this), HB6⟩
      · have HE2 := Lib.hid (show eL = [] by rw [← HEn.out]; unfold endL; rw [HMy.out, if_neg (by omega)])
        have b1 : ¬ (many : Int) < 7 := by omega
        go_wp2_with (fail)
        go_meet
        exact ⟨Lib.hid (by rw [HE2.out]; exact World.ownsRow_nil _ _ _ _), Lib.hid (Below.refl _ _)⟩
    case rest =>
      obtain ⟨HO5, HB5⟩ := hcut
      have HK5 := Lib.hid (HK4.out.below HB5.out HwK.out)
      have HL5 := Lib.hid (ndLoad HK5.out)
      have HwR := Lib.hid HB5.out.size
      go_upto_region 14 with (fail)
      go_wp2_with (with_reducible refine wpList_load_part (o := ⟨some 63, _, _, _, _, _⟩) rfl 27 _ rfl w.heap.size 0 rfl (ndCells n) _ HL5.out Try.underlying27 rfl HI.out ?_)
      refine (HLs.out _).mono ?_
      rintro e w6 ⟨rfl, hB⟩
      have HO6 := Lib.hid (HO5.out.below hB)
      have HK6 := Lib.hid (HK5.out.below hB HK5.out.lt)
      have HB6 := Lib.hid (HB5.out.trans (hB.mono HwR.out))
      clear hB HK5 HL5 HO5 HB5 HwR HLs HK4 HL4
      have b1 : (at_ : Int) - 1 + 1 = (at_ : Int) := by omega
      obtain ⟨b5, hb5⟩ : ∃ x, w.heap.size = x := ⟨_, rfl⟩
      have HB5e := Lib.hid hb5
      rw [hb5] at HK6 HwK ⊢
      clear hb5
      go_wp2_with (fail)
      go_loopw [12, 14] (fun ov iv wr => ∃ j i : Nat, Hid (i + j = many) ∧ at_ ≤ i ∧ iv = .int .i64 i ∧ Hid (RowB w4.heap.size (eL ++ shiftL base n many j) ov wr) ∧ Hid (Blk wr b5 (ndCells n) 27) ∧ Hid (Below w4.heap.size w4 wr)) (fun _ iv _ => (intOf iv).toNat)
      case atStart => exact ⟨0, many, Lib.hid (by omega), hat2, rfl, Lib.hid (by have := HO6.out; simpa [shiftL] using this), HK6, HB6⟩
      case round =>
        obtain ⟨j, i, HIJ, hai, rfl, HO, HKr, HBr⟩ := hrel
        have hi8 : i ≤ 8 := by have := HIJ.out; omega
        obtain ⟨l0, hl0⟩ : ∃ l, eL ++ shiftL base n many j = l := ⟨_, rfl⟩
        have HL0 := Lib.hid hl0
        have hlen : l0.length ≤ 20 := by rw [← hl0, List.length_append, shiftL_len]; have := HEl.out; have := HIJ.out; omega
        rw [hl0] at HO
        obtain ⟨v0, rfl⟩ : ∃ v, v = u12 := ⟨_, rfl⟩
        have hn0 : ∀ g, v0.ownBlock = some g → g < wr.heap.size := fun g e => (World.ownsRow.lt HO.out g e).2
        have HwR := Lib.hid HBr.out.size
        clear hl0 HO6 HK6 HB6
        by_cases hlt : at_ < i
        · obtain ⟨i1, hi1⟩ : ∃ i1, i = i1 + 1 := ⟨i - 1, by omega⟩
          obtain ⟨ii, hii⟩ : ∃ z, (i : Int) = z := ⟨_, rfl⟩
          have HPt := Lib.hid (fun w => pt_b base i h0 s2 hi8 w)
          have HKt := Lib.hid (fun w => kt_a base i h0 s2 hi8 w)
          rw [hii] at HPt HKt
          obtain ⟨a1, ha1⟩ : ∃ x, base + 64 + 16 * ii + 8 = x := ⟨_, rfl⟩
          obtain ⟨a2, ha2⟩ : ∃ x, base + 64 + 16 * ii = x := ⟨_, rfl⟩
          obtain ⟨x1, hx1⟩ : ∃ x, n.p i1 = x := ⟨_, rfl⟩
          obtain ⟨x2, hx2⟩ : ∃ x, n.k i1 = x := ⟨_, rfl⟩
          have HX1 := Lib.hid (show (ndCells n)[13 + i1]? = some (.int .u64 x1) by rw [ndCells_p n i1 (by omega), hx1])
          have HX2 := Lib.hid (show (ndCells n)[5 + i1]? = some (.int .u64 x2) by rw [ndCells_k n i1 (by omega), hx2])
          have HSh := Lib.hid (show eL ++ (shiftL base n many j ++ [(a1, x1), (a2, x2)]) = eL ++ shiftL base n many (j + 1) by
            have hmj : many - j = i := by have := HIJ.out; omega
            rw [shiftL, hmj, hii, show i - 1 = i1 by omega, ha1, ha2, hx1, hx2])
          rw [ha1] at HPt
          rw [ha2] at HKt
          have HWk := Lib.hid (show IntKind.i64.wrap (ii - 1) = (i1 : Int) by rw [IntWalk.i64_in _ (by omega)]; omega)
          have HIv := Lib.hid (show Value.int .i64 (ii - 1) = .int .i64 (i1 : Int) by rw [show ii - 1 = (i1 : Int) by omega])
          have HLl := Lib.hid (show l0.length + [(a1, x1), (a2, x2)].length ≤ 100 by simp; omega)
          have HI1 := Lib.hid hi1
          have b2 : (i1 : Int) < 8 := by omega
          have b3 : (at_ : Int) < ii := by omega
          have b4 : ii ≤ 8 := by omega
          have b6 : at_ ≤ i1 := by omega
          have b7 : 1 ≤ ii := by omega
          rw [hii]
          clear ha1 ha2 hx1 hx2 hi1 hii hai hlt hi8
          go_upto_region 18 with (fail)
          --GEN r_dins18
          refine wp_region_vals [Is v0, Is (.int .u64 base), Is (.int .i64 ii), Is (.int .u64 a1), Is (.int .i64 ii), Is (.int .i64 (i1 : Int)), Is (.pointer (some ⟨b5, 13, none⟩)), Is (.pointer (some ⟨b5, 13 + i1, none⟩)), Is (.int .u64 x1), Is (.agg #[.int .u64 a1, .int .u64 x1]), Is (.int .u64 base), Is (.int .i64 ii), Is (.int .u64 a2), Is (.int .i64 ii), Is (.int .i64 (i1 : Int)), Is (.pointer (some ⟨b5, 5, none⟩)), Is (.pointer (some ⟨b5, 5 + i1, none⟩)), Is (.int .u64 x2), Is (.agg #[.int .u64 a2, .int .u64 x2]), RowB wr.heap.size [(a1, x1), (a2, x2)], RowB w4.heap.size (l0 ++ [(a1, x1), (a2, x2)]), RowB w4.heap.size (l0 ++ [(a1, x1), (a2, x2)])]
            (fun i => Keeps (fun g => i = 20 ∧ v0.ownBlock = some g)) (fun L W => (L 20 = true ∨ RowB w4.heap.size l0 v0 W) ∧ Below w4.heap.size wr W) (by kernel_rfl) (by kernel_rfl) (by kernel_rfl) ?hst ?h0 ⟨?o0, ?o1, ?o2, ?o3, ?o4, ?o5, ?o6, ?o7, ?o8, ?o9, ?o10, ?o11, ?o12, ?o13, ?o14, ?o15, ?o16, ?o17, ?o18, ?o19, ?o20, ?o21, trivial⟩ ?he
          case hst =>
            exact ⟨(fun _ _ _ _ _ _ h _ => h), (fun _ _ _ _ _ _ h _ => h), (fun _ _ _ _ _ _ h _ => h), (fun _ _ _ _ _ _ h _ => h), (fun _ _ _ _ _ _ h _ => h), (fun _ _ _ _ _ _ h _ => h), (fun _ _ _ _ _ _ h _ => h), (fun _ _ _ _ _ _ h _ => h), (fun _ _ _ _ _ _ h _ => h), (fun _ _ _ _ _ _ h _ => h), (fun _ _ _ _ _ _ h _ => h), (fun _ _ _ _ _ _ h _ => h), (fun _ _ _ _ _ _ h _ => h), (fun _ _ _ _ _ _ h _ => h), (fun _ _ _ _ _ _ h _ => h), (fun _ _ _ _ _ _ h _ => h), (fun _ _ _ _ _ _ h _ => h), (fun _ _ _ _ _ _ h _ => h), (fun _ _ _ _ _ _ h _ => h), (fun i2 hij hw _ _ _ h hR => (if hA : i2 = 20 then by (subst hA; exact RowB.keepApp h hR hn0) else RowB.below h (Keeps.below (hR.mono (fun _ _ hx => hA hx.1))))), (fun i2 hij hw _ _ _ h hR => (if hA : i2 = 20 then by (subst hA; exact absurd rfl hij) else RowB.below h (Keeps.below (hR.mono (fun _ _ hx => hA hx.1))))), (fun i2 hij hw _ _ _ h hR => (if hA : i2 = 20 then by (subst hA; exact by (have h3 : false = true := hw.symm.trans (by kernel_rfl); cases h3)) else RowB.below h (Keeps.below (hR.mono (fun _ _ hx => hA hx.1))))), trivial⟩
          case h0 =>
            exact ⟨.inr (HO.out.below (Below.refl _ _).drew), (Below.refl _ _).drew⟩
          case o0 =>
            intro L vs A W H hf hd K hK
            have e12 : A.tmps[12]?.getD undef = v0 := H.later 12 0 hf (by kernel_rfl)
            go_simp
            exact hK _ _ (Keeps.refl _ _) rfl (H.glob)
          case o1 =>
            intro L vs A W H hf hd K hK
            have e0 : A.tmps[0]?.getD undef = .int .u64 base := H.old 0 (by kernel_rfl)
            go_simp
            exact hK _ _ (Keeps.refl _ _) rfl (H.glob)
          case o2 =>
            intro L vs A W H hf hd K hK
            have e14 : A.tmps[14]?.getD undef = .int .i64 ii := H.old 14 (by kernel_rfl)
            go_simp
            exact hK _ _ (Keeps.refl _ _) rfl (H.glob)
          case o3 =>
            intro L vs A W H hf hd K hK
            have e74 := H.is 1 74 rfl rfl rfl (deps_of' hd 1 (by kernel_rfl)) (by kernel_rfl)
            have e75 := H.is 2 75 rfl rfl rfl (deps_of' hd 2 (by kernel_rfl)) (by kernel_rfl)
            rw [if_pos (show Region.wanted _ _ = true from rfl)]
            go_wp2_with (fail)
            refine (HPt.out _).mono ?_
            rintro e W2 ⟨rfl, rfl⟩
            exact hK _ _ (Keeps.refl _ _) rfl H.glob
          case o4 =>
            intro L vs A W H hf hd K hK
            have e14 : A.tmps[14]?.getD undef = .int .i64 ii := H.old 14 (by kernel_rfl)
            go_simp
            exact hK _ _ (Keeps.refl _ _) rfl (H.glob)
          case o5 =>
            intro L vs A W H hf hd K hK
            have e77 := H.is 4 77 rfl rfl rfl (deps_of' hd 4 (by kernel_rfl)) (by kernel_rfl)
            have wk := HWk.out
            go_simp
            exact hK _ _ (Keeps.refl _ _) rfl (H.glob)
          case o6 =>
            intro L vs A W H hf hd K hK
            have e5 : A.tmps[5]?.getD undef = .pointer (some ⟨b5, 0, none⟩) := H.old 5 (by kernel_rfl)
            go_simp
            exact hK _ _ (Keeps.refl _ _) rfl (H.glob)
          case o7 =>
            intro L vs A W H hf hd K hK
            have e79 := H.is 6 79 rfl rfl rfl (deps_of' hd 6 (by kernel_rfl)) (by kernel_rfl)
            have e78 := H.is 5 78 rfl rfl rfl (deps_of' hd 5 (by kernel_rfl)) (by kernel_rfl)
            go_simp
            exact hK _ _ (Keeps.refl _ _) rfl (H.glob)
          case o8 =>
            intro L vs A W H hf hd K hK
            have e80 := H.is 7 80 rfl rfl rfl (deps_of' hd 7 (by kernel_rfl)) (by kernel_rfl)
            have d1 := ((HKr.out.below H.glob.2 HwK.out).cell (13+i1)).trans HX1.out
            go_simp
            exact hK _ _ (Keeps.refl _ _) rfl (H.glob)
          case o9 =>
            intro L vs A W H hf hd K hK
            have e76 := H.is 3 76 rfl rfl rfl (deps_of' hd 3 (by kernel_rfl)) (by kernel_rfl)
            have e81 := H.is 8 81 rfl rfl rfl (deps_of' hd 8 (by kernel_rfl)) (by kernel_rfl)
            go_simp
            exact hK _ _ (Keeps.refl _ _) rfl (H.glob)
          case o10 =>
            intro L vs A W H hf hd K hK
            have e0 : A.tmps[0]?.getD undef = .int .u64 base := H.old 0 (by kernel_rfl)
            go_simp
            exact hK _ _ (Keeps.refl _ _) rfl (H.glob)
          case o11 =>
            intro L vs A W H hf hd K hK
            have e14 : A.tmps[14]?.getD undef = .int .i64 ii := H.old 14 (by kernel_rfl)
            go_simp
            exact hK _ _ (Keeps.refl _ _) rfl (H.glob)
          case o12 =>
            intro L vs A W H hf hd K hK
            have e83 := H.is 10 83 rfl rfl rfl (deps_of' hd 10 (by kernel_rfl)) (by kernel_rfl)
            have e84 := H.is 11 84 rfl rfl rfl (deps_of' hd 11 (by kernel_rfl)) (by kernel_rfl)
            rw [if_pos (show Region.wanted _ _ = true from rfl)]
            go_wp2_with (fail)
            refine (HKt.out _).mono ?_
            rintro e W2 ⟨rfl, rfl⟩
            exact hK _ _ (Keeps.refl _ _) rfl H.glob
          case o13 =>
            intro L vs A W H hf hd K hK
            have e14 : A.tmps[14]?.getD undef = .int .i64 ii := H.old 14 (by kernel_rfl)
            go_simp
            exact hK _ _ (Keeps.refl _ _) rfl (H.glob)
          case o14 =>
            intro L vs A W H hf hd K hK
            have e86 := H.is 13 86 rfl rfl rfl (deps_of' hd 13 (by kernel_rfl)) (by kernel_rfl)
            have wk := HWk.out
            go_simp
            exact hK _ _ (Keeps.refl _ _) rfl (H.glob)
          case o15 =>
            intro L vs A W H hf hd K hK
            have e5 : A.tmps[5]?.getD undef = .pointer (some ⟨b5, 0, none⟩) := H.old 5 (by kernel_rfl)
            go_simp
            exact hK _ _ (Keeps.refl _ _) rfl (H.glob)
          case o16 =>
            intro L vs A W H hf hd K hK
            have e88 := H.is 15 88 rfl rfl rfl (deps_of' hd 15 (by kernel_rfl)) (by kernel_rfl)
            have e87 := H.is 14 87 rfl rfl rfl (deps_of' hd 14 (by kernel_rfl)) (by kernel_rfl)
            go_simp
            exact hK _ _ (Keeps.refl _ _) rfl (H.glob)
          case o17 =>
            intro L vs A W H hf hd K hK
            have e89 := H.is 16 89 rfl rfl rfl (deps_of' hd 16 (by kernel_rfl)) (by kernel_rfl)
            have d1 := ((HKr.out.below H.glob.2 HwK.out).cell (5+i1)).trans HX2.out
            go_simp
            exact hK _ _ (Keeps.refl _ _) rfl (H.glob)
          case o18 =>
            intro L vs A W H hf hd K hK
            have e85 := H.is 12 85 rfl rfl rfl (deps_of' hd 12 (by kernel_rfl)) (by kernel_rfl)
            have e90 := H.is 17 90 rfl rfl rfl (deps_of' hd 17 (by kernel_rfl)) (by kernel_rfl)
            go_simp
            exact hK _ _ (Keeps.refl _ _) rfl (H.glob)
          case o19 =>
            intro L vs A W H hf hd K hK
            have e82 := H.is 9 82 rfl rfl rfl (deps_of' hd 9 (by kernel_rfl)) (by kernel_rfl)
            have e91 := H.is 18 91 rfl rfl rfl (deps_of' hd 18 (by kernel_rfl)) (by kernel_rfl)
            have hgs := H.glob.2.size
            go_simp
            exact hK _ _ (Keeps.of_belowS ((Below.refl _ _).alloc (Nat.le_refl _) _)) (RowB.new (l := [(a1, x1), (a2, x2)]) hgs) ⟨(by rcases H.glob.1 with h | h; (exact .inl h); exact .inr (h.below ((Below.refl _ _).alloc (Nat.le_refl _) _))), H.glob.2.trans (((Below.refl _ _).alloc (Nat.le_refl _) _).mono (Nat.le_trans HwR.out H.glob.2.size))⟩
          case o20 =>
            intro L vs A W H hf hd K hK
            have e73 := H.is 0 73 rfl rfl rfl (deps_of' hd 0 (by kernel_rfl)) (by kernel_rfl)
            obtain ⟨v92, e92, q92⟩ := H.val 19 92 rfl rfl rfl (deps_of' hd 19 (by kernel_rfl)) (by kernel_rfl)
            have hfA : L 20 = false := hf
            have hrow : RowB w4.heap.size l0 v0 W := by rcases H.glob.1 with h | h; (rw [hfA] at h; cases h); exact h
            have hgb := H.glob.2
            obtain ⟨aN, mN, cN, rfl⟩ := own_slice q92
            obtain ⟨rfl, hrN⟩ := q92.reads
            refine step_append_any (w := W) rfl (.tmp 73) (.tmp 92) 28 rfl w4.heap.size 36 i0 _ 2 16 Try.underlying28 hi hz0 hz1 hz2 rfl (by omega) v0 l0.length (ecells l0) (ev_tmp e73) hrow W.heap.size aN _ cN (ecells [(a1, x1), (a2, x2)]) (ev_tmp e92) hrN (ecells_oneP _) (by unfold maxLen; have := HLl.out; omega) (by have := HLl.out; omega) (by have := hgb.size; have := HwR.out; omega) ?_
            intro v' w' hown' hg' _
            exact hK _ _ ((Keeps.refl _ _).grown hg' (fun _ e => .inl ⟨rfl, e⟩)) (row_app hown') ⟨.inl rfl, hgb.grown hg' (Nat.le_trans HwR.out hgb.size) (fun r e => own_base hrow _ e)⟩
          case o21 =>
            intro L vs A W H hf hd K hK
            obtain ⟨v93, e93, q93⟩ := H.val 20 93 rfl rfl rfl (deps_of' hd 20 (by kernel_rfl)) (by kernel_rfl)
            rw [if_pos (show Region.wanted _ _ = true from rfl)]
            go_simp
            exact hK _ _ (Keeps.refl _ _) q93 H.glob
          case he =>
            intro vs W hlen hv
            match vs, hlen, hv with
            | [x0_, x1_, x2_, x3_, x4_, x5_, x6_, x7_, x8_, x9_, x10_, x11_, x12_, x13_, x14_, x15_, x16_, x17_, x18_, x19_, x20_, x21_], _, hv =>
            obtain rfl : v0 = x0_ := by obtain ⟨z, h1, h2⟩ := hv 0 _ rfl; cases h1; exact h2.symm
            obtain rfl : (.int .u64 base) = x1_ := by obtain ⟨z, h1, h2⟩ := hv 1 _ rfl; cases h1; exact h2.symm
            obtain rfl : (.int .i64 ii) = x2_ := by obtain ⟨z, h1, h2⟩ := hv 2 _ rfl; cases h1; exact h2.symm
            obtain rfl : (.int .u64 a1) = x3_ := by obtain ⟨z, h1, h2⟩ := hv 3 _ rfl; cases h1; exact h2.symm
            obtain rfl : (.int .i64 ii) = x4_ := by obtain ⟨z, h1, h2⟩ := hv 4 _ rfl; cases h1; exact h2.symm
            obtain rfl : (.int .i64 (i1 : Int)) = x5_ := by obtain ⟨z, h1, h2⟩ := hv 5 _ rfl; cases h1; exact h2.symm
            obtain rfl : (.pointer (some ⟨b5, 13, none⟩)) = x6_ := by obtain ⟨z, h1, h2⟩ := hv 6 _ rfl; cases h1; exact h2.symm
            obtain rfl : (.pointer (some ⟨b5, 13 + i1, none⟩)) = x7_ := by obtain ⟨z, h1, h2⟩ := hv 7 _ rfl; cases h1; exact h2.symm
            obtain rfl : (.int .u64 x1) = x8_ := by obtain ⟨z, h1, h2⟩ := hv 8 _ rfl; cases h1; exact h2.symm
            obtain rfl : (.agg #[.int .u64 a1, .int .u64 x1]) = x9_ := by obtain ⟨z, h1, h2⟩ := hv 9 _ rfl; cases h1; exact h2.symm
            obtain rfl : (.int .u64 base) = x10_ := by obtain ⟨z, h1, h2⟩ := hv 10 _ rfl; cases h1; exact h2.symm
            obtain rfl : (.int .i64 ii) = x11_ := by obtain ⟨z, h1, h2⟩ := hv 11 _ rfl; cases h1; exact h2.symm
            obtain rfl : (.int .u64 a2) = x12_ := by obtain ⟨z, h1, h2⟩ := hv 12 _ rfl; cases h1; exact h2.symm
            obtain rfl : (.int .i64 ii) = x13_ := by obtain ⟨z, h1, h2⟩ := hv 13 _ rfl; cases h1; exact h2.symm
            obtain rfl : (.int .i64 (i1 : Int)) = x14_ := by obtain ⟨z, h1, h2⟩ := hv 14 _ rfl; cases h1; exact h2.symm
            obtain rfl : (.pointer (some ⟨b5, 5, none⟩)) = x15_ := by obtain ⟨z, h1, h2⟩ := hv 15 _ rfl; cases h1; exact h2.symm
            obtain rfl : (.pointer (some ⟨b5, 5 + i1, none⟩)) = x16_ := by obtain ⟨z, h1, h2⟩ := hv 16 _ rfl; cases h1; exact h2.symm
            obtain rfl : (.int .u64 x2) = x17_ := by obtain ⟨z, h1, h2⟩ := hv 17 _ rfl; cases h1; exact h2.symm
            obtain rfl : (.agg #[.int .u64 a2, .int .u64 x2]) = x18_ := by obtain ⟨z, h1, h2⟩ := hv 18 _ rfl; cases h1; exact h2.symm
            have hx19 : (RowB wr.heap.size [(a1, x1), (a2, x2)]) x19_ W := by obtain ⟨z, h1, h2⟩ := hv 19 _ rfl; cases h1; exact h2
            have hx20 : (RowB w4.heap.size (l0 ++ [(a1, x1), (a2, x2)])) x20_ W := by obtain ⟨z, h1, h2⟩ := hv 20 _ rfl; cases h1; exact h2
            have hx21 : (RowB w4.heap.size (l0 ++ [(a1, x1), (a2, x2)])) x21_ W := by obtain ⟨z, h1, h2⟩ := hv 21 _ rfl; cases h1; exact h2
            intro L hall hG
            clear hv hlen
            have HO2 := Lib.hid hx21
            have HK2 := Lib.hid (HKr.out.below hG.2 HwK.out)
            have HB2 := Lib.hid (HBr.out.trans hG.2)
            clear hG hall hx19 hx20 hx21
            simp only [fill, if_true]
            go_simp
            go_wp2_with (fail)
            go_roundw
            case rel => exact ⟨j + 1, i1, Lib.hid (by have := HIJ.out; have := HI1.out; omega), b6, HIv.out, Lib.hid (by have := HO2.out; rwa [← HL0.out, List.append_assoc, HSh.out] at this), HK2, HB2⟩
            case measure => simp [intOf]; omega
          --END
        · have hia : i = at_ := by omega
          subst hia
          have hj : j = many - i := by have := HIJ.out; omega
          have b3 : ¬ (i : Int) < (i : Int) := by omega
          have HPt := Lib.hid (fun w => pt_b base i h0 s2 hi8 w)
          have HKt := Lib.hid (fun w => kt_a base i h0 s2 hi8 w)
          have HAh := Lib.hid (fun w => rahead_v n i hi8 w)
          obtain ⟨a1, ha1⟩ : ∃ x, base + 64 + 16 * (i : Int) + 8 = x := ⟨_, rfl⟩
          obtain ⟨a2, ha2⟩ : ∃ x, base + 64 + 16 * (i : Int) = x := ⟨_, rfl⟩
          obtain ⟨ax, hax⟩ : ∃ x, n.ahead i = x := ⟨_, rfl⟩
          rw [ha1] at HPt
          rw [ha2] at HKt
          rw [hax] at HAh
          have HP2 := Lib.hid (show insL base n key ptr (n.last key + 1).toNat = [(base + 24, cOne n)] ++ (l0 ++ [(a1, ax), (a2, key), (a1, ptr)]) ++ [(base + 24, cTwo n)] by
            rw [HP.out, ← HL0.out, hj, ha1, ha2, hax])
          have HLl := Lib.hid (show l0.length + [(a1, ax), (a2, key), (a1, ptr)].length ≤ 100 by simp; omega)
          have HLw := Lib.hid (show (l0 ++ [(a1, ax), (a2, key), (a1, ptr)]).length ≤ 1000 by simp; omega)
          clear ha1 ha2 hax hj hai hlt hi8 HP
          go_upto_region 19 with (fail)
          --GEN r_dins19
          refine wp_region_vals [Is v0, Is (.int .u64 base), Is (.int .i64 (i : Int)), Is (.int .u64 a1), Is (.agg (ndCells n)), Is (.int .i64 (i : Int)), Is (.int .u64 ax), Is (.agg #[.int .u64 a1, .int .u64 ax]), Is (.int .u64 base), Is (.int .i64 (i : Int)), Is (.int .u64 a2), Is (.int .u64 key), Is (.agg #[.int .u64 a2, .int .u64 key]), Is (.int .u64 base), Is (.int .i64 (i : Int)), Is (.int .u64 a1), Is (.int .u64 ptr), Is (.agg #[.int .u64 a1, .int .u64 ptr]), RowB wr.heap.size [(a1, ax), (a2, key), (a1, ptr)], RowB w4.heap.size (l0 ++ [(a1, ax), (a2, key), (a1, ptr)]), RowB w4.heap.size (l0 ++ [(a1, ax), (a2, key), (a1, ptr)])]
            (fun i => Keeps (fun g => i = 19 ∧ v0.ownBlock = some g)) (fun L W => (L 19 = true ∨ RowB w4.heap.size l0 v0 W) ∧ Below w4.heap.size wr W) (by kernel_rfl) (by kernel_rfl) (by kernel_rfl) ?hst ?h0 ⟨?o0, ?o1, ?o2, ?o3, ?o4, ?o5, ?o6, ?o7, ?o8, ?o9, ?o10, ?o11, ?o12, ?o13, ?o14, ?o15, ?o16, ?o17, ?o18, ?o19, ?o20, trivial⟩ ?he
          case hst =>
            exact ⟨(fun _ _ _ _ _ _ h _ => h), (fun _ _ _ _ _ _ h _ => h), (fun _ _ _ _ _ _ h _ => h), (fun _ _ _ _ _ _ h _ => h), (fun _ _ _ _ _ _ h _ => h), (fun _ _ _ _ _ _ h _ => h), (fun _ _ _ _ _ _ h _ => h), (fun _ _ _ _ _ _ h _ => h), (fun _ _ _ _ _ _ h _ => h), (fun _ _ _ _ _ _ h _ => h), (fun _ _ _ _ _ _ h _ => h), (fun _ _ _ _ _ _ h _ => h), (fun _ _ _ _ _ _ h _ => h), (fun _ _ _ _ _ _ h _ => h), (fun _ _ _ _ _ _ h _ => h), (fun _ _ _ _ _ _ h _ => h), (fun _ _ _ _ _ _ h _ => h), (fun _ _ _ _ _ _ h _ => h), (fun i2 hij hw _ _ _ h hR => (if hA : i2 = 19 then by (subst hA; exact RowB.keepApp h hR hn0) else RowB.below h (Keeps.below (hR.mono (fun _ _ hx => hA hx.1))))), (fun i2 hij hw _ _ _ h hR => (if hA : i2 = 19 then by (subst hA; exact absurd rfl hij) else RowB.below h (Keeps.below (hR.mono (fun _ _ hx => hA hx.1))))), (fun i2 hij hw _ _ _ h hR => (if hA : i2 = 19 then by (subst hA; exact by (have h3 : false = true := hw.symm.trans (by kernel_rfl); cases h3)) else RowB.below h (Keeps.below (hR.mono (fun _ _ hx => hA hx.1))))), trivial⟩
          case h0 =>
            exact ⟨.inr (HO.out.below (Below.refl _ _).drew), (Below.refl _ _).drew⟩
          case o0 =>
            intro L vs A W H hf hd K hK
            have e12 : A.tmps[12]?.getD undef = v0 := H.later 12 0 hf (by kernel_rfl)
            go_simp
            exact hK _ _ (Keeps.refl _ _) rfl (H.glob)
          case o1 =>
            intro L vs A W H hf hd K hK
            have e0 : A.tmps[0]?.getD undef = .int .u64 base := H.old 0 (by kernel_rfl)
            go_simp
            exact hK _ _ (Keeps.refl _ _) rfl (H.glob)
          case o2 =>
            intro L vs A W H hf hd K hK
            have e13 : A.tmps[13]?.getD undef = .int .i64 (i : Int) := H.old 13 (by kernel_rfl)
            go_simp
            exact hK _ _ (Keeps.refl _ _) rfl (H.glob)
          case o3 =>
            intro L vs A W H hf hd K hK
            have e95 := H.is 1 95 rfl rfl rfl (deps_of' hd 1 (by kernel_rfl)) (by kernel_rfl)
            have e96 := H.is 2 96 rfl rfl rfl (deps_of' hd 2 (by kernel_rfl)) (by kernel_rfl)
            rw [if_pos (show Region.wanted _ _ = true from rfl)]
            go_wp2_with (fail)
            refine (HPt.out _).mono ?_
            rintro e W2 ⟨rfl, rfl⟩
            exact hK _ _ (Keeps.refl _ _) rfl H.glob
          case o4 =>
            intro L vs A W H hf hd K hK
            have e5 : A.tmps[5]?.getD undef = .pointer (some ⟨b5, 0, none⟩) := H.old 5 (by kernel_rfl)
            rw [if_pos (show Region.wanted _ _ = true from rfl)]
            exact wp_load_nd _ rfl b5 n (ev_tmp e5) (HKr.out.below H.glob.2 HwK.out) (hK _ _ (Keeps.refl _ _) rfl H.glob)
          case o5 =>
            intro L vs A W H hf hd K hK
            have e13 : A.tmps[13]?.getD undef = .int .i64 (i : Int) := H.old 13 (by kernel_rfl)
            go_simp
            exact hK _ _ (Keeps.refl _ _) rfl (H.glob)
          case o6 =>
            intro L vs A W H hf hd K hK
            have e98 := H.is 4 98 rfl rfl rfl (deps_of' hd 4 (by kernel_rfl)) (by kernel_rfl)
            have e99 := H.is 5 99 rfl rfl rfl (deps_of' hd 5 (by kernel_rfl)) (by kernel_rfl)
            rw [if_pos (show Region.wanted _ _ = true from rfl)]
            go_wp2_with (fail)
            refine (HAh.out _).mono ?_
            rintro e W2 ⟨rfl, hB⟩
            exact hK _ _ (Keeps.of_belowS hB) rfl ⟨(by rcases H.glob.1 with h | h; (exact .inl h); exact .inr (h.below hB)), H.glob.2.trans (hB.mono (Nat.le_trans HwR.out H.glob.2.size))⟩
          case o7 =>
            intro L vs A W H hf hd K hK
            have e97 := H.is 3 97 rfl rfl rfl (deps_of' hd 3 (by kernel_rfl)) (by kernel_rfl)
            have e100 := H.is 6 100 rfl rfl rfl (deps_of' hd 6 (by kernel_rfl)) (by kernel_rfl)
            go_simp
            exact hK _ _ (Keeps.refl _ _) rfl (H.glob)
          case o8 =>
            intro L vs A W H hf hd K hK
            have e0 : A.tmps[0]?.getD undef = .int .u64 base := H.old 0 (by kernel_rfl)
            go_simp
            exact hK _ _ (Keeps.refl _ _) rfl (H.glob)
          case o9 =>
            intro L vs A W H hf hd K hK
            have e13 : A.tmps[13]?.getD undef = .int .i64 (i : Int) := H.old 13 (by kernel_rfl)
            go_simp
            exact hK _ _ (Keeps.refl _ _) rfl (H.glob)
          case o10 =>
            intro L vs A W H hf hd K hK
            have e102 := H.is 8 102 rfl rfl rfl (deps_of' hd 8 (by kernel_rfl)) (by kernel_rfl)
            have e103 := H.is 9 103 rfl rfl rfl (deps_of' hd 9 (by kernel_rfl)) (by kernel_rfl)
            rw [if_pos (show Region.wanted _ _ = true from rfl)]
            go_wp2_with (fail)
            refine (HKt.out _).mono ?_
            rintro e W2 ⟨rfl, rfl⟩
            exact hK _ _ (Keeps.refl _ _) rfl H.glob
          case o11 =>
            intro L vs A W H hf hd K hK
            have e2 : A.tmps[2]?.getD undef = .int .u64 key := H.old 2 (by kernel_rfl)
            go_simp
            exact hK _ _ (Keeps.refl _ _) rfl (H.glob)
          case o12 =>
            intro L vs A W H hf hd K hK
            have e104 := H.is 10 104 rfl rfl rfl (deps_of' hd 10 (by kernel_rfl)) (by kernel_rfl)
            have e105 := H.is 11 105 rfl rfl rfl (deps_of' hd 11 (by kernel_rfl)) (by kernel_rfl)
            go_simp
            exact hK _ _ (Keeps.refl _ _) rfl (H.glob)
          case o13 =>
            intro L vs A W H hf hd K hK
            have e0 : A.tmps[0]?.getD undef = .int .u64 base := H.old 0 (by kernel_rfl)
            go_simp
            exact hK _ _ (Keeps.refl _ _) rfl (H.glob)
          case o14 =>
            intro L vs A W H hf hd K hK
            have e13 : A.tmps[13]?.getD undef = .int .i64 (i : Int) := H.old 13 (by kernel_rfl)
            go_simp
            exact hK _ _ (Keeps.refl _ _) rfl (H.glob)
          case o15 =>
            intro L vs A W H hf hd K hK
            have e107 := H.is 13 107 rfl rfl rfl (deps_of' hd 13 (by kernel_rfl)) (by kernel_rfl)
            have e108 := H.is 14 108 rfl rfl rfl (deps_of' hd 14 (by kernel_rfl)) (by kernel_rfl)
            rw [if_pos (show Region.wanted _ _ = true from rfl)]
            go_wp2_with (fail)
            refine (HPt.out _).mono ?_
            rintro e W2 ⟨rfl, rfl⟩
            exact hK _ _ (Keeps.refl _ _) rfl H.glob
          case o16 =>
            intro L vs A W H hf hd K hK
            have e3 : A.tmps[3]?.getD undef = .int .u64 ptr := H.old 3 (by kernel_rfl)
            go_simp
            exact hK _ _ (Keeps.refl _ _) rfl (H.glob)
          case o17 =>
            intro L vs A W H hf hd K hK
            have e109 := H.is 15 109 rfl rfl rfl (deps_of' hd 15 (by kernel_rfl)) (by kernel_rfl)
            have e110 := H.is 16 110 rfl rfl rfl (deps_of' hd 16 (by kernel_rfl)) (by kernel_rfl)
            go_simp
            exact hK _ _ (Keeps.refl _ _) rfl (H.glob)
          case o18 =>
            intro L vs A W H hf hd K hK
            have e101 := H.is 7 101 rfl rfl rfl (deps_of' hd 7 (by kernel_rfl)) (by kernel_rfl)
            have e106 := H.is 12 106 rfl rfl rfl (deps_of' hd 12 (by kernel_rfl)) (by kernel_rfl)
            have e111 := H.is 17 111 rfl rfl rfl (deps_of' hd 17 (by kernel_rfl)) (by kernel_rfl)
            have hgs := H.glob.2.size
            go_simp
            exact hK _ _ (Keeps.of_belowS ((Below.refl _ _).alloc (Nat.le_refl _) _)) (RowB.new (l := [(a1, ax), (a2, key), (a1, ptr)]) hgs) ⟨(by rcases H.glob.1 with h | h; (exact .inl h); exact .inr (h.below ((Below.refl _ _).alloc (Nat.le_refl _) _))), H.glob.2.trans (((Below.refl _ _).alloc (Nat.le_refl _) _).mono (Nat.le_trans HwR.out H.glob.2.size))⟩
          case o19 =>
            intro L vs A W H hf hd K hK
            have e94 := H.is 0 94 rfl rfl rfl (deps_of' hd 0 (by kernel_rfl)) (by kernel_rfl)
            obtain ⟨v112, e112, q112⟩ := H.val 18 112 rfl rfl rfl (deps_of' hd 18 (by kernel_rfl)) (by kernel_rfl)
            have hfA : L 19 = false := hf
            have hrow : RowB w4.heap.size l0 v0 W := by rcases H.glob.1 with h | h; (rw [hfA] at h; cases h); exact h
            have hgb := H.glob.2
            obtain ⟨aN, mN, cN, rfl⟩ := own_slice q112
            obtain ⟨rfl, hrN⟩ := q112.reads
            refine step_append_any (w := W) rfl (.tmp 94) (.tmp 112) 28 rfl w4.heap.size 36 i0 _ 2 16 Try.underlying28 hi hz0 hz1 hz2 rfl (by omega) v0 l0.length (ecells l0) (ev_tmp e94) hrow W.heap.size aN _ cN (ecells [(a1, ax), (a2, key), (a1, ptr)]) (ev_tmp e112) hrN (ecells_oneP _) (by unfold maxLen; have := HLl.out; omega) (by have := HLl.out; omega) (by have := hgb.size; have := HwR.out; omega) ?_
            intro v' w' hown' hg' _
            exact hK _ _ ((Keeps.refl _ _).grown hg' (fun _ e => .inl ⟨rfl, e⟩)) (row_app hown') ⟨.inl rfl, hgb.grown hg' (Nat.le_trans HwR.out hgb.size) (fun r e => own_base hrow _ e)⟩
          case o20 =>
            intro L vs A W H hf hd K hK
            obtain ⟨v113, e113, q113⟩ := H.val 19 113 rfl rfl rfl (deps_of' hd 19 (by kernel_rfl)) (by kernel_rfl)
            rw [if_pos (show Region.wanted _ _ = true from rfl)]
            go_simp
            exact hK _ _ (Keeps.refl _ _) q113 H.glob
          case he =>
            intro vs W hlen hv
            match vs, hlen, hv with
            | [x0_, x1_, x2_, x3_, x4_, x5_, x6_, x7_, x8_, x9_, x10_, x11_, x12_, x13_, x14_, x15_, x16_, x17_, x18_, x19_, x20_], _, hv =>
            obtain rfl : v0 = x0_ := by obtain ⟨z, h1, h2⟩ := hv 0 _ rfl; cases h1; exact h2.symm
            obtain rfl : (.int .u64 base) = x1_ := by obtain ⟨z, h1, h2⟩ := hv 1 _ rfl; cases h1; exact h2.symm
            obtain rfl : (.int .i64 (i : Int)) = x2_ := by obtain ⟨z, h1, h2⟩ := hv 2 _ rfl; cases h1; exact h2.symm
            obtain rfl : (.int .u64 a1) = x3_ := by obtain ⟨z, h1, h2⟩ := hv 3 _ rfl; cases h1; exact h2.symm
            obtain rfl : (.agg (ndCells n)) = x4_ := by obtain ⟨z, h1, h2⟩ := hv 4 _ rfl; cases h1; exact h2.symm
            obtain rfl : (.int .i64 (i : Int)) = x5_ := by obtain ⟨z, h1, h2⟩ := hv 5 _ rfl; cases h1; exact h2.symm
            obtain rfl : (.int .u64 ax) = x6_ := by obtain ⟨z, h1, h2⟩ := hv 6 _ rfl; cases h1; exact h2.symm
            obtain rfl : (.agg #[.int .u64 a1, .int .u64 ax]) = x7_ := by obtain ⟨z, h1, h2⟩ := hv 7 _ rfl; cases h1; exact h2.symm
            obtain rfl : (.int .u64 base) = x8_ := by obtain ⟨z, h1, h2⟩ := hv 8 _ rfl; cases h1; exact h2.symm
            obtain rfl : (.int .i64 (i : Int)) = x9_ := by obtain ⟨z, h1, h2⟩ := hv 9 _ rfl; cases h1; exact h2.symm
            obtain rfl : (.int .u64 a2) = x10_ := by obtain ⟨z, h1, h2⟩ := hv 10 _ rfl; cases h1; exact h2.symm
            obtain rfl : (.int .u64 key) = x11_ := by obtain ⟨z, h1, h2⟩ := hv 11 _ rfl; cases h1; exact h2.symm
            obtain rfl : (.agg #[.int .u64 a2, .int .u64 key]) = x12_ := by obtain ⟨z, h1, h2⟩ := hv 12 _ rfl; cases h1; exact h2.symm
            obtain rfl : (.int .u64 base) = x13_ := by obtain ⟨z, h1, h2⟩ := hv 13 _ rfl; cases h1; exact h2.symm
            obtain rfl : (.int .i64 (i : Int)) = x14_ := by obtain ⟨z, h1, h2⟩ := hv 14 _ rfl; cases h1; exact h2.symm
            obtain rfl : (.int .u64 a1) = x15_ := by obtain ⟨z, h1, h2⟩ := hv 15 _ rfl; cases h1; exact h2.symm
            obtain rfl : (.int .u64 ptr) = x16_ := by obtain ⟨z, h1, h2⟩ := hv 16 _ rfl; cases h1; exact h2.symm
            obtain rfl : (.agg #[.int .u64 a1, .int .u64 ptr]) = x17_ := by obtain ⟨z, h1, h2⟩ := hv 17 _ rfl; cases h1; exact h2.symm
            have hx18 : (RowB wr.heap.size [(a1, ax), (a2, key), (a1, ptr)]) x18_ W := by obtain ⟨z, h1, h2⟩ := hv 18 _ rfl; cases h1; exact h2
            have hx19 : (RowB w4.heap.size (l0 ++ [(a1, ax), (a2, key), (a1, ptr)])) x19_ W := by obtain ⟨z, h1, h2⟩ := hv 19 _ rfl; cases h1; exact h2
            have hx20 : (RowB w4.heap.size (l0 ++ [(a1, ax), (a2, key), (a1, ptr)])) x20_ W := by obtain ⟨z, h1, h2⟩ := hv 20 _ rfl; cases h1; exact h2
            intro L hall hG
            clear hv hlen
            have HO2 := Lib.hid hx20
            have HL2 := Lib.hid (ndLoad (HKr.out.below hG.2 HwK.out))
            have HB2 := Lib.hid (HBr.out.trans hG.2)
            clear hG hall hx18 hx19 hx20
            simp only [fill, if_true]
            go_simp
          --END
            have hx1 : Hid (RowB w4.heap.size (l0 ++ [(a1, ax), (a2, key), (a1, ptr)]) x20_ W) := HO2
            go_wp2_with (with_reducible refine wpList_load_part (o := ⟨some 115, _, _, _, _, _⟩) rfl 27 _ rfl b5 0 rfl (ndCells n) _ HL2.out Try.underlying27 rfl HI.out ?_)
            refine (whole_v base n _ _ _ _ h0 s2 HLw.out hx1.out).mono ?_
            rintro e W2 ⟨v, rfl, ho, hB⟩
            obtain ⟨aa, mm, cc, rfl⟩ := own_slice ho
            have HBf := Lib.hid (HB4.out.trans ((HB2.out.trans (hB.mono HB2.out.size)).mono HB4.out.size))
            have HD := Lib.hid (show MadeP (insL base n key ptr (n.last key + 1).toNat) 0 w (.returned (.tuple #[.slice aa mm cc, .int .i64 0])) W2 from MadeP.row ho HBf.out (Nat.le_trans HB4.out.size HB2.out.size) HP2.out.symm)
            clear ho hB
            go_wp2_with (fail)
            go_ret2
            exact HD.out

theorem insert_d (base : Int) (n : Nd) (key ptr : Int) (h0 : 0 ≤ base) (w : World) :
    Calls Try.prog 33 #[.int .u64 base, .agg (ndCells n), .int .u64 key, .int .u64 ptr] w fun e w' => MadeP (insP base n key ptr) (insE base n key ptr) w e w' := by
  have none_ : ∀ c, c ≠ 0 → insE base n key ptr = c → insP base n key ptr = [] := fun c hc h => by unfold insP; rw [h, if_neg hc]
  by_cases h2 : mayE base n = 2
  · have hE : insE base n key ptr = 2 := by unfold insE; rw [if_pos (.inl h2)]
    rw [none_ 2 (by decide) hE, hE]
    exact dins_2 base n key ptr h0 w h2
  by_cases hf : freshB n ptr = false
  · have hE : insE base n key ptr = 2 := by unfold insE; rw [if_pos (.inr hf)]
    rw [none_ 2 (by decide) hE, hE]
    exact dins_old base n key ptr h0 w h2 hf
  have hft : freshB n ptr = true := by simpa using hf
  have h2f : ¬ (mayE base n = 2 ∨ freshB n ptr = false) := fun h => h.elim h2 hf
  by_cases hm0 : mayE base n = 0
  · by_cases hb : badKey n key = true
    · have hE : insE base n key ptr = 2 := by unfold insE; rw [if_neg h2f, if_neg (by omega), if_pos hb]
      rw [none_ 2 (by decide) hE, hE]
      exact dins_bad base n key ptr h0 w hm0 hft hb
    · have hbf : badKey n key = false := by simpa using hb
      by_cases h8 : n.len = 8
      · have hE : insE base n key ptr = 4 := by unfold insE; rw [if_neg h2f, if_neg (by omega), if_neg hb, if_pos h8]
        rw [none_ 4 (by decide) hE, hE]
        exact dins_full base n key ptr h0 w hm0 hft hbf h8
      · have hE : insE base n key ptr = 0 := by unfold insE; rw [if_neg h2f, if_neg (by omega), if_neg hb, if_neg h8]
        have hP : insP base n key ptr = insL base n key ptr (n.last key + 1).toNat := by unfold insP; rw [if_pos hE]
        rw [hP, hE]
        exact dins_ok base n key ptr h0 w hm0 hft hbf (by have := n.len_le; omega)
  · have hE : insE base n key ptr = mayE base n := by unfold insE; rw [if_neg h2f, if_pos hm0]
    rw [none_ (mayE base n) hm0 hE, hE]
    exact dins_state base n key ptr h0 w h2 hm0 hft
end Go.Proofs.Ytbpaefhihdhdeaa
