/-
  fast.Insert: the last refusals.
-/
import Derived.Test.YtbpaefhihdhdeaaFh
namespace Go.Proofs.Ytbpaefhihdhdeaa
open Go.RowKit


theorem findV_bool (n : Nd) (key : Int) : ∃ i : Int, FindV n key = .tuple #[.int .i64 i, .bool (decide (0 ≤ n.find key))] := by
  obtain ⟨i, b, h, hb⟩ := findV_parts n key
  exact ⟨i, by rw [h, hb]⟩
theorem badKey_no {n : Nd} {key : Int} (h : badKey n key = false) : decide (0 ≤ n.find key) = false ∧ ¬ key < n.lo ∧ (0 < n.lv → (key == n.lo) = false) := by
  unfold badKey at h
  simp only [Bool.or_eq_false_iff] at h
  obtain ⟨⟨h1, h2⟩, h3⟩ := h
  refine ⟨h1, by simpa using h2, fun hl => ?_⟩
  rw [decide_eq_true hl, Bool.true_and] at h3
  exact h3
set_option maxRecDepth 100000 in
set_option maxHeartbeats 400000 in
theorem insert_bad1 (base : Int) (n : Nd) (key ptr : Int) (w : World) (hm : mayE base n = 0) (hf : freshB n ptr = true) (h1 : decide (0 ≤ n.find key) = true) :
    Calls Try.prog 25 #[.int .u64 base, .agg (ndCells n), .int .u64 key, .int .u64 ptr] w fun e w' => MadeP [] 2 w e w' := by
  have HI := Lib.hid (info27 n)
  have hk0 : Blk (w.alloc (.cells (ndCells n) 27)) w.heap.size (ndCells n) 27 := Blk.new w _ _
  have HK0 := Lib.hid hk0
  have HL0 := Lib.hid (ndLoad hk0)
  have HB0 := Lib.hid ((Below.refl w.heap.size w).alloc (Nat.le_refl _) (.cells (ndCells n) 27))
  have HM := Lib.hid (fun w => may_v base n w)
  have HFd := Lib.hid (fun w => nfind_calls n key w)
  have HLn := Lib.hid (fun w => len_calls n w)
  have HFr := Lib.hid (fun w => fresh_v n ptr w)
  clear hk0
  obtain ⟨fi, hfv⟩ := findV_bool n key
  rw [hm] at HM
  rw [hfv] at HFd
  rw [hf] at HFr
  rw [h1] at HFd
  clear hm hf hfv h1
  go_enter Try.func25, Try.ntmps25
  go_wp2_with (fail)
  go_step3
  go_wp2_with (first | (with_reducible refine wpList_load_part (o := ⟨some 18, _, _, _, _, _⟩) rfl 27 _ rfl w.heap.size 0 rfl (ndCells n) _ HL0.out Try.underlying27 rfl HI.out ?_) | (go_at_call 43; refine (HM.out _).mono ?_; rintro e w1 ⟨rfl, hB⟩; have HB1 := Lib.hid (HB0.out.trans (hB.mono HB0.out.size)); have HK1 := Lib.hid (HK0.out.below hB HK0.out.lt); have HL1 := Lib.hid (ndLoad HK1.out); clear hB) | (with_reducible refine wpList_load_part (o := ⟨some 21, _, _, _, _, _⟩) rfl 27 _ rfl w.heap.size 0 rfl (ndCells n) _ HL1.out Try.underlying27 rfl HI.out ?_) | (go_at_call 51; refine (HFd.out _).mono ?_; rintro e w2 ⟨rfl, hB2⟩; have HB2 := Lib.hid (HB1.out.trans (hB2.mono HB1.out.size)); have HK2 := Lib.hid (HK1.out.below hB2 HK1.out.lt); have HL2 := Lib.hid (ndLoad HK2.out); clear hB2) | (with_reducible refine wpList_load_part (o := ⟨some 26, _, _, _, _, _⟩) rfl 27 _ rfl w.heap.size 0 rfl (ndCells n) _ HL2.out Try.underlying27 rfl HI.out ?_))
  refine (HLn.out _).mono ?_
  rintro e w3 ⟨rfl, hB3⟩
  have HB3 := Lib.hid (HB2.out.trans (hB3.mono HB2.out.size))
  have HK3 := Lib.hid (HK2.out.below hB3 HK2.out.lt)
  have HL3 := Lib.hid (ndLoad HK3.out)
  clear hB3
  go_wp2_with (refine wpList_load_gd (o := ⟨some 32, .load 27 (.tmp 5), _, _, _, _⟩) 27 (.tmp 5) ?ho w.heap.size 0 ?hx (ndCells n) _ HL3.out Try.underlying27 rfl HI.out ?hw ?_; (case ho => rfl); (case hx => rfl); (case hw => rfl))
  refine (HFr.out _).mono ?_
  rintro e w4 ⟨rfl, hB4⟩
  have HB4 := Lib.hid (HB3.out.trans (hB4.mono HB3.out.size))
  have HK4 := Lib.hid (HK3.out.below hB4 HK3.out.lt)
  have c0 : w4.cell? ⟨w.heap.size, 0, none⟩ = some (.int .i64 n.lv) := by rw [HK4.out.cell, ndCells_0]
  have c1 : w4.cell? ⟨w.heap.size, 1, none⟩ = some (.int .u64 n.lo) := by rw [HK4.out.cell, ndCells_1]
  clear hB4
  go_wp2_with (fail)
  rw [Exit.noGoto_ret]
  go_ret2
  exact MadeP.err HB4.out
set_option maxRecDepth 100000 in
set_option maxHeartbeats 400000 in
theorem insert_bad2 (base : Int) (n : Nd) (key ptr : Int) (w : World) (hm : mayE base n = 0) (hf : freshB n ptr = true) (h1 : decide (0 ≤ n.find key) = false) (h2 : decide (key < n.lo) = true) :
    Calls Try.prog 25 #[.int .u64 base, .agg (ndCells n), .int .u64 key, .int .u64 ptr] w fun e w' => MadeP [] 2 w e w' := by
  have HI := Lib.hid (info27 n)
  have hk0 : Blk (w.alloc (.cells (ndCells n) 27)) w.heap.size (ndCells n) 27 := Blk.new w _ _
  have HK0 := Lib.hid hk0
  have HL0 := Lib.hid (ndLoad hk0)
  have HB0 := Lib.hid ((Below.refl w.heap.size w).alloc (Nat.le_refl _) (.cells (ndCells n) 27))
  have HM := Lib.hid (fun w => may_v base n w)
  have HFd := Lib.hid (fun w => nfind_calls n key w)
  have HLn := Lib.hid (fun w => len_calls n w)
  have HFr := Lib.hid (fun w => fresh_v n ptr w)
  clear hk0
  obtain ⟨fi, hfv⟩ := findV_bool n key
  rw [hm] at HM
  rw [hfv] at HFd
  rw [hf] at HFr
  rw [h1] at HFd
  clear hm hf hfv h1
  go_enter Try.func25, Try.ntmps25
  go_wp2_with (fail)
  go_step3
  go_wp2_with (first | (with_reducible refine wpList_load_part (o := ⟨some 18, _, _, _, _, _⟩) rfl 27 _ rfl w.heap.size 0 rfl (ndCells n) _ HL0.out Try.underlying27 rfl HI.out ?_) | (go_at_call 43; refine (HM.out _).mono ?_; rintro e w1 ⟨rfl, hB⟩; have HB1 := Lib.hid (HB0.out.trans (hB.mono HB0.out.size)); have HK1 := Lib.hid (HK0.out.below hB HK0.out.lt); have HL1 := Lib.hid (ndLoad HK1.out); clear hB) | (with_reducible refine wpList_load_part (o := ⟨some 21, _, _, _, _, _⟩) rfl 27 _ rfl w.heap.size 0 rfl (ndCells n) _ HL1.out Try.underlying27 rfl HI.out ?_) | (go_at_call 51; refine (HFd.out _).mono ?_; rintro e w2 ⟨rfl, hB2⟩; have HB2 := Lib.hid (HB1.out.trans (hB2.mono HB1.out.size)); have HK2 := Lib.hid (HK1.out.below hB2 HK1.out.lt); have HL2 := Lib.hid (ndLoad HK2.out); clear hB2) | (with_reducible refine wpList_load_part (o := ⟨some 26, _, _, _, _, _⟩) rfl 27 _ rfl w.heap.size 0 rfl (ndCells n) _ HL2.out Try.underlying27 rfl HI.out ?_))
  refine (HLn.out _).mono ?_
  rintro e w3 ⟨rfl, hB3⟩
  have HB3 := Lib.hid (HB2.out.trans (hB3.mono HB2.out.size))
  have HK3 := Lib.hid (HK2.out.below hB3 HK2.out.lt)
  have HL3 := Lib.hid (ndLoad HK3.out)
  clear hB3
  go_wp2_with (refine wpList_load_gd (o := ⟨some 32, .load 27 (.tmp 5), _, _, _, _⟩) 27 (.tmp 5) ?ho w.heap.size 0 ?hx (ndCells n) _ HL3.out Try.underlying27 rfl HI.out ?hw ?_; (case ho => rfl); (case hx => rfl); (case hw => rfl))
  refine (HFr.out _).mono ?_
  rintro e w4 ⟨rfl, hB4⟩
  have HB4 := Lib.hid (HB3.out.trans (hB4.mono HB3.out.size))
  have HK4 := Lib.hid (HK3.out.below hB4 HK3.out.lt)
  have c0 : w4.cell? ⟨w.heap.size, 0, none⟩ = some (.int .i64 n.lv) := by rw [HK4.out.cell, ndCells_0]
  have c1 : w4.cell? ⟨w.heap.size, 1, none⟩ = some (.int .u64 n.lo) := by rw [HK4.out.cell, ndCells_1]
  clear hB4
  go_wp2_with (fail)
  rw [Exit.noGoto_ret]
  go_ret2
  exact MadeP.err HB4.out
set_option maxRecDepth 100000 in
set_option maxHeartbeats 400000 in
theorem insert_bad3 (base : Int) (n : Nd) (key ptr : Int) (w : World) (hm : mayE base n = 0) (hf : freshB n ptr = true) (h1 : decide (0 ≤ n.find key) = false) (h2 : decide (key < n.lo) = false) (h3 : decide (0 < n.lv) = true) (h4 : (key == n.lo) = true) :
    Calls Try.prog 25 #[.int .u64 base, .agg (ndCells n), .int .u64 key, .int .u64 ptr] w fun e w' => MadeP [] 2 w e w' := by
  have HI := Lib.hid (info27 n)
  have hk0 : Blk (w.alloc (.cells (ndCells n) 27)) w.heap.size (ndCells n) 27 := Blk.new w _ _
  have HK0 := Lib.hid hk0
  have HL0 := Lib.hid (ndLoad hk0)
  have HB0 := Lib.hid ((Below.refl w.heap.size w).alloc (Nat.le_refl _) (.cells (ndCells n) 27))
  have HM := Lib.hid (fun w => may_v base n w)
  have HFd := Lib.hid (fun w => nfind_calls n key w)
  have HLn := Lib.hid (fun w => len_calls n w)
  have HFr := Lib.hid (fun w => fresh_v n ptr w)
  clear hk0
  obtain ⟨fi, hfv⟩ := findV_bool n key
  rw [hm] at HM
  rw [hfv] at HFd
  rw [hf] at HFr
  rw [h1] at HFd
  clear hm hf hfv h1
  go_enter Try.func25, Try.ntmps25
  go_wp2_with (fail)
  go_step3
  go_wp2_with (first | (with_reducible refine wpList_load_part (o := ⟨some 18, _, _, _, _, _⟩) rfl 27 _ rfl w.heap.size 0 rfl (ndCells n) _ HL0.out Try.underlying27 rfl HI.out ?_) | (go_at_call 43; refine (HM.out _).mono ?_; rintro e w1 ⟨rfl, hB⟩; have HB1 := Lib.hid (HB0.out.trans (hB.mono HB0.out.size)); have HK1 := Lib.hid (HK0.out.below hB HK0.out.lt); have HL1 := Lib.hid (ndLoad HK1.out); clear hB) | (with_reducible refine wpList_load_part (o := ⟨some 21, _, _, _, _, _⟩) rfl 27 _ rfl w.heap.size 0 rfl (ndCells n) _ HL1.out Try.underlying27 rfl HI.out ?_) | (go_at_call 51; refine (HFd.out _).mono ?_; rintro e w2 ⟨rfl, hB2⟩; have HB2 := Lib.hid (HB1.out.trans (hB2.mono HB1.out.size)); have HK2 := Lib.hid (HK1.out.below hB2 HK1.out.lt); have HL2 := Lib.hid (ndLoad HK2.out); clear hB2) | (with_reducible refine wpList_load_part (o := ⟨some 26, _, _, _, _, _⟩) rfl 27 _ rfl w.heap.size 0 rfl (ndCells n) _ HL2.out Try.underlying27 rfl HI.out ?_))
  refine (HLn.out _).mono ?_
  rintro e w3 ⟨rfl, hB3⟩
  have HB3 := Lib.hid (HB2.out.trans (hB3.mono HB2.out.size))
  have HK3 := Lib.hid (HK2.out.below hB3 HK2.out.lt)
  have HL3 := Lib.hid (ndLoad HK3.out)
  clear hB3
  go_wp2_with (refine wpList_load_gd (o := ⟨some 32, .load 27 (.tmp 5), _, _, _, _⟩) 27 (.tmp 5) ?ho w.heap.size 0 ?hx (ndCells n) _ HL3.out Try.underlying27 rfl HI.out ?hw ?_; (case ho => rfl); (case hx => rfl); (case hw => rfl))
  refine (HFr.out _).mono ?_
  rintro e w4 ⟨rfl, hB4⟩
  have HB4 := Lib.hid (HB3.out.trans (hB4.mono HB3.out.size))
  have HK4 := Lib.hid (HK3.out.below hB4 HK3.out.lt)
  have c0 : w4.cell? ⟨w.heap.size, 0, none⟩ = some (.int .i64 n.lv) := by rw [HK4.out.cell, ndCells_0]
  have c1 : w4.cell? ⟨w.heap.size, 1, none⟩ = some (.int .u64 n.lo) := by rw [HK4.out.cell, ndCells_1]
  clear hB4
  go_wp2_with (fail)
  rw [Exit.noGoto_ret]
  go_ret2
  exact MadeP.err HB4.out
set_option maxRecDepth 100000 in
set_option maxHeartbeats 800000 in
theorem insert_full (base : Int) (n : Nd) (key ptr : Int) (w : World) (hm : mayE base n = 0) (hf : freshB n ptr = true) (hb : badKey n key = false) (h8 : n.len = 8) :
    Calls Try.prog 25 #[.int .u64 base, .agg (ndCells n), .int .u64 key, .int .u64 ptr] w fun e w' => MadeP [] 4 w e w' := by
  have HI := Lib.hid (info27 n)
  have hk0 : Blk (w.alloc (.cells (ndCells n) 27)) w.heap.size (ndCells n) 27 := Blk.new w _ _
  have HK0 := Lib.hid hk0
  have HL0 := Lib.hid (ndLoad hk0)
  have HB0 := Lib.hid ((Below.refl w.heap.size w).alloc (Nat.le_refl _) (.cells (ndCells n) 27))
  have HM := Lib.hid (fun w => may_v base n w)
  have HFd := Lib.hid (fun w => nfind_calls n key w)
  have HLn := Lib.hid (fun w => len_calls n w)
  have HFr := Lib.hid (fun w => fresh_v n ptr w)
  clear hk0
  obtain ⟨fi, hfv⟩ := findV_bool n key
  rw [hm] at HM
  rw [hfv] at HFd
  rw [hf] at HFr
  obtain ⟨h1, h2, h3⟩ := badKey_no hb
  rw [h1] at HFd
  rw [h8] at HLn
  have h2b : decide (key < n.lo) = false := decide_eq_false h2
  by_cases hl : 0 < n.lv
  · have h4 := h3 hl
    have h3b : decide (0 < n.lv) = true := decide_eq_true hl
    clear hm hf hfv hb h1 h8 h3 h2 hl
    go_enter Try.func25, Try.ntmps25
    go_wp2_with (fail)
    go_step3
    go_wp2_with (first | (with_reducible refine wpList_load_part (o := ⟨some 18, _, _, _, _, _⟩) rfl 27 _ rfl w.heap.size 0 rfl (ndCells n) _ HL0.out Try.underlying27 rfl HI.out ?_) | (go_at_call 43; refine (HM.out _).mono ?_; rintro e w1 ⟨rfl, hB⟩; have HB1 := Lib.hid (HB0.out.trans (hB.mono HB0.out.size)); have HK1 := Lib.hid (HK0.out.below hB HK0.out.lt); have HL1 := Lib.hid (ndLoad HK1.out); clear hB) | (with_reducible refine wpList_load_part (o := ⟨some 21, _, _, _, _, _⟩) rfl 27 _ rfl w.heap.size 0 rfl (ndCells n) _ HL1.out Try.underlying27 rfl HI.out ?_) | (go_at_call 51; refine (HFd.out _).mono ?_; rintro e w2 ⟨rfl, hB2⟩; have HB2 := Lib.hid (HB1.out.trans (hB2.mono HB1.out.size)); have HK2 := Lib.hid (HK1.out.below hB2 HK1.out.lt); have HL2 := Lib.hid (ndLoad HK2.out); clear hB2) | (with_reducible refine wpList_load_part (o := ⟨some 26, _, _, _, _, _⟩) rfl 27 _ rfl w.heap.size 0 rfl (ndCells n) _ HL2.out Try.underlying27 rfl HI.out ?_))
    refine (HLn.out _).mono ?_
    rintro e w3 ⟨rfl, hB3⟩
    have HB3 := Lib.hid (HB2.out.trans (hB3.mono HB2.out.size))
    have HK3 := Lib.hid (HK2.out.below hB3 HK2.out.lt)
    have HL3 := Lib.hid (ndLoad HK3.out)
    clear hB3
    go_wp2_with (refine wpList_load_gd (o := ⟨some 32, .load 27 (.tmp 5), _, _, _, _⟩) 27 (.tmp 5) ?ho w.heap.size 0 ?hx (ndCells n) _ HL3.out Try.underlying27 rfl HI.out ?hw ?_; (case ho => rfl); (case hx => rfl); (case hw => rfl))
    refine (HFr.out _).mono ?_
    rintro e w4 ⟨rfl, hB4⟩
    have HB4 := Lib.hid (HB3.out.trans (hB4.mono HB3.out.size))
    have HK4 := Lib.hid (HK3.out.below hB4 HK3.out.lt)
    have c0 : w4.cell? ⟨w.heap.size, 0, none⟩ = some (.int .i64 n.lv) := by rw [HK4.out.cell, ndCells_0]
    have c1 : w4.cell? ⟨w.heap.size, 1, none⟩ = some (.int .u64 n.lo) := by rw [HK4.out.cell, ndCells_1]
    clear hB4
    go_wp2_with (fail)
    rw [Exit.noGoto_ret]
    go_ret2
    exact MadeP.err HB4.out
  · have h3b : decide (0 < n.lv) = false := decide_eq_false hl
    clear hm hf hfv hb h1 h8 h3 h2 hl
    go_enter Try.func25, Try.ntmps25
    go_wp2_with (fail)
    go_step3
    go_wp2_with (first | (with_reducible refine wpList_load_part (o := ⟨some 18, _, _, _, _, _⟩) rfl 27 _ rfl w.heap.size 0 rfl (ndCells n) _ HL0.out Try.underlying27 rfl HI.out ?_) | (go_at_call 43; refine (HM.out _).mono ?_; rintro e w1 ⟨rfl, hB⟩; have HB1 := Lib.hid (HB0.out.trans (hB.mono HB0.out.size)); have HK1 := Lib.hid (HK0.out.below hB HK0.out.lt); have HL1 := Lib.hid (ndLoad HK1.out); clear hB) | (with_reducible refine wpList_load_part (o := ⟨some 21, _, _, _, _, _⟩) rfl 27 _ rfl w.heap.size 0 rfl (ndCells n) _ HL1.out Try.underlying27 rfl HI.out ?_) | (go_at_call 51; refine (HFd.out _).mono ?_; rintro e w2 ⟨rfl, hB2⟩; have HB2 := Lib.hid (HB1.out.trans (hB2.mono HB1.out.size)); have HK2 := Lib.hid (HK1.out.below hB2 HK1.out.lt); have HL2 := Lib.hid (ndLoad HK2.out); clear hB2) | (with_reducible refine wpList_load_part (o := ⟨some 26, _, _, _, _, _⟩) rfl 27 _ rfl w.heap.size 0 rfl (ndCells n) _ HL2.out Try.underlying27 rfl HI.out ?_))
    refine (HLn.out _).mono ?_
    rintro e w3 ⟨rfl, hB3⟩
    have HB3 := Lib.hid (HB2.out.trans (hB3.mono HB2.out.size))
    have HK3 := Lib.hid (HK2.out.below hB3 HK2.out.lt)
    have HL3 := Lib.hid (ndLoad HK3.out)
    clear hB3
    go_wp2_with (refine wpList_load_gd (o := ⟨some 32, .load 27 (.tmp 5), _, _, _, _⟩) 27 (.tmp 5) ?ho w.heap.size 0 ?hx (ndCells n) _ HL3.out Try.underlying27 rfl HI.out ?hw ?_; (case ho => rfl); (case hx => rfl); (case hw => rfl))
    refine (HFr.out _).mono ?_
    rintro e w4 ⟨rfl, hB4⟩
    have HB4 := Lib.hid (HB3.out.trans (hB4.mono HB3.out.size))
    have HK4 := Lib.hid (HK3.out.below hB4 HK3.out.lt)
    have c0 : w4.cell? ⟨w.heap.size, 0, none⟩ = some (.int .i64 n.lv) := by rw [HK4.out.cell, ndCells_0]
    have c1 : w4.cell? ⟨w.heap.size, 1, none⟩ = some (.int .u64 n.lo) := by rw [HK4.out.cell, ndCells_1]
    clear hB4
    go_wp2_with (fail)
    rw [Exit.noGoto_ret]
    go_ret2
    exact MadeP.err HB4.out
end Go.Proofs.Ytbpaefhihdhdeaa
