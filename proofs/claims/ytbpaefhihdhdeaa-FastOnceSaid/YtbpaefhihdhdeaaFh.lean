/-
  fast.Insert: a contract.
-/
import Derived.Test.YtbpaefhihdhdeaaFg
import Derived.Test.YtbpaefhihdhdeaaInvG
namespace Go.Proofs.Ytbpaefhihdhdeaa
open Go.RowKit

/-- the stores that make room, from the last entry down -/
def shiftL (base : Int) (n : Nd) (many : Nat) : Nat → List (Int × Int)
  | 0 => []
  | j + 1 => shiftL base n many j ++ [(base + 64 + 16 * ((many - j : Nat) : Int) + 8, n.p (many - j - 1)), (base + 64 + 16 * ((many - j : Nat) : Int), n.k (many - j - 1))]
theorem shiftL_len (base : Int) (n : Nd) (many : Nat) : ∀ j, (shiftL base n many j).length = 2 * j
  | 0 => rfl
  | j + 1 => by rw [shiftL, List.length_append, shiftL_len base n many j]; simp; omega
def insL (base : Int) (n : Nd) (key ptr : Int) (at_ : Nat) : List (Int × Int) :=
  [(base + 24, cOne n)] ++ (if n.len + 1 < 8 then [(base + 64 + 16 * ((n.len + 1 : Nat) : Int) + 8, 0)] else []) ++ shiftL base n n.len (n.len - at_) ++
    [(base + 64 + 16 * (at_ : Int) + 8, n.ahead at_), (base + 64 + 16 * (at_ : Int), key), (base + 64 + 16 * (at_ : Int) + 8, ptr)] ++ [(base + 24, cTwo n)]
def badKey (n : Nd) (key : Int) : Bool := decide (0 ≤ n.find key) || decide (key < n.lo) || (decide (0 < n.lv) && (key == n.lo))
def insE (base : Int) (n : Nd) (key ptr : Int) : Int :=
  if mayE base n = 2 ∨ freshB n ptr = false then 2 else if mayE base n ≠ 0 then mayE base n else if badKey n key = true then 2 else if n.len = 8 then 4 else 0
def insP (base : Int) (n : Nd) (key ptr : Int) : List (Int × Int) := if insE base n key ptr = 0 then insL base n key ptr (n.last key + 1).toNat else []


/-- whatever Find says, in two values -/
theorem findV_parts (n : Nd) (key : Int) : ∃ (i : Int) (b : Bool), FindV n key = .tuple #[.int .i64 i, .bool b] ∧ b = decide (0 ≤ n.find key) := by
  unfold FindV
  by_cases h : n.find key < 0
  · rw [if_pos h]; exact ⟨0, false, rfl, (decide_eq_false (by omega)).symm⟩
  · rw [if_neg h]; exact ⟨_, true, rfl, (decide_eq_true (by omega)).symm⟩

set_option maxRecDepth 100000 in
set_option maxHeartbeats 3200000 in
theorem insert_arg (base : Int) (n : Nd) (key ptr : Int) (w : World) (hm : mayE base n = 2) :
    Calls Try.prog 25 #[.int .u64 base, .agg (ndCells n), .int .u64 key, .int .u64 ptr] w fun e w' => MadeP [] 2 w e w' := by
  have HI := Lib.hid (info27 n)
  have hk0 : Blk (w.alloc (.cells (ndCells n) 27)) w.heap.size (ndCells n) 27 := Blk.new w _ _
  have HK0 := Lib.hid hk0
  have HL0 := Lib.hid (ndLoad hk0)
  have HB0 := Lib.hid ((Below.refl w.heap.size w).alloc (Nat.le_refl _) (.cells (ndCells n) 27))
  have HM := Lib.hid (fun w => may_v base n w)
  have HFd := Lib.hid (fun w => nfind_calls n key w)
  have HLn := Lib.hid (fun w => len_calls n w)
  have HFr := Lib.hid (fun w => fresh_v n ptr w)
  clear hk0
  obtain ⟨fi, fb, hfv, _⟩ := findV_parts n key
  rw [hm] at HM
  rw [hfv] at HFd
  clear hm hfv
  go_enter Try.func25, Try.ntmps25
  go_wp2_with (fail)
  go_step3
  go_wp2_with (first | (with_reducible refine wpList_load_part (o := ⟨some 18, _, _, _, _, _⟩) rfl 27 _ rfl w.heap.size 0 rfl (ndCells n) _ HL0.out Try.underlying27 rfl HI.out ?_) | (go_at_call 43; refine (HM.out _).mono ?_; rintro e w1 ⟨rfl, hB⟩; have HB1 := Lib.hid (HB0.out.trans (hB.mono HB0.out.size)); have HK1 := Lib.hid (HK0.out.below hB HK0.out.lt); have HL1 := Lib.hid (ndLoad HK1.out); clear hB) | (with_reducible refine wpList_load_part (o := ⟨some 21, _, _, _, _, _⟩) rfl 27 _ rfl w.heap.size 0 rfl (ndCells n) _ HL1.out Try.underlying27 rfl HI.out ?_) | (go_at_call 51; refine (HFd.out _).mono ?_; rintro e w2 ⟨rfl, hB2⟩; have HB2 := Lib.hid (HB1.out.trans (hB2.mono HB1.out.size)); have HK2 := Lib.hid (HK1.out.below hB2 HK1.out.lt); have HL2 := Lib.hid (ndLoad HK2.out); clear hB2) | (with_reducible refine wpList_load_part (o := ⟨some 26, _, _, _, _, _⟩) rfl 27 _ rfl w.heap.size 0 rfl (ndCells n) _ HL2.out Try.underlying27 rfl HI.out ?_))
  refine (HLn.out _).mono ?_
  rintro e w3 ⟨rfl, hB3⟩
  have HB3 := Lib.hid (HB2.out.trans (hB3.mono HB2.out.size))
  have HK3 := Lib.hid (HK2.out.below hB3 HK2.out.lt)
  have HL3 := Lib.hid (ndLoad HK3.out)
  clear hB3
  go_wp2_with (fail)
  rw [Exit.noGoto_ret]
  go_ret2
  exact MadeP.err HB3.out
set_option maxRecDepth 100000 in
set_option maxHeartbeats 3200000 in
theorem insert_old (base : Int) (n : Nd) (key ptr : Int) (w : World) (hm : mayE base n ≠ 2) (hf : freshB n ptr = false) :
    Calls Try.prog 25 #[.int .u64 base, .agg (ndCells n), .int .u64 key, .int .u64 ptr] w fun e w' => MadeP [] 2 w e w' := by
  have HI := Lib.hid (info27 n)
  have hk0 : Blk (w.alloc (.cells (ndCells n) 27)) w.heap.size (ndCells n) 27 := Blk.new w _ _
  have HK0 := Lib.hid hk0
  have HL0 := Lib.hid (ndLoad hk0)
  have HB0 := Lib.hid ((Below.refl w.heap.size w).alloc (Nat.le_refl _) (.cells (ndCells n) 27))
  have HM := Lib.hid (fun w => may_v base n w)
  have HFd := Lib.hid (fun w => nfind_calls n key w)
  have HLn := Lib.hid (fun w => len_calls n w)
  have HFr := Lib.hid (fun w => fresh_v n ptr w)
  clear hk0
  obtain ⟨fi, fb, hfv, _⟩ := findV_parts n key
  obtain ⟨M, hM⟩ : ∃ M, mayE base n = M := ⟨_, rfl⟩
  rw [hM] at HM hm
  rw [hfv] at HFd
  rw [hf] at HFr
  have q1 : (M == 2) = false := by simpa using hm
  clear hm hM hfv hf
  go_enter Try.func25, Try.ntmps25
  go_wp2_with (fail)
  go_step3
  go_wp2_with (first | (with_reducible refine wpList_load_part (o := ⟨some 18, _, _, _, _, _⟩) rfl 27 _ rfl w.heap.size 0 rfl (ndCells n) _ HL0.out Try.underlying27 rfl HI.out ?_) | (go_at_call 43; refine (HM.out _).mono ?_; rintro e w1 ⟨rfl, hB⟩; have HB1 := Lib.hid (HB0.out.trans (hB.mono HB0.out.size)); have HK1 := Lib.hid (HK0.out.below hB HK0.out.lt); have HL1 := Lib.hid (ndLoad HK1.out); clear hB) | (with_reducible refine wpList_load_part (o := ⟨some 21, _, _, _, _, _⟩) rfl 27 _ rfl w.heap.size 0 rfl (ndCells n) _ HL1.out Try.underlying27 rfl HI.out ?_) | (go_at_call 51; refine (HFd.out _).mono ?_; rintro e w2 ⟨rfl, hB2⟩; have HB2 := Lib.hid (HB1.out.trans (hB2.mono HB1.out.size)); have HK2 := Lib.hid (HK1.out.below hB2 HK1.out.lt); have HL2 := Lib.hid (ndLoad HK2.out); clear hB2) | (with_reducible refine wpList_load_part (o := ⟨some 26, _, _, _, _, _⟩) rfl 27 _ rfl w.heap.size 0 rfl (ndCells n) _ HL2.out Try.underlying27 rfl HI.out ?_))
  refine (HLn.out _).mono ?_
  rintro e w3 ⟨rfl, hB3⟩
  have HB3 := Lib.hid (HB2.out.trans (hB3.mono HB2.out.size))
  have HK3 := Lib.hid (HK2.out.below hB3 HK2.out.lt)
  have HL3 := Lib.hid (ndLoad HK3.out)
  clear hB3
  go_wp2_with (refine wpList_load_gd (o := ⟨some 32, .load 27 (.tmp 5), _, _, _, _⟩) 27 (.tmp 5) ?ho w.heap.size 0 ?hx (ndCells n) _ HL3.out Try.underlying27 rfl HI.out ?hw ?_; (case ho => rfl); (case hx => rfl); (case hw => rfl))
  refine (HFr.out _).mono ?_
  rintro e w4 ⟨rfl, hB4⟩
  have HB4 := Lib.hid (HB3.out.trans (hB4.mono HB3.out.size))
  have HK4 := Lib.hid (HK3.out.below hB4 HK3.out.lt)
  have c0 : w4.cell? ⟨w.heap.size, 0, none⟩ = some (.int .i64 n.lv) := by rw [HK4.out.cell, ndCells_0]
  have c1 : w4.cell? ⟨w.heap.size, 1, none⟩ = some (.int .u64 n.lo) := by rw [HK4.out.cell, ndCells_1]
  clear hB4
  go_wp2_with (fail)
  rw [Exit.noGoto_ret]
  go_ret2
  exact MadeP.err HB4.out
set_option maxRecDepth 100000 in
set_option maxHeartbeats 3200000 in
theorem insert_state (base : Int) (n : Nd) (key ptr : Int) (w : World) (hm : mayE base n ≠ 2) (hm0 : mayE base n ≠ 0) (hf : freshB n ptr = true) :
    Calls Try.prog 25 #[.int .u64 base, .agg (ndCells n), .int .u64 key, .int .u64 ptr] w fun e w' => MadeP [] (mayE base n) w e w' := by
  have HI := Lib.hid (info27 n)
  have hk0 : Blk (w.alloc (.cells (ndCells n) 27)) w.heap.size (ndCells n) 27 := Blk.new w _ _
  have HK0 := Lib.hid hk0
  have HL0 := Lib.hid (ndLoad hk0)
  have HB0 := Lib.hid ((Below.refl w.heap.size w).alloc (Nat.le_refl _) (.cells (ndCells n) 27))
  have HM := Lib.hid (fun w => may_v base n w)
  have HFd := Lib.hid (fun w => nfind_calls n key w)
  have HLn := Lib.hid (fun w => len_calls n w)
  have HFr := Lib.hid (fun w => fresh_v n ptr w)
  clear hk0
  obtain ⟨fi, fb, hfv, _⟩ := findV_parts n key
  obtain ⟨M, hM⟩ : ∃ M, mayE base n = M := ⟨_, rfl⟩
  rw [hM] at HM hm hm0 ⊢
  rw [hfv] at HFd
  rw [hf] at HFr
  have q1 : (M == 2) = false := by simpa using hm
  have q2 : (M != 0) = true := by simpa using hm0
  clear hm hM hfv hf hm0
  go_enter Try.func25, Try.ntmps25
  go_wp2_with (fail)
  go_step3
  go_wp2_with (first | (with_reducible refine wpList_load_part (o := ⟨some 18, _, _, _, _, _⟩) rfl 27 _ rfl w.heap.size 0 rfl (ndCells n) _ HL0.out Try.underlying27 rfl HI.out ?_) | (go_at_call 43; refine (HM.out _).mono ?_; rintro e w1 ⟨rfl, hB⟩; have HB1 := Lib.hid (HB0.out.trans (hB.mono HB0.out.size)); have HK1 := Lib.hid (HK0.out.below hB HK0.out.lt); have HL1 := Lib.hid (ndLoad HK1.out); clear hB) | (with_reducible refine wpList_load_part (o := ⟨some 21, _, _, _, _, _⟩) rfl 27 _ rfl w.heap.size 0 rfl (ndCells n) _ HL1.out Try.underlying27 rfl HI.out ?_) | (go_at_call 51; refine (HFd.out _).mono ?_; rintro e w2 ⟨rfl, hB2⟩; have HB2 := Lib.hid (HB1.out.trans (hB2.mono HB1.out.size)); have HK2 := Lib.hid (HK1.out.below hB2 HK1.out.lt); have HL2 := Lib.hid (ndLoad HK2.out); clear hB2) | (with_reducible refine wpList_load_part (o := ⟨some 26, _, _, _, _, _⟩) rfl 27 _ rfl w.heap.size 0 rfl (ndCells n) _ HL2.out Try.underlying27 rfl HI.out ?_))
  refine (HLn.out _).mono ?_
  rintro e w3 ⟨rfl, hB3⟩
  have HB3 := Lib.hid (HB2.out.trans (hB3.mono HB2.out.size))
  have HK3 := Lib.hid (HK2.out.below hB3 HK2.out.lt)
  have HL3 := Lib.hid (ndLoad HK3.out)
  clear hB3
  go_wp2_with (refine wpList_load_gd (o := ⟨some 32, .load 27 (.tmp 5), _, _, _, _⟩) 27 (.tmp 5) ?ho w.heap.size 0 ?hx (ndCells n) _ HL3.out Try.underlying27 rfl HI.out ?hw ?_; (case ho => rfl); (case hx => rfl); (case hw => rfl))
  refine (HFr.out _).mono ?_
  rintro e w4 ⟨rfl, hB4⟩
  have HB4 := Lib.hid (HB3.out.trans (hB4.mono HB3.out.size))
  have HK4 := Lib.hid (HK3.out.below hB4 HK3.out.lt)
  have c0 : w4.cell? ⟨w.heap.size, 0, none⟩ = some (.int .i64 n.lv) := by rw [HK4.out.cell, ndCells_0]
  have c1 : w4.cell? ⟨w.heap.size, 1, none⟩ = some (.int .u64 n.lo) := by rw [HK4.out.cell, ndCells_1]
  clear hB4
  go_wp2_with (fail)
  rw [Exit.noGoto_ret]
  go_ret2
  exact MadeP.err HB4.out
end Go.Proofs.Ytbpaefhihdhdeaa
