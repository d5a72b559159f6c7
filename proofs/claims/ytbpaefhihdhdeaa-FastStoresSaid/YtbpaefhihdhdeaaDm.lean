/-
  The document's may, had, ahead, whole: contracts.
-/
import Derived.Test.YtbpaefhihdhdeaaRp
import Derived.Test.YtbpaefhihdhdeaaAr
import Derived.Test.YtbpaefhihdhdeaaRd
namespace Go.Proofs.Ytbpaefhihdhdeaa
open Go.RowKit
set_option linter.unusedVariables false

theorem pt_b (b : Int) (i : Nat) (h0 : 0 ≤ b) (h : b ≤ 1099511627776) (hi8 : i ≤ 8) (w : World) : Calls Try.prog 29 #[.int .u64 b, .int .i64 i] w fun e w' => e = .returned (.int .u64 (b + 64 + 16 * (i : Int) + 8)) ∧ w' = w := by
  have := pt_a b i h0 h hi8 w
  rwa [show b + 72 + 16 * (i : Int) = b + 64 + 16 * (i : Int) + 8 by omega] at this

/-! ### may -/
theorem mayE_no {base : Int} {n : Nd} (h : ¬ Stands base) : mayE base n = 2 := by unfold mayE; rw [if_neg (fun x => h x.1)]
set_option maxRecDepth 100000 in
set_option maxHeartbeats 1600000 in
theorem rmay_v (base : Int) (n : Nd) (h0 : 0 ≤ base) (w : World) :
    Calls Try.prog 60 #[.int .u64 base, .agg (ndCells n)] w fun e w' => e = .returned (.int .i64 (mayE base n)) ∧ Below w.heap.size w w' := by
  have HI := Lib.hid (info27 n)
  have hk0 : Blk (w.alloc (.cells (ndCells n) 27)) w.heap.size (ndCells n) 27 := Blk.new w _ _
  have HK0 := Lib.hid hk0
  have HL0 := Lib.hid (ndLoad hk0)
  have HB0 := Lib.hid ((Below.refl w.heap.size w).alloc (Nat.le_refl _) (.cells (ndCells n) 27))
  have FIN := Lib.hid (fun (r : Int) (hr : mayE base n = r) => show Ending.returned (.int .i64 r) = .returned (.int .i64 (mayE base n)) by rw [hr])
  clear hk0
  cases q1 : (base == 0)
  case true =>
    have HF := Lib.hid (FIN.out 2 (mayE_no (fun ⟨a, b, c⟩ => by have : base = 0 := (by simpa using q1); omega)))
    go_enter Try.func60, Try.ntmps60
    go_wp2_with (fail)
    go_ret
    exact ⟨HF.out, HB0.out⟩
  case false =>
  cases q2 : decide (1099511627776 < base)
  case true =>
    have HF := Lib.hid (FIN.out 2 (mayE_no (fun ⟨a, b, c⟩ => by have := of_decide_eq_true q2; omega)))
    go_enter Try.func60, Try.ntmps60
    go_wp2_with (fail)
    go_ret
    exact ⟨HF.out, HB0.out⟩
  case false =>
  cases q3 : (base % 64 != 0)
  case true =>
    have HF := Lib.hid (FIN.out 2 (mayE_no (fun ⟨a, b, c⟩ => by rw [c] at q3; simp at q3)))
    go_enter Try.func60, Try.ntmps60
    go_wp2_with (fail)
    go_ret
    exact ⟨HF.out, HB0.out⟩
  case false =>
  have hs : Stands base := by
    have h1 : base ≠ 0 := by simpa using q1
    have h2 := of_decide_eq_false q2
    exact ⟨by omega, by omega, by simpa using q3⟩
  have HMy := Lib.hid (fun w => rmay_calls n 0 false w)
  cases hm : n.mayB 0 false
  case false =>
    have HF := Lib.hid (FIN.out 2 (by unfold mayE; rw [if_neg (fun x => by rw [hm] at x; cases x.2)]))
    rw [hm] at HMy
    clear hm hs
    go_enter Try.func60, Try.ntmps60
    go_wp2_with (refine wpList_load_gd (o := ⟨some 17, .load 27 (.tmp 3), _, _, _, _⟩) 27 (.tmp 3) ?ho w.heap.size 0 ?hx (ndCells n) _ HL0.out Try.underlying27 rfl HI.out ?hw ?_; (case ho => rfl); (case hx => rfl); (case hw => rfl))
    refine (HMy.out _).mono ?_
    rintro e w1 ⟨rfl, hB⟩
    have HB1 := Lib.hid (HB0.out.trans (hB.mono HB0.out.size))
    clear hB
    go_wp2_with (fail)
    go_ret
    exact ⟨HF.out, HB1.out⟩
  case true =>
    have HF := Lib.hid (FIN.out (if 0 ≤ n.inval then 7 else 0) (by unfold mayE; rw [if_pos ⟨hs, hm⟩, inval_eq]))
    rw [hm] at HMy
    have HIv := Lib.hid (fun w => rinvalid_calls n w)
    obtain ⟨iv, hiv⟩ : ∃ z, n.inval = z := ⟨_, rfl⟩
    rw [hiv] at HF HIv
    clear hm hs hiv
    go_enter Try.func60, Try.ntmps60
    go_wp2_with (refine wpList_load_gd (o := ⟨some 17, .load 27 (.tmp 3), _, _, _, _⟩) 27 (.tmp 3) ?ho w.heap.size 0 ?hx (ndCells n) _ HL0.out Try.underlying27 rfl HI.out ?hw ?_; (case ho => rfl); (case hx => rfl); (case hw => rfl))
    refine (HMy.out _).mono ?_
    rintro e w1 ⟨rfl, hB⟩
    have HB1 := Lib.hid (HB0.out.trans (hB.mono HB0.out.size))
    have HL1 := Lib.hid (ndLoad (HK0.out.below hB HK0.out.lt))
    clear hB
    go_wp2_with (with_reducible refine wpList_load_part (o := ⟨some 21, _, _, _, _, _⟩) rfl 27 _ rfl w.heap.size 0 rfl (ndCells n) _ HL1.out Try.underlying27 rfl HI.out ?_)
    refine (HIv.out _).mono ?_
    rintro e w2 ⟨rfl, hB⟩
    have HB2 := Lib.hid (HB1.out.trans (hB.mono HB1.out.size))
    clear hB
    by_cases hq : 0 ≤ iv
    · have HF2 := Lib.hid (show Ending.returned (.int .i64 7) = .returned (.int .i64 (mayE base n)) by have := HF.out; rwa [if_pos hq] at this)
      go_wp2_with (fail)
      go_ret
      exact ⟨HF2.out, HB2.out⟩
    · have HF2 := Lib.hid (show Ending.returned (.int .i64 0) = .returned (.int .i64 (mayE base n)) by have := HF.out; rwa [if_neg hq] at this)
      go_wp2_with (fail)
      go_ret
      exact ⟨HF2.out, HB2.out⟩

/-! ### had -/
theorem fresh_not {n : Nd} {p : Int} {k : Nat} (hk : k < n.len) (h : (n.p k == p) = true) : freshB n p = false := by
  unfold freshB
  have : ((List.range n.len).any fun j => p == n.p j) = true := List.any_eq_true.2 ⟨k, List.mem_range.2 hk, by have : n.p k = p := (by simpa using h); simp [this]⟩
  rw [this]; simp
theorem fresh_end {n : Nd} {p : Int} (h : ∀ j, j < n.len → (n.p j == p) = false) : freshB n p = ((p != 0) && (p != n.fi)) := by
  unfold freshB
  have : ((List.range n.len).any fun j => p == n.p j) = false := by
    rw [List.any_eq_false]
    intro j hj
    have := h j (List.mem_range.1 hj)
    simp at this ⊢
    exact fun e => this e.symm
  rw [this]; simp
set_option maxRecDepth 100000 in
set_option maxHeartbeats 1600000 in
theorem had_v (n : Nd) (p : Int) (w : World) :
    Calls Try.prog 61 #[.agg (ndCells n), .int .u64 p] w fun e w' => e = .returned (.bool (!freshB n p)) ∧ Below w.heap.size w w' := by
  have HI := Lib.hid (info27 n)
  have hk0 : Blk (w.alloc (.cells (ndCells n) 27)) w.heap.size (ndCells n) 27 := Blk.new w _ _
  have HK0 := Lib.hid hk0
  have HB0 := Lib.hid ((Below.refl w.heap.size w).alloc (Nat.le_refl _) (.cells (ndCells n) 27))
  have HLn := Lib.hid (fun w => rlen_calls n w)
  have h8 := n.len_le
  have FIN := Lib.hid (fun (r : Bool) (hr : freshB n p = !r) => show Ending.returned (.bool r) = .returned (.bool (!freshB n p)) by rw [hr, Bool.not_not])
  clear hk0
  go_enter Try.func61, Try.ntmps61
  go_wp2_with (fail)
  go_loopw [5] (fun iv wr => ∃ k : Nat, k ≤ n.len ∧ iv = .int .i64 k ∧ Hid (∀ j, j < k → (n.p j == p) = false) ∧ Hid (Blk wr w.heap.size (ndCells n) 27) ∧ Hid (Below w.heap.size w wr)) (fun iv _ => 9 - (intOf iv).toNat)
  case atStart => exact ⟨0, Nat.zero_le _, rfl, Lib.hid (fun j hj => by omega), HK0, HB0⟩
  case round =>
    obtain ⟨k, hk, rfl, HN, HK, HB⟩ := hrel
    have HL := Lib.hid (ndLoad HK.out)
    go_wp2_with (with_reducible refine wpList_load_part (o := ⟨some 7, _, _, _, _, _⟩) rfl 27 _ rfl w.heap.size 0 rfl (ndCells n) _ HL.out Try.underlying27 rfl HI.out ?_)
    refine (HLn.out _).mono ?_
    rintro e w1 ⟨rfl, hB⟩
    have HB1 := Lib.hid (HB.out.trans (hB.mono HB.out.size))
    have HK1 := Lib.hid (HK.out.below hB HK.out.lt)
    clear hB
    obtain ⟨m, hm⟩ : ∃ m, n.len = m := ⟨_, rfl⟩
    have HM := Lib.hid hm
    rw [hm] at h8 hk ⊢
    clear hm
    by_cases hlt : k < m
    · have b1 : (k : Int) < (m : Int) := by omega
      have c1 : w1.cell? ⟨w.heap.size, 13 + k, none⟩ = some (.int .u64 (n.p k)) := by rw [HK1.out.cell, ndCells_p n k (by omega)]
      obtain ⟨y, hy⟩ : ∃ y, n.p k = y := ⟨_, rfl⟩
      rw [hy] at c1
      have HY := Lib.hid hy
      have b2 : (k : Int) < 8 := by omega
      clear hy
      cases hq : (y == p)
      · have HN2 := Lib.hid (show ∀ j, j < k + 1 → (n.p j == p) = false from fun j hj => by
          rcases Nat.lt_succ_iff_lt_or_eq.1 hj with h | h
          · exact HN.out j h
          · rw [h, HY.out]; exact hq)
        go_wp2_with (fail)
        go_roundw
        case rel => exact ⟨k + 1, by have := HM.out; omega, by go_num, HN2, HK1, HB1⟩
        case measure => simp [intOf]; omega
      · have HF := Lib.hid (FIN.out true (by rw [fresh_not (by rw [HM.out]; exact hlt) (by rw [HY.out]; exact hq)]; rfl))
        go_wp2_with (fail)
        go_ret
        exact ⟨HF.out, HB1.out⟩
    · have b1 : ¬ (k : Int) < (m : Int) := by omega
      have HFr := Lib.hid (fresh_end (n := n) (p := p) (fun j hj => HN.out j (by rw [HM.out] at hj; omega)))
      have c4 : w1.cell? ⟨w.heap.size, 4, none⟩ = some (.int .u64 n.fi) := by rw [HK1.out.cell, ndCells_4]
      cases q1 : (p == 0)
      · cases q2 : (p == n.fi)
        · have HF := Lib.hid (FIN.out false (by rw [HFr.out, bne, bne, q1, q2]; rfl))
          go_wp2_with (fail)
          go_ret
          exact ⟨HF.out, HB1.out⟩
        · have HF := Lib.hid (FIN.out true (by rw [HFr.out, bne, bne, q1, q2]; rfl))
          go_wp2_with (fail)
          go_ret
          exact ⟨HF.out, HB1.out⟩
      · have HF := Lib.hid (FIN.out true (by rw [HFr.out, bne, bne, q1]; rfl))
        go_wp2_with (fail)
        go_ret
        exact ⟨HF.out, HB1.out⟩

/-! ### ahead -/
set_option maxRecDepth 100000 in
theorem rahead_v (n : Nd) (i : Nat) (hi : i ≤ 8) (w : World) :
    Calls Try.prog 64 #[.agg (ndCells n), .int .i64 i] w fun e w' => e = .returned (.int .u64 (n.ahead i)) ∧ Below w.heap.size w w' := by
  have hk0 : Blk (w.alloc (.cells (ndCells n) 27)) w.heap.size (ndCells n) 27 := Blk.new w _ _
  have HB0 := Lib.hid ((Below.refl w.heap.size w).alloc (Nat.le_refl _) (.cells (ndCells n) 27))
  cases i with
  | zero =>
    have c4 : (w.alloc (.cells (ndCells n) 27)).cell? ⟨w.heap.size, 4, none⟩ = some (.int .u64 n.fi) := by rw [hk0.cell, ndCells_4]
    clear hk0
    go_enter Try.func64, Try.ntmps64
    go_wp2_with (fail)
    go_ret
    exact ⟨rfl, HB0.out⟩
  | succ j =>
    have c4 : (w.alloc (.cells (ndCells n) 27)).cell? ⟨w.heap.size, 13 + j, none⟩ = some (.int .u64 (n.p j)) := by rw [hk0.cell, ndCells_p n j (by omega)]
    have b1 : (((j + 1 : Nat) : Int) == 0) = false := beq_eq_false_iff_ne.2 (by omega)
    have b2 : ((j + 1 : Nat) : Int) - 1 = (j : Int) := by omega
    have b3 : (j : Int) < 8 := by omega
    have HX := Lib.hid (show n.ahead (j + 1) = n.p j from rfl)
    obtain ⟨y, hy⟩ : ∃ y, n.p j = y := ⟨_, rfl⟩
    rw [hy] at c4 HX
    clear hk0 hy
    rw [HX.out]
    go_enter Try.func64, Try.ntmps64
    go_wp2_with (fail)
    go_ret
    exact ⟨rfl, HB0.out⟩
end Go.Proofs.Ytbpaefhihdhdeaa
