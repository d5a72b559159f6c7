/-
  slices.Index and Contains at addresses; fast.may, fresh: contracts.
-/
import Derived.Test.YtbpaefhihdhdeaaFd
namespace Go.Proofs.Ytbpaefhihdhdeaa
open Go.RowKit

set_option maxRecDepth 100000 in
set_option maxHeartbeats 800000 in
theorem idxA_calls (f : Nat → Int) (m c g off : Nat) (x : Int) (w : World) (hm : m ≤ 1000) (hc : ∀ j, j < m → w.cell? ⟨g, off + j, none⟩ = some (.int .u64 (f j))) :
    Calls Try.prog 78 #[.slice (some ⟨g, off, none⟩) m c, .int .u64 x] w fun e w' => e = .returned (.int .i64 (firstF (fun j => x == f j) m 0)) ∧ w = w' := by
  have HC := Lib.hid hc
  clear hc
  have FIN := Lib.hid (fun (r : Int) (hr : firstF (fun j => x == f j) m 0 = r) => show Ending.returned (.int .i64 r) = .returned (.int .i64 (firstF (fun j => x == f j) m 0)) by rw [hr])
  go_enter Try.func78, Try.ntmps78
  go_wp2_with (fail)
  go_loop [8] (fun iv => ∃ k : Nat, k ≤ m ∧ iv = .int .i64 k ∧ Hid (firstF (fun j => x == f j) m 0 = firstF (fun j => x == f j) (m - k) k)) (fun iv => m - (intOf iv).toNat)
  case atStart => exact ⟨0, Nat.zero_le _, rfl, Lib.hid rfl⟩
  case round =>
    obtain ⟨k, hk, rfl, hR⟩ := hrel
    by_cases hlt : k < m
    · have c1 := HC.out k hlt
      obtain ⟨y, hy⟩ : ∃ y, f k = y := ⟨_, rfl⟩
      rw [hy] at c1
      have hst := Lib.hid (hR.out.trans (firstF_step (fun j => x == f j) m k hlt))
      have q1 : (k : Int) < (m : Int) := by omega
      have q2 : (0 : Int) ≤ (k : Int) := by omega
      have q3 : ((k : Int)).toNat = k := by omega
      have HY := Lib.hid hy
      clear hy
      cases hc : (x == y)
      · have hr2 := Lib.hid (hst.out.trans (if_neg (by simp only [HY.out, hc]; simp)))
        go_wp2_with (fail)
        go_round
        case rel => exact ⟨k + 1, by omega, by go_num, hr2⟩
        case measure => simp [intOf]; omega
      · have hr2 := Lib.hid (hst.out.trans (if_pos (by simp only [HY.out, hc])))
        go_wp2_with (fail)
        go_ret
        exact ⟨FIN.out _ hr2.out, rfl⟩
    · have hf := Lib.hid (hR.out.trans (firstF_end _ m k (by omega)))
      go_wp2_with (fail)
      go_ret
      exact ⟨FIN.out _ hf.out, rfl⟩
theorem contA_calls (f : Nat → Int) (m c g off : Nat) (x : Int) (w : World) (hm : m ≤ 1000) (hc : ∀ j, j < m → w.cell? ⟨g, off + j, none⟩ = some (.int .u64 (f j))) :
    Calls Try.prog 73 #[.slice (some ⟨g, off, none⟩) m c, .int .u64 x] w fun e w' => e = .returned (.bool ((List.range m).any (fun j => x == f j))) ∧ w = w' := by
  have HI := Lib.hid (idxA_calls f m c g off x w hm hc)
  have HA := Lib.hid (firstF_any (fun j => x == f j) m 0)
  clear hc
  obtain ⟨r, hr⟩ : ∃ r, firstF (fun j => x == f j) m 0 = r := ⟨_, rfl⟩
  rw [hr] at HI HA
  clear hr
  go_enter Try.func73, Try.ntmps73
  go_wp2_with (go_at_call 78; refine HI.out.mono ?_; rintro e w' ⟨rfl, rfl⟩)
  go_ret
  exact ⟨congrArg (fun b => Ending.returned (.bool b)) (by have := HA.out; simpa using this), rfl⟩

/-! ### may, fresh -/
instance (b : Int) : Decidable (Stands b) := by unfold Stands; infer_instance
def mayE (base : Int) (n : Nd) : Int := if Stands base ∧ n.mayB 0 false = true then (if 0 ≤ n.invalid then 7 else 0) else 2
set_option maxRecDepth 100000 in
set_option maxHeartbeats 800000 in
theorem may_v (base : Int) (n : Nd) (w : World) :
    Calls Try.prog 43 #[.int .u64 base, .agg (ndCells n)] w fun e w' => e = .returned (.int .i64 (mayE base n)) ∧ Below w.heap.size w w' := by
  have HI := Lib.hid (info27 n)
  have hk0 : Blk (w.alloc (.cells (ndCells n) 27)) w.heap.size (ndCells n) 27 := Blk.new w _ _
  have HK0 := Lib.hid hk0
  have HL := Lib.hid (ndLoad hk0)
  have HB0 := Lib.hid ((Below.refl w.heap.size w).alloc (Nat.le_refl _) (.cells (ndCells n) 27))
  clear hk0
  by_cases hs : Stands base
  · have HS := Lib.hid (fun w => stands_yes base hs w)
    have HM := Lib.hid (fun w => nmay_calls n 0 false w)
    cases hm : n.mayB 0 false with
    | false =>
      have HF := Lib.hid (show mayE base n = 2 by unfold mayE; rw [if_neg (by rw [hm]; simp)])
      rw [hm] at HM
      clear hs hm
      go_enter Try.func43, Try.ntmps43
      go_wp2_with (first | (go_at_call 27; refine (HS.out _).mono ?_; rintro e w' ⟨rfl, rfl⟩) | (refine wpList_load_gd (o := ⟨some 10, .load 27 (.tmp 3), _, _, _, _⟩) 27 (.tmp 3) ?ho w.heap.size 0 ?hx (ndCells n) _ HL.out Try.underlying27 rfl HI.out ?hw ?_; (case ho => rfl); (case hx => rfl); (case hw => rfl)) | (go_at_call 67; refine (HM.out _).mono ?_; rintro e w1 ⟨rfl, hB⟩; have HB := Lib.hid hB; clear hB))
      go_ret
      exact ⟨congrArg (fun z => Ending.returned (.int .i64 z)) HF.out.symm, HB0.out.trans (HB.out.mono HB0.out.size)⟩
    | true =>
      rw [hm] at HM
      have HF := Lib.hid (show mayE base n = if 0 ≤ n.invalid then 7 else 0 by unfold mayE; rw [if_pos ⟨hs, hm⟩])
      have HV := Lib.hid (fun w => invalid_calls n w)
      obtain ⟨r, hr⟩ : ∃ r, n.invalid = r := ⟨_, rfl⟩
      rw [hr] at HF HV
      clear hs hm hr
      by_cases h0 : 0 ≤ r
      · rw [if_pos h0] at HF
        go_enter Try.func43, Try.ntmps43
        go_wp2_with (first | (go_at_call 27; refine (HS.out _).mono ?_; rintro e w' ⟨rfl, rfl⟩) | (refine wpList_load_gd (o := ⟨some 10, .load 27 (.tmp 3), _, _, _, _⟩) 27 (.tmp 3) ?ho w.heap.size 0 ?hx (ndCells n) _ HL.out Try.underlying27 rfl HI.out ?hw ?_; (case ho => rfl); (case hx => rfl); (case hw => rfl)) | (go_at_call 67; refine (HM.out _).mono ?_; rintro e w1 ⟨rfl, hB⟩; have HB := Lib.hid (HB0.out.trans (hB.mono HB0.out.size)); have HL1 := Lib.hid (ndLoad (HK0.out.below hB HK0.out.lt)); clear hB) | (with_reducible refine wpList_load_part (o := ⟨some 15, _, _, _, _, _⟩) rfl 27 _ rfl w.heap.size 0 rfl (ndCells n) _ HL1.out Try.underlying27 rfl HI.out ?_) | (go_at_call 22; refine (HV.out _).mono ?_; rintro e w2 ⟨rfl, hB2⟩; have HB2 := Lib.hid (HB.out.trans (hB2.mono HB.out.size)); clear hB2))
        go_ret
        exact ⟨congrArg (fun z => Ending.returned (.int .i64 z)) HF.out.symm, HB2.out⟩
      · rw [if_neg h0] at HF
        go_enter Try.func43, Try.ntmps43
        go_wp2_with (first | (go_at_call 27; refine (HS.out _).mono ?_; rintro e w' ⟨rfl, rfl⟩) | (refine wpList_load_gd (o := ⟨some 10, .load 27 (.tmp 3), _, _, _, _⟩) 27 (.tmp 3) ?ho w.heap.size 0 ?hx (ndCells n) _ HL.out Try.underlying27 rfl HI.out ?hw ?_; (case ho => rfl); (case hx => rfl); (case hw => rfl)) | (go_at_call 67; refine (HM.out _).mono ?_; rintro e w1 ⟨rfl, hB⟩; have HB := Lib.hid (HB0.out.trans (hB.mono HB0.out.size)); have HL1 := Lib.hid (ndLoad (HK0.out.below hB HK0.out.lt)); clear hB) | (with_reducible refine wpList_load_part (o := ⟨some 15, _, _, _, _, _⟩) rfl 27 _ rfl w.heap.size 0 rfl (ndCells n) _ HL1.out Try.underlying27 rfl HI.out ?_) | (go_at_call 22; refine (HV.out _).mono ?_; rintro e w2 ⟨rfl, hB2⟩; have HB2 := Lib.hid (HB.out.trans (hB2.mono HB.out.size)); clear hB2))
        go_ret
        exact ⟨congrArg (fun z => Ending.returned (.int .i64 z)) HF.out.symm, HB2.out⟩
  · have HS := Lib.hid (fun w => stands_no base hs w)
    have HF := Lib.hid (show mayE base n = 2 by unfold mayE; rw [if_neg (fun h => hs h.1)])
    clear hs
    go_enter Try.func43, Try.ntmps43
    go_wp2_with (go_at_call 27; refine (HS.out _).mono ?_; rintro e w' ⟨rfl, rfl⟩)
    go_ret
    exact ⟨congrArg (fun z => Ending.returned (.int .i64 z)) HF.out.symm, HB0.out⟩

def freshB (n : Nd) (p : Int) : Bool := (p != 0) && (p != n.fi) && !((List.range n.len).any fun j => p == n.p j)
set_option maxRecDepth 100000 in
set_option maxHeartbeats 800000 in
theorem fresh_v (n : Nd) (p : Int) (w : World) :
    Calls Try.prog 52 #[.agg (ndCells n), .int .u64 p] w fun e w' => e = .returned (.bool (freshB n p)) ∧ Below w.heap.size w w' := by
  have HI := Lib.hid (info27 n)
  have hk0 : Blk (w.alloc (.cells (ndCells n) 27)) w.heap.size (ndCells n) 27 := Blk.new w _ _
  have HK0 := Lib.hid hk0
  have HL := Lib.hid (ndLoad hk0)
  have HB0 := Lib.hid ((Below.refl w.heap.size w).alloc (Nat.le_refl _) (.cells (ndCells n) 27))
  have e4 : (w.alloc (.cells (ndCells n) 27)).cell? ⟨w.heap.size, 4, none⟩ = some (.int .u64 n.fi) := by rw [hk0.cell, ndCells_4]
  have h8 := n.len_le
  have HN := Lib.hid (fun w => len_calls n w)
  have HCt := Lib.hid (fun (w1 : World) (hb : Below (w.alloc (.cells (ndCells n) 27)).heap.size (w.alloc (.cells (ndCells n) 27)) w1) => contA_calls n.p n.len 8 w.heap.size 13 p w1 (by omega) (fun j hj => by rw [(hk0.below hb hk0.lt).cell, ndCells_p n j (by omega)]))
  clear hk0
  cases h1 : (p != 0)
  · have HF := Lib.hid (show freshB n p = false by unfold freshB; rw [h1]; rfl)
    go_enter Try.func52, Try.ntmps52
    go_wp2_with (fail)
    go_ret
    exact ⟨congrArg (fun z => Ending.returned (.bool z)) HF.out.symm, HB0.out⟩
  · cases h2 : (p != n.fi)
    · have HF := Lib.hid (show freshB n p = false by unfold freshB; rw [h1, h2]; rfl)
      go_enter Try.func52, Try.ntmps52
      go_wp2_with (fail)
      go_ret
      exact ⟨congrArg (fun z => Ending.returned (.bool z)) HF.out.symm, HB0.out⟩
    · have HF := Lib.hid (show freshB n p = !((List.range n.len).any fun j => p == n.p j) by unfold freshB; rw [h1, h2]; rfl)
      obtain ⟨r, hr⟩ : ∃ r, ((List.range n.len).any fun j => p == n.p j) = r := ⟨_, rfl⟩
      rw [hr] at HF HCt
      obtain ⟨m, hm⟩ : ∃ m, n.len = m := ⟨_, rfl⟩
      rw [hm] at h8 HN HCt
      clear hr hm
      have h8' : (m : Int) ≤ 8 := by omega
      go_enter Try.func52, Try.ntmps52
      go_wp2_with (first | (refine wpList_load_gd (o := ⟨some 15, .load 27 (.tmp 2), _, _, _, _⟩) 27 (.tmp 2) ?ho w.heap.size 0 ?hx (ndCells n) _ HL.out Try.underlying27 rfl HI.out ?hw ?_; (case ho => rfl); (case hx => rfl); (case hw => rfl)) | (go_at_call 46; refine (HN.out _).mono ?_; rintro e w1 ⟨rfl, hB⟩; have HB := Lib.hid (HB0.out.trans (hB.mono HB0.out.size)); have HC1 := Lib.hid (HCt.out w1 hB); clear hB) | (go_at_call 73; refine HC1.out.mono ?_; rintro e w2 ⟨rfl, rfl⟩))
      go_ret
      exact ⟨congrArg (fun z => Ending.returned (.bool z)) HF.out.symm, HB.out⟩
end Go.Proofs.Ytbpaefhihdhdeaa
