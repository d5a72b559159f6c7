/-
  THE REFERENCE's Invalid, Find, Last, Valid: contracts.
-/
import Derived.Test.YtbpaefhihdhdeaaRa
namespace Go.Proofs.Ytbpaefhihdhdeaa
open Go.RowKit

/-! ### the first place from i on, below i + d, of which t holds -/
def firstF (t : Nat → Bool) : Nat → Nat → Int
  | 0, _ => -1
  | d + 1, i => if t i = true then (i : Int) else firstF t d (i + 1)
/-- the last one below k -/
def lastF (t : Nat → Bool) : Nat → Int
  | 0 => -1
  | k + 1 => if t k = true then (k : Int) else lastF t k
def Nd.find (n : Nd) (key : Int) : Int := firstF (fun i => n.ok i && (n.k i == key)) n.len 0
def Nd.last (n : Nd) (key : Int) : Int := lastF (fun i => n.ok i && decide (n.k i ≤ key)) n.len
def Nd.inval (n : Nd) : Int := firstF (fun i => !n.ok i) n.len 0

theorem rinvalid_calls (n : Nd) (w : World) : Calls Try.prog 19 #[.agg (ndCells n)] w fun e W' => e = .returned (.int .i64 n.inval) ∧ Below w.heap.size w W' := by
  have HI := Lib.hid (info27 n)
  have HB0 := Lib.hid (Blk.new w (ndCells n) 27)
  have HW := Lib.hid ((Below.refl w.heap.size w).alloc (Nat.le_refl _) (.cells (ndCells n) 27))
  go_enter Try.func19, Try.ntmps19
  go_wp2_with (fail)
  obtain ⟨w0, hw0⟩ : ∃ w0, w0 = w.alloc (.cells (ndCells n) 27) := ⟨_, rfl⟩
  rw [← hw0] at HB0 HW ⊢
  have hs0 : w0.heap.size ≤ w.heap.size + 1 := by rw [hw0]; simp
  have hs1 : w.heap.size + 1 ≤ w0.heap.size := by rw [hw0]; simp
  clear hw0
  go_loopw [3] (fun iv wr => ∃ k : Nat, k ≤ n.len ∧ iv = .int .i64 k ∧ Hid (n.inval = firstF (fun i => !n.ok i) (n.len - k) k) ∧ Below w0.heap.size w0 wr) (fun iv _ => 9 - (intOf iv).toNat)
  case atStart => exact ⟨0, Nat.zero_le _, rfl, rfl, Below.refl _ _⟩
  case round =>
    obtain ⟨k, hk, rfl, hR, hB⟩ := hrel
    have hl := n.len_le
    have HL := Lib.hid (ndLoad (HB0.out.below hB (by omega)))
    have HB := Lib.hid hB
    have hsz : w0.heap.size ≤ wr.heap.size := hB.size
    clear hB
    go_wp2_with (with_reducible refine wpList_load_part (o := ⟨some 5, _, _, _, _, _⟩) rfl 27 _ rfl w.heap.size 0 rfl (ndCells n) _ HL.out Try.underlying27 rfl HI.out ?_)
    refine (rlen_calls n _).mono ?_
    rintro e w2 ⟨rfl, hB2⟩
    have HB2 := Lib.hid (HB.out.trans (hB2.mono hsz))
    have hsz2 : w0.heap.size ≤ w2.heap.size := HB2.out.size
    clear hB2 HL HB
    by_cases hlt : k < n.len
    · have hlt' : (k : Int) < (n.len : Int) := by omega
      have HL2 := Lib.hid (ndLoad (HB0.out.below HB2.out (by omega)))
      have hr2 : n.inval = if (!n.ok k) = true then (k : Int) else firstF (fun i => !n.ok i) (n.len - (k + 1)) (k + 1) := by
        rw [hR.out, show n.len - k = (n.len - (k + 1)) + 1 by omega]; rfl
      go_wp2_with (with_reducible refine wpList_load_part (o := ⟨some 10, _, _, _, _, _⟩) rfl 27 _ rfl w.heap.size 0 rfl (ndCells n) _ HL2.out Try.underlying27 rfl HI.out ?_)
      refine (ris_calls n k (by omega) _).mono ?_
      rintro e w3 ⟨rfl, hB3⟩
      have HB3 := Lib.hid (HB2.out.trans (hB3.mono hsz2))
      cases ho : n.ok k
      · rw [ho] at hr2
        have HR := Lib.hid hr2
        clear hr2 ho hB3 HL2 hR
        go_wp2_with (fail)
        go_ret
        exact ⟨by rw [HR.out]; rfl, HW.out.trans (HB3.out.mono (by omega))⟩
      · rw [ho] at hr2
        have HR := Lib.hid hr2
        clear hr2 ho hB3 HL2 hR
        go_wp2_with (fail)
        go_roundw
        case rel => exact ⟨k + 1, by omega, by go_num, HR.out, HB3.out⟩
        case measure => simp [intOf]; omega
    · have he : n.len - k = 0 := by omega
      have hlt' : ¬ (k : Int) < (n.len : Int) := by omega
      have HF := Lib.hid (show n.inval = -1 by rw [hR.out, he]; rfl)
      clear he hR
      go_wp2_with (fail)
      go_ret
      exact ⟨by rw [HF.out]; rfl, HW.out.trans (HB2.out.mono (by omega))⟩

theorem rfind_calls (n : Nd) (key : Int) (w : World) : Calls Try.prog 62 #[.agg (ndCells n), .int .u64 key] w fun e W' => e = .returned (.int .i64 (n.find key)) ∧ Below w.heap.size w W' := by
  have HI := Lib.hid (info27 n)
  have HB0 := Lib.hid (Blk.new w (ndCells n) 27)
  have HW := Lib.hid ((Below.refl w.heap.size w).alloc (Nat.le_refl _) (.cells (ndCells n) 27))
  go_enter Try.func62, Try.ntmps62
  go_wp2_with (fail)
  obtain ⟨w0, hw0⟩ : ∃ w0, w0 = w.alloc (.cells (ndCells n) 27) := ⟨_, rfl⟩
  rw [← hw0] at HB0 HW ⊢
  have hs0 : w0.heap.size ≤ w.heap.size + 1 := by rw [hw0]; simp
  have hs1 : w.heap.size + 1 ≤ w0.heap.size := by rw [hw0]; simp
  clear hw0
  go_loopw [5] (fun iv wr => ∃ k : Nat, k ≤ n.len ∧ iv = .int .i64 k ∧ Hid (n.find key = firstF (fun i => n.ok i && (n.k i == key)) (n.len - k) k) ∧ Below w0.heap.size w0 wr) (fun iv _ => 9 - (intOf iv).toNat)
  case atStart => exact ⟨0, Nat.zero_le _, rfl, rfl, Below.refl _ _⟩
  case round =>
    obtain ⟨k, hk, rfl, hR, hB⟩ := hrel
    have hl := n.len_le
    have HL := Lib.hid (ndLoad (HB0.out.below hB (by omega)))
    have HB := Lib.hid hB
    have hsz : w0.heap.size ≤ wr.heap.size := hB.size
    clear hB
    go_wp2_with (with_reducible refine wpList_load_part (o := ⟨some 7, _, _, _, _, _⟩) rfl 27 _ rfl w.heap.size 0 rfl (ndCells n) _ HL.out Try.underlying27 rfl HI.out ?_)
    refine (rlen_calls n _).mono ?_
    rintro e w2 ⟨rfl, hB2⟩
    have HB2 := Lib.hid (HB.out.trans (hB2.mono hsz))
    have hsz2 : w0.heap.size ≤ w2.heap.size := HB2.out.size
    clear hB2 HL HB
    by_cases hlt : k < n.len
    · have hlt' : (k : Int) < (n.len : Int) := by omega
      have HL2 := Lib.hid (ndLoad (HB0.out.below HB2.out (by omega)))
      have hr2 : n.find key = if (n.ok k && (n.k k == key)) = true then (k : Int) else firstF (fun i => n.ok i && (n.k i == key)) (n.len - (k + 1)) (k + 1) := by
        rw [hR.out, show n.len - k = (n.len - (k + 1)) + 1 by omega]; rfl
      go_wp2_with (with_reducible refine wpList_load_part (o := ⟨some 12, _, _, _, _, _⟩) rfl 27 _ rfl w.heap.size 0 rfl (ndCells n) _ HL2.out Try.underlying27 rfl HI.out ?_)
      refine (ris_calls n k (by omega) _).mono ?_
      rintro e w3 ⟨rfl, hB3⟩
      have HB3 := Lib.hid (HB2.out.trans (hB3.mono hsz2))
      have ck : w3.cell? ⟨w.heap.size, 5 + k, none⟩ = some (.int .u64 (n.k k)) := by
        rw [(HB0.out.below HB3.out (by omega)).cell, ndCells_k n k (by omega)]
      have b8 : (k : Int) < 8 := by omega
      cases ho : n.ok k
      · rw [ho] at hr2
        have HR := Lib.hid hr2
        clear hr2 ho hB3 HL2 hR
        go_wp2_with (fail)
        go_roundw
        case rel => exact ⟨k + 1, by omega, by go_num, HR.out, HB3.out⟩
        case measure => simp [intOf]; omega
      · rw [ho] at hr2
        obtain ⟨y, hy⟩ : ∃ y, y = n.k k := ⟨_, rfl⟩
        rw [← hy] at hr2 ck
        cases he : (y == key)
        · rw [he] at hr2
          have HR := Lib.hid hr2
          clear hr2 ho hB3 HL2 hR hy
          go_wp2_with (fail)
          go_roundw
          case rel => exact ⟨k + 1, by omega, by go_num, HR.out, HB3.out⟩
          case measure => simp [intOf]; omega
        · rw [he] at hr2
          have HR := Lib.hid hr2
          clear hr2 ho hB3 HL2 hR hy
          go_wp2_with (fail)
          go_ret
          exact ⟨by rw [HR.out]; rfl, HW.out.trans (HB3.out.mono (by omega))⟩
    · have he : n.len - k = 0 := by omega
      have hlt' : ¬ (k : Int) < (n.len : Int) := by omega
      have HF := Lib.hid (show n.find key = -1 by rw [hR.out, he]; rfl)
      clear he hR
      go_wp2_with (fail)
      go_ret
      exact ⟨by rw [HF.out]; rfl, HW.out.trans (HB2.out.mono (by omega))⟩

set_option maxRecDepth 100000 in
theorem rlast_calls (n : Nd) (key : Int) (w : World) : Calls Try.prog 63 #[.agg (ndCells n), .int .u64 key] w fun e W' => e = .returned (.int .i64 (n.last key)) ∧ Below w.heap.size w W' := by
  have HI := Lib.hid (info27 n)
  have HB0 := Lib.hid (Blk.new w (ndCells n) 27)
  have HW := Lib.hid ((Below.refl w.heap.size w).alloc (Nat.le_refl _) (.cells (ndCells n) 27))
  go_enter Try.func63, Try.ntmps63
  go_wp2_with (fail)
  obtain ⟨w0, hw0⟩ : ∃ w0, w0 = w.alloc (.cells (ndCells n) 27) := ⟨_, rfl⟩
  rw [← hw0] at HB0 HW ⊢
  have hs0 : w0.heap.size ≤ w.heap.size + 1 := by rw [hw0]; simp
  have hs1 : w.heap.size + 1 ≤ w0.heap.size := by rw [hw0]; simp
  clear hw0
  go_loopw [5, 6] (fun av iv wr => ∃ k : Nat, k ≤ n.len ∧ iv = .int .i64 k ∧ av = .int .i64 (lastF (fun i => n.ok i && decide (n.k i ≤ key)) k) ∧ Below w0.heap.size w0 wr) (fun _ iv _ => 9 - (intOf iv).toNat)
  case atStart => exact ⟨0, Nat.zero_le _, rfl, rfl, Below.refl _ _⟩
  case round =>
    obtain ⟨k, hk, rfl, rfl, hB⟩ := hrel
    have hl := n.len_le
    have HL := Lib.hid (ndLoad (HB0.out.below hB (by omega)))
    have HB := Lib.hid hB
    have hsz : w0.heap.size ≤ wr.heap.size := hB.size
    have hr2 : lastF (fun i => n.ok i && decide (n.k i ≤ key)) (k + 1) = if (n.ok k && decide (n.k k ≤ key)) = true then (k : Int) else lastF (fun i => n.ok i && decide (n.k i ≤ key)) k := rfl
    have HL0 := Lib.hid (show n.last key = lastF (fun i => n.ok i && decide (n.k i ≤ key)) n.len from rfl)
    obtain ⟨cur, hcur⟩ : ∃ cur, cur = lastF (fun i => n.ok i && decide (n.k i ≤ key)) k := ⟨_, rfl⟩
    rw [← hcur] at hr2 ⊢
    have HR0 := Lib.hid hr2
    have HC := Lib.hid hcur
    clear hB hr2 hcur
    go_wp2_with (with_reducible refine wpList_load_part (o := ⟨some 8, _, _, _, _, _⟩) rfl 27 _ rfl w.heap.size 0 rfl (ndCells n) _ HL.out Try.underlying27 rfl HI.out ?_)
    refine (rlen_calls n _).mono ?_
    rintro e w2 ⟨rfl, hB2⟩
    have HB2 := Lib.hid (HB.out.trans (hB2.mono hsz))
    have hsz2 : w0.heap.size ≤ w2.heap.size := HB2.out.size
    clear hB2 HL HB
    by_cases hlt : k < n.len
    · have hlt' : (k : Int) < (n.len : Int) := by omega
      have HL2 := Lib.hid (ndLoad (HB0.out.below HB2.out (by omega)))
      go_wp2_with (with_reducible refine wpList_load_part (o := ⟨some 13, _, _, _, _, _⟩) rfl 27 _ rfl w.heap.size 0 rfl (ndCells n) _ HL2.out Try.underlying27 rfl HI.out ?_)
      refine (ris_calls n k (by omega) _).mono ?_
      rintro e w3 ⟨rfl, hB3⟩
      have HB3 := Lib.hid (HB2.out.trans (hB3.mono hsz2))
      have ck : w3.cell? ⟨w.heap.size, 5 + k, none⟩ = some (.int .u64 (n.k k)) := by
        rw [(HB0.out.below HB3.out (by omega)).cell, ndCells_k n k (by omega)]
      have b8 : (k : Int) < 8 := by omega
      have hr3 := HR0.out
      cases ho : n.ok k
      · rw [ho] at hr3
        have HR := Lib.hid hr3
        clear hr3 ho hB3 HL2 HR0
        go_wp2_with (fail)
        go_roundw
        case rel => exact ⟨k + 1, by omega, by go_num, by rw [HR.out]; rfl, HB3.out⟩
        case measure => simp [intOf]; omega
      · rw [ho] at hr3
        obtain ⟨y, hy⟩ : ∃ y, y = n.k k := ⟨_, rfl⟩
        rw [← hy] at hr3 ck
        by_cases he : y ≤ key
        · rw [decide_eq_true he] at hr3
          have HR := Lib.hid hr3
          clear hr3 ho hB3 HL2 HR0 hy
          go_wp2_with (fail)
          go_roundw
          case rel => exact ⟨k + 1, by omega, by go_num, by rw [HR.out]; rfl, HB3.out⟩
          case measure => simp [intOf]; omega
        · rw [decide_eq_false he] at hr3
          have HR := Lib.hid hr3
          have he' : key < y := by omega
          clear he hr3 ho hB3 HL2 HR0 hy
          go_wp2_with (fail)
          go_roundw
          case rel => exact ⟨k + 1, by omega, by go_num, by rw [HR.out]; rfl, HB3.out⟩
          case measure => simp [intOf]; omega
    · have he : k = n.len := by omega
      have hlt' : ¬ (k : Int) < (n.len : Int) := by omega
      have HF := Lib.hid (show n.last key = cur by rw [HC.out, he]; exact HL0.out)
      clear he
      go_wp2_with (fail)
      go_ret
      exact ⟨by rw [HF.out]; rfl, HW.out.trans (HB2.out.mono (by omega))⟩
end Go.Proofs.Ytbpaefhihdhdeaa
