/-
  THE REFERENCE's LAYER 3 AS LAYER 12 USES IT: contracts.
-/
import Derived.Test.YtegamhjfloebgaaG
namespace Go.Proofs.Ytegamhjfloebgaa
open Go.RowKit

/-- a block of a class begins there -/
def HasBlk (a c : Int) : Prop := ∃ i j : Nat, 1 ≤ i ∧ i ≤ 64 ∧ (j : Int) < blkN c ∧ a = 1024 * (i : Int) + 64 + (j : Int) * (64 * c)

theorem blk_bd (c : Int) (hc : c = 1 ∨ c = 2) (j : Nat) (hj : (j : Int) < blkN c) : 0 ≤ (j : Int) * (64 * c) ∧ (j : Int) * (64 * c) < 960 := by
  unfold blkN at hj
  rcases hc with rfl | rfl
  · rw [if_pos rfl] at hj; omega
  · rw [if_neg (by decide)] at hj; omega
theorem hasBlk_slab {a c : Int} (hc : c = 1 ∨ c = 2) (h : HasBlk a c) : 1 ≤ a / 1024 ∧ a / 1024 ≤ 64 ∧ ∃ j : Nat, (j : Int) < blkN c ∧ a = 1024 * (a / 1024) + 64 + (j : Int) * (64 * c) := by
  obtain ⟨i, j, h1, h2, h3, h4⟩ := h
  have := blk_bd c hc j h3
  have e : a / 1024 = i := by omega
  exact ⟨by omega, by omega, j, h3, by rw [e]; exact h4⟩

def IdxPost (w : World) (a c : Int) (e : Ending) (w' : World) : Prop :=
  ((HasBlk a c ∧ ∃ j, e = .returned (.tuple #[.int .i64 j, .bool true])) ∨ (¬ HasBlk a c ∧ e = .returned (.tuple #[.int .i64 0, .bool false]))) ∧ Below w.heap.size w w'

set_option maxRecDepth 100000 in
theorem index_a (a c : Int) (hc : c = 1 ∨ c = 2) (h0 : 0 ≤ a) (hm : a ≤ 18446744073709551615) (w : World) : Calls Try.prog 32 #[.int .u64 a, .int .i64 c] w (IdxPost w a c) := by
  have hb7 : 7 ≤ blkN c := by unfold blkN; split <;> omega
  have hb15 : blkN c ≤ 15 := by unfold blkN; split <;> omega
  have HC := Lib.hid hc
  by_cases hs : slabN a = 0
  · have HN := Lib.hid (show ¬ HasBlk a c from fun h => by
      obtain ⟨h1, h2, _⟩ := hasBlk_slab hc h
      unfold slabN at hs; rw [if_pos ⟨h1, h2⟩] at hs; omega)
    have HS := Lib.hid (show ∀ w, Calls Try.prog 56 #[.int .u64 a] w fun e w' => e = .returned (.int .i64 0) ∧ w = w' from fun w => by have := slab_a a h0 hm w; rwa [hs] at this)
    clear hs hc
    go_enter Try.func32, Try.ntmps32
    go_wp2_with (go_at_call 54; refine (blocks_c c HC.out _).mono ?_; rintro e w1 ⟨rfl, hB1⟩)
    go_loopw [10] (fun iv wr => ∃ k : Nat, (k : Int) ≤ blkN c ∧ iv = .int .i64 k ∧ Below w.heap.size w wr) (fun iv _ => (blkN c).toNat - (intOf iv).toNat)
    case atStart => exact ⟨0, by omega, rfl, hB1⟩
    case round =>
      obtain ⟨k, hk, rfl, hB⟩ := hrel
      clear hB1
      have HB := Lib.hid hB
      clear hB
      by_cases hlt : (k : Int) < blkN c
      · by_cases ha : a = 0
        · have hab : ((0 : Int) == a) = true := by simp [ha]
          have HA := Lib.hid ha
          clear ha
          go_wp2_with (first
            | (go_at_call 56; refine (HS.out _).mono ?_; rintro e w2 ⟨rfl, rfl⟩)
            | (go_at_call 55; refine (block_0 c _ _).mono ?_; rintro e w2 ⟨rfl, rfl⟩))
          go_roundw
          case rel => exact ⟨k + 1, by omega, by go_num, HB.out⟩
          case measure => simp [intOf]; omega
        · have hab : ((0 : Int) == a) = false := by simp; omega
          go_wp2_with (first
            | (go_at_call 56; refine (HS.out _).mono ?_; rintro e w2 ⟨rfl, rfl⟩)
            | (go_at_call 55; refine (block_0 c _ _).mono ?_; rintro e w2 ⟨rfl, rfl⟩))
          go_roundw
          case rel => exact ⟨k + 1, by omega, by go_num, HB.out⟩
          case measure => simp [intOf]; omega
      · go_wp2_with (fail)
        go_ret2
        exact ⟨.inr ⟨HN.out, rfl⟩, HB.out⟩
  · have hs1 : slabN a = a / 1024 ∧ 1 ≤ a / 1024 ∧ a / 1024 ≤ 64 := by
      unfold slabN at hs ⊢
      split
      · rename_i h; exact ⟨rfl, h.1, h.2⟩
      · rename_i h; rw [if_neg h] at hs; exact absurd rfl hs
    obtain ⟨hs2, hs3, hs4⟩ := hs1
    obtain ⟨s, hse⟩ : ∃ s, s = a / 1024 := ⟨_, rfl⟩
    rw [← hse] at hs3 hs4
    have HS := Lib.hid (show ∀ w, Calls Try.prog 56 #[.int .u64 a] w fun e w' => e = .returned (.int .i64 s) ∧ w = w' from fun w => by have := slab_a a h0 hm w; rwa [hs2, ← hse] at this)
    have HSE := Lib.hid hse
    clear hs hc hs2 hse
    go_enter Try.func32, Try.ntmps32
    go_wp2_with (go_at_call 54; refine (blocks_c c HC.out _).mono ?_; rintro e w1 ⟨rfl, hB1⟩)
    go_loopw [10] (fun iv wr => ∃ k : Nat, (k : Int) ≤ blkN c ∧ iv = .int .i64 k ∧ Hid (∀ j : Nat, j < k → a ≠ 1024 * s + 64 + (j : Int) * (64 * c)) ∧ Below w.heap.size w wr) (fun iv _ => (blkN c).toNat - (intOf iv).toNat)
    case atStart => exact ⟨0, by omega, rfl, Lib.hid (fun j hj => by omega), hB1⟩
    case round =>
      obtain ⟨k, hk, rfl, hno, hB⟩ := hrel
      clear hB1
      have HB := Lib.hid hB
      clear hB
      by_cases hlt : (k : Int) < blkN c
      · obtain ⟨v, hv⟩ : ∃ v, v = 1024 * s + 64 + (k : Int) * (64 * c) := ⟨_, rfl⟩
        have HBk := Lib.hid (show ∀ w, Calls Try.prog 55 #[.int .i64 s, .int .i64 c, .int .i64 k] w fun e w' => e = .returned (.int .u64 v) ∧ Below w.heap.size w w' from fun w => by
          rw [hv]; exact block_in s c k ⟨hs3, hs4⟩ HC.out ⟨by omega, hlt⟩ w)
        have hv0 : 0 < v := by have := blk_bd c HC.out k hlt; omega
        have HV := Lib.hid hv
        clear hv
        by_cases hva : v = a
        · have HY := Lib.hid (show HasBlk a c from ⟨s.toNat, k, by omega, by omega, hlt, by rw [← hva, HV.out, Int.toNat_of_nonneg (by omega)]⟩)
          have hvb : (v == a) = true := by simpa using hva
          have HVA := Lib.hid hva
          clear hva
          go_wp2_with (first
            | (go_at_call 56; refine (HS.out _).mono ?_; rintro e w2 ⟨rfl, rfl⟩)
            | (go_at_call 55; refine (HBk.out _).mono ?_; rintro e w2 ⟨rfl, hB2⟩))
          go_ret2
          exact ⟨.inl ⟨HY.out, _, rfl⟩, HB.out.trans (hB2.mono HB.out.size)⟩
        · have hvb : (v == a) = false := by simpa using hva
          have HVA := Lib.hid hva
          clear hva
          go_wp2_with (first
            | (go_at_call 56; refine (HS.out _).mono ?_; rintro e w2 ⟨rfl, rfl⟩)
            | (go_at_call 55; refine (HBk.out _).mono ?_; rintro e w2 ⟨rfl, hB2⟩))
          go_roundw
          case rel => exact ⟨k + 1, by omega, by go_num, Lib.hid (fun j hj => by
            rcases Nat.lt_succ_iff_lt_or_eq.1 hj with h | h
            · exact hno.out j h
            · subst h; intro e; exact HVA.out (by rw [HV.out]; exact e.symm)), HB.out.trans (hB2.mono HB.out.size)⟩
          case measure => simp [intOf]; omega
      · have HN := Lib.hid (show ¬ HasBlk a c from fun h => by
          obtain ⟨_, _, j, h3, h4⟩ := hasBlk_slab HC.out h
          rw [← HSE.out] at h4
          exact hno.out j (by omega) h4)
        go_wp2_with (fail)
        go_ret2
        exact ⟨.inr ⟨HN.out, rfl⟩, HB.out⟩
end Go.Proofs.Ytegamhjfloebgaa
namespace Go.Proofs.Ytegamhjfloebgaa
open Go.RowKit

theorem rclass_n (n : Int) (w : World) : Calls Try.prog 12 #[.int .i64 n] w fun e w' => e = .returned (.int .i64 (clsN n)) ∧ w = w' := by
  by_cases h0 : n < 0
  · have HI := Lib.hid (show clsN n = 0 by unfold clsN; rw [if_pos h0])
    go_enter Try.func12, Try.ntmps12
    go_wp2
    go_ret
    exact ⟨ret_int HI.out.symm, rfl⟩
  · by_cases h1 : n ≤ 56
    · have HI := Lib.hid (show clsN n = 1 by unfold clsN; rw [if_neg h0, if_pos h1])
      go_enter Try.func12, Try.ntmps12
      go_wp2
      go_ret
      exact ⟨ret_int HI.out.symm, rfl⟩
    · by_cases h2 : n ≤ 120
      · have HI := Lib.hid (show clsN n = 2 by unfold clsN; rw [if_neg h0, if_neg h1, if_pos h2])
        have h3 : 57 ≤ n := by omega
        have d1 : decide (n ≤ 56) = false := decide_eq_false h1
        go_enter Try.func12, Try.ntmps12
        go_wp2
        go_ret
        exact ⟨ret_int HI.out.symm, rfl⟩
      · have HI := Lib.hid (show clsN n = 0 by unfold clsN; rw [if_neg h0, if_neg h1, if_neg h2])
        have h3 : 57 ≤ n := by omega
        have d1 : decide (n ≤ 56) = false := decide_eq_false h1
        have d2 : decide (n ≤ 120) = false := decide_eq_false h2
        go_enter Try.func12, Try.ntmps12
        go_wp2
        go_ret
        exact ⟨ret_int HI.out.symm, rfl⟩

theorem rbytes_c (c : Int) (h : c = 1 ∨ c = 2) (w : World) : Calls Try.prog 26 #[.int .i64 c] w fun e w' => e = .returned (.int .i64 (64 * c)) ∧ w = w' := by
  have h1 : 1 ≤ c := by omega
  have h2 : c ≤ 2 := by omega
  clear h
  go_enter Try.func26, Try.ntmps26
  go_wp2
  go_ret
  exact ⟨rfl, rfl⟩

theorem rblocks_c (c : Int) (h : c = 1 ∨ c = 2) (w : World) : Calls Try.prog 24 #[.int .i64 c] w fun e w' => e = .returned (.int .i64 (blkN c)) ∧ w = w' := by
  have HC := Lib.hid h
  have h1 : 1 ≤ c := by omega
  have h2 : c ≤ 2 := by omega
  have hz : (64 * c == 0) = false := by simp; omega
  have hm : ∀ k : Int, 0 ≤ k → k ≤ blkN c → 0 ≤ (k + 1) * (64 * c) ∧ (k + 1) * (64 * c) ≤ 1024 ∧ (64 + (k + 1) * (64 * c) ≤ 1024 ↔ k < blkN c) := by
    intro k hk0 hk
    unfold blkN at *
    rcases h with rfl | rfl
    · rw [if_pos rfl] at hk; rw [if_pos rfl]; omega
    · rw [if_neg (by decide)] at hk; rw [if_neg (by decide)]; omega
  have hb0 : 0 ≤ blkN c := by unfold blkN; split <;> omega
  have hb15 : blkN c ≤ 15 := by unfold blkN; split <;> omega
  have HM := Lib.hid hm
  clear h hm
  go_enter Try.func24, Try.ntmps24
  go_wp2_with (go_at_call 26; refine (rbytes_c c HC.out _).mono ?_; rintro e w1 ⟨rfl, rfl⟩)
  go_loop [3] (fun iv => ∃ k : Nat, (k : Int) ≤ blkN c ∧ iv = .int .i64 k) (fun iv => (blkN c).toNat - (intOf iv).toNat)
  case atStart => exact ⟨0, by omega, rfl⟩
  case round =>
    obtain ⟨k, hk, rfl⟩ := hrel
    obtain ⟨m1, m2, m3⟩ := HM.out k (by omega) hk
    by_cases hlt : (k : Int) < blkN c
    · have m4 := m3.2 hlt
      clear m3
      go_wp2_with (go_at_call 26; refine (rbytes_c c HC.out _).mono ?_; rintro e w1 ⟨rfl, rfl⟩)
      go_round
      case rel => exact ⟨k + 1, by omega, by go_num⟩
      case measure => simp [intOf]; omega
    · have m4 : 1024 < 64 + ((k : Int) + 1) * (64 * c) := by
        rcases Int.lt_or_le 1024 (64 + ((k : Int) + 1) * (64 * c)) with h | h
        · exact h
        · exact absurd (m3.1 h) hlt
      have e1 : (k : Int) = blkN c := by omega
      have E1 := Lib.hid e1
      clear m3 e1
      go_wp2_with (go_at_call 26; refine (rbytes_c c HC.out _).mono ?_; rintro e w1 ⟨rfl, rfl⟩)
      go_ret
      exact ⟨ret_int E1.out, rfl⟩

theorem rheader_s (s : Int) (h : 1 ≤ s ∧ s ≤ 64) (w : World) : Calls Try.prog 46 #[.int .i64 s] w fun e w' => e = .returned (.int .u64 (1024 * s)) ∧ w = w' := by
  obtain ⟨h1, h2⟩ := h
  go_enter Try.func46, Try.ntmps46
  go_wp2
  go_ret
  exact ⟨rfl, rfl⟩

theorem rblock_in (s c j : Int) (hs : 1 ≤ s ∧ s ≤ 64) (hc : c = 1 ∨ c = 2) (hj : 0 ≤ j ∧ j < blkN c) (w : World) :
    Calls Try.prog 23 #[.int .i64 s, .int .i64 c, .int .i64 j] w fun e w' => e = .returned (.int .u64 (1024 * s + 64 + j * (64 * c))) ∧ w = w' := by
  obtain ⟨h1, h2⟩ := hs
  obtain ⟨h3, h4⟩ := hj
  have hb15 : blkN c ≤ 15 := by unfold blkN; split <;> omega
  have hc1 : 1 ≤ c := by omega
  have hc3 : c ≤ 2 := by omega
  have hz : (1024 * s == 0) = false := by simp; omega
  have H := Lib.hid hc
  have hm1 : 0 ≤ j * (64 * c) := Int.mul_nonneg h3 (by omega)
  have hm2 : j * (64 * c) ≤ 15 * 128 := Int.mul_le_mul (by omega) (by omega) (by omega) (by omega)
  have FIN := Lib.hid (show (1024 * s + (64 + j * (64 * c)) : Int) = 1024 * s + 64 + j * (64 * c) by omega)
  clear hc
  go_enter Try.func23, Try.ntmps23
  go_wp2_with (first
    | (go_at_call 46; refine (rheader_s _ ⟨h1, h2⟩ _).mono ?_; rintro e w1 ⟨rfl, rfl⟩)
    | (go_at_call 24; refine (rblocks_c _ H.out _).mono ?_; rintro e w1 ⟨rfl, rfl⟩)
    | (go_at_call 26; refine (rbytes_c _ H.out _).mono ?_; rintro e w2 ⟨rfl, rfl⟩))
  go_ret
  exact ⟨ret_int FIN.out, rfl⟩

def RIdxPost (w : World) (a c : Int) (e : Ending) (w' : World) : Prop :=
  ((HasBlk a c ∧ ∃ j : Nat, e = .returned (.int .i64 j)) ∨ (¬ HasBlk a c ∧ e = .returned (.int .i64 (-1)))) ∧ w = w'

theorem rindex_a (a c : Int) (hc : c = 1 ∨ c = 2) (w : World) : Calls Try.prog 34 #[.int .u64 a, .int .i64 c] w (RIdxPost w a c) := by
  have hb15 : blkN c ≤ 15 := by unfold blkN; split <;> omega
  have hb0 : 0 ≤ blkN c := by unfold blkN; split <;> omega
  have HC := Lib.hid hc
  clear hc
  go_enter Try.func34, Try.ntmps34
  go_wp2_with (fail)
  go_loop [5] (fun iv => ∃ i : Nat, 1 ≤ i ∧ i ≤ 65 ∧ iv = .int .i64 i ∧ Hid (∀ i' j : Nat, 1 ≤ i' → i' < i → (j : Int) < blkN c → a ≠ 1024 * (i' : Int) + 64 + (j : Int) * (64 * c))) (fun iv => 65 - (intOf iv).toNat)
  case atStart => exact ⟨1, by omega, by omega, rfl, Lib.hid (fun i' j h1 h2 => by omega)⟩
  case round =>
    obtain ⟨i, hi1, hi2, rfl, hno⟩ := hrel
    by_cases hlt : i ≤ 64
    · go_wp2_with (fail)
      go_loop [6] (fun jv => ∃ k : Nat, (k : Int) ≤ blkN c ∧ jv = .int .i64 k ∧ Hid (∀ j : Nat, j < k → a ≠ 1024 * (i : Int) + 64 + (j : Int) * (64 * c))) (fun jv => (blkN c).toNat - (intOf jv).toNat)
      case atStart => exact ⟨0, by omega, rfl, Lib.hid (fun j h => by omega)⟩
      case round =>
        obtain ⟨k, hk, rfl, hno2⟩ := hrel
        by_cases hlt2 : (k : Int) < blkN c
        · obtain ⟨v, hv⟩ : ∃ v, v = 1024 * (i : Int) + 64 + (k : Int) * (64 * c) := ⟨_, rfl⟩
          have HBk := Lib.hid (show ∀ w, Calls Try.prog 23 #[.int .i64 i, .int .i64 c, .int .i64 k] w fun e w' => e = .returned (.int .u64 v) ∧ w = w' from fun w => by
            rw [hv]; exact rblock_in i c k ⟨by omega, by omega⟩ HC.out ⟨by omega, hlt2⟩ w)
          have HV := Lib.hid hv
          clear hv
          by_cases hva : v = a
          · have HY := Lib.hid (show HasBlk a c from ⟨i, k, hi1, hlt, hlt2, by rw [← hva]; exact HV.out⟩)
            have hvb : (v == a) = true := by simpa using hva
            clear hva
            go_wp2_with (first
              | (go_at_call 24; refine (rblocks_c _ HC.out _).mono ?_; rintro e w1 ⟨rfl, rfl⟩)
              | (go_at_call 23; refine (HBk.out _).mono ?_; rintro e w2 ⟨rfl, rfl⟩))
            go_ret
            exact ⟨.inl ⟨HY.out, _, rfl⟩, rfl⟩
          · have hvb : (v == a) = false := by simpa using hva
            have HVA := Lib.hid hva
            clear hva
            go_wp2_with (first
              | (go_at_call 24; refine (rblocks_c _ HC.out _).mono ?_; rintro e w1 ⟨rfl, rfl⟩)
              | (go_at_call 23; refine (HBk.out _).mono ?_; rintro e w2 ⟨rfl, rfl⟩))
            go_round
            case rel => exact ⟨k + 1, by omega, by go_num, Lib.hid (fun j hj => by
              rcases Nat.lt_succ_iff_lt_or_eq.1 hj with h | h
              · exact hno2.out j h
              · subst h; intro e; exact HVA.out (by rw [HV.out]; exact e.symm))⟩
            case measure => simp [intOf]; omega
        · go_wp2_with (go_at_call 24; refine (rblocks_c _ HC.out _).mono ?_; rintro e w1 ⟨rfl, rfl⟩)
          go_round
          case rel => exact ⟨i + 1, by omega, by omega, by go_num, Lib.hid (fun i' j h1 h2 h3 => by
            rcases Nat.lt_succ_iff_lt_or_eq.1 h2 with h | h
            · exact hno.out i' j h1 h h3
            · subst h; exact hno2.out j (by omega))⟩
          case measure => simp [intOf]; omega
    · have HN := Lib.hid (show ¬ HasBlk a c from fun h => by
        obtain ⟨i', j, h1, h2, h3, h4⟩ := h
        exact hno.out i' j h1 (by omega) h3 h4)
      go_wp2_with (fail)
      go_ret
      exact ⟨.inr ⟨HN.out, rfl⟩, rfl⟩
end Go.Proofs.Ytegamhjfloebgaa
