/-
  THE REFERENCE's LAYER 3 AS LAYER 12 USES IT: contracts.
-/
import Derived.Test.YtegamhjfloebgaaGi
namespace Go.Proofs.Ytegamhjfloebgaa
open Go.RowKit

theorem rclass_n (n : Int) (w : World) : Calls Try.prog 12 #[.int .i64 n] w fun e w' => e = .returned (.int .i64 (clsN n)) ∧ w = w' := by
  by_cases h0 : n < 0
  · have HI := Lib.hid (show clsN n = 0 by unfold clsN; rw [if_pos h0])
    go_enter Try.func12, Try.ntmps12
    go_wp2
    go_ret
    exact ⟨ret_int HI.out.symm, rfl⟩
  · by_cases h1 : n ≤ 56
    · have HI := Lib.hid (show clsN n = 1 by unfold clsN; rw [if_neg h0, if_pos h1])
      go_enter Try.func12, Try.ntmps12
      go_wp2
      go_ret
      exact ⟨ret_int HI.out.symm, rfl⟩
    · by_cases h2 : n ≤ 120
      · have HI := Lib.hid (show clsN n = 2 by unfold clsN; rw [if_neg h0, if_neg h1, if_pos h2])
        have h3 : 57 ≤ n := by omega
        have d1 : decide (n ≤ 56) = false := decide_eq_false h1
        go_enter Try.func12, Try.ntmps12
        go_wp2
        go_ret
        exact ⟨ret_int HI.out.symm, rfl⟩
      · have HI := Lib.hid (show clsN n = 0 by unfold clsN; rw [if_neg h0, if_neg h1, if_neg h2])
        have h3 : 57 ≤ n := by omega
        have d1 : decide (n ≤ 56) = false := decide_eq_false h1
        have d2 : decide (n ≤ 120) = false := decide_eq_false h2
        go_enter Try.func12, Try.ntmps12
        go_wp2
        go_ret
        exact ⟨ret_int HI.out.symm, rfl⟩

theorem rbytes_c (c : Int) (h : c = 1 ∨ c = 2) (w : World) : Calls Try.prog 26 #[.int .i64 c] w fun e w' => e = .returned (.int .i64 (64 * c)) ∧ w = w' := by
  have h1 : 1 ≤ c := by omega
  have h2 : c ≤ 2 := by omega
  clear h
  go_enter Try.func26, Try.ntmps26
  go_wp2
  go_ret
  exact ⟨rfl, rfl⟩

theorem rblocks_c (c : Int) (h : c = 1 ∨ c = 2) (w : World) : Calls Try.prog 24 #[.int .i64 c] w fun e w' => e = .returned (.int .i64 (blkN c)) ∧ w = w' := by
  have HC := Lib.hid h
  have h1 : 1 ≤ c := by omega
  have h2 : c ≤ 2 := by omega
  have hz : (64 * c == 0) = false := by simp; omega
  have hm : ∀ k : Int, 0 ≤ k → k ≤ blkN c → 0 ≤ (k + 1) * (64 * c) ∧ (k + 1) * (64 * c) ≤ 1024 ∧ (64 + (k + 1) * (64 * c) ≤ 1024 ↔ k < blkN c) := by
    intro k hk0 hk
    unfold blkN at *
    rcases h with rfl | rfl
    · rw [if_pos rfl] at hk; rw [if_pos rfl]; omega
    · rw [if_neg (by decide)] at hk; rw [if_neg (by decide)]; omega
  have hb0 : 0 ≤ blkN c := by unfold blkN; split <;> omega
  have hb15 : blkN c ≤ 15 := by unfold blkN; split <;> omega
  have HM := Lib.hid hm
  clear h hm
  go_enter Try.func24, Try.ntmps24
  go_wp2_with (go_at_call 26; refine (rbytes_c c HC.out _).mono ?_; rintro e w1 ⟨rfl, rfl⟩)
  go_loop [3] (fun iv => ∃ k : Nat, (k : Int) ≤ blkN c ∧ iv = .int .i64 k) (fun iv => (blkN c).toNat - (intOf iv).toNat)
  case atStart => exact ⟨0, by omega, rfl⟩
  case round =>
    obtain ⟨k, hk, rfl⟩ := hrel
    obtain ⟨m1, m2, m3⟩ := HM.out k (by omega) hk
    by_cases hlt : (k : Int) < blkN c
    · have m4 := m3.2 hlt
      clear m3
      go_wp2_with (go_at_call 26; refine (rbytes_c c HC.out _).mono ?_; rintro e w1 ⟨rfl, rfl⟩)
      go_round
      case rel => exact ⟨k + 1, by omega, by go_num⟩
      case measure => simp [intOf]; omega
    · have m4 : 1024 < 64 + ((k : Int) + 1) * (64 * c) := by
        rcases Int.lt_or_le 1024 (64 + ((k : Int) + 1) * (64 * c)) with h | h
        · exact h
        · exact absurd (m3.1 h) hlt
      have e1 : (k : Int) = blkN c := by omega
      have E1 := Lib.hid e1
      clear m3 e1
      go_wp2_with (go_at_call 26; refine (rbytes_c c HC.out _).mono ?_; rintro e w1 ⟨rfl, rfl⟩)
      go_ret
      exact ⟨ret_int E1.out, rfl⟩

theorem rheader_s (s : Int) (h : 1 ≤ s ∧ s ≤ 64) (w : World) : Calls Try.prog 46 #[.int .i64 s] w fun e w' => e = .returned (.int .u64 (1024 * s)) ∧ w = w' := by
  obtain ⟨h1, h2⟩ := h
  go_enter Try.func46, Try.ntmps46
  go_wp2
  go_ret
  exact ⟨rfl, rfl⟩

theorem rblock_in (s c j : Int) (hs : 1 ≤ s ∧ s ≤ 64) (hc : c = 1 ∨ c = 2) (hj : 0 ≤ j ∧ j < blkN c) (w : World) :
    Calls Try.prog 23 #[.int .i64 s, .int .i64 c, .int .i64 j] w fun e w' => e = .returned (.int .u64 (1024 * s + 64 + j * (64 * c))) ∧ w = w' := by
  obtain ⟨h1, h2⟩ := hs
  obtain ⟨h3, h4⟩ := hj
  have hb15 : blkN c ≤ 15 := by unfold blkN; split <;> omega
  have hc1 : 1 ≤ c := by omega
  have hc3 : c ≤ 2 := by omega
  have hz : (1024 * s == 0) = false := by simp; omega
  have H := Lib.hid hc
  have hm1 : 0 ≤ j * (64 * c) := Int.mul_nonneg h3 (by omega)
  have hm2 : j * (64 * c) ≤ 15 * 128 := Int.mul_le_mul (by omega) (by omega) (by omega) (by omega)
  have FIN := Lib.hid (show (1024 * s + (64 + j * (64 * c)) : Int) = 1024 * s + 64 + j * (64 * c) by omega)
  clear hc
  go_enter Try.func23, Try.ntmps23
  go_wp2_with (first
    | (go_at_call 46; refine (rheader_s _ ⟨h1, h2⟩ _).mono ?_; rintro e w1 ⟨rfl, rfl⟩)
    | (go_at_call 24; refine (rblocks_c _ H.out _).mono ?_; rintro e w1 ⟨rfl, rfl⟩)
    | (go_at_call 26; refine (rbytes_c _ H.out _).mono ?_; rintro e w2 ⟨rfl, rfl⟩))
  go_ret
  exact ⟨ret_int FIN.out, rfl⟩

def RIdxPost (w : World) (a c : Int) (e : Ending) (w' : World) : Prop :=
  ((HasBlk a c ∧ ∃ j : Nat, e = .returned (.int .i64 j)) ∨ (¬ HasBlk a c ∧ e = .returned (.int .i64 (-1)))) ∧ w = w'

theorem rindex_a (a c : Int) (hc : c = 1 ∨ c = 2) (w : World) : Calls Try.prog 34 #[.int .u64 a, .int .i64 c] w (RIdxPost w a c) := by
  have hb15 : blkN c ≤ 15 := by unfold blkN; split <;> omega
  have hb0 : 0 ≤ blkN c := by unfold blkN; split <;> omega
  have HC := Lib.hid hc
  clear hc
  go_enter Try.func34, Try.ntmps34
  go_wp2_with (fail)
  go_loop [5] (fun iv => ∃ i : Nat, 1 ≤ i ∧ i ≤ 65 ∧ iv = .int .i64 i ∧ Hid (∀ i' j : Nat, 1 ≤ i' → i' < i → (j : Int) < blkN c → a ≠ 1024 * (i' : Int) + 64 + (j : Int) * (64 * c))) (fun iv => 65 - (intOf iv).toNat)
  case atStart => exact ⟨1, by omega, by omega, rfl, Lib.hid (fun i' j h1 h2 => by omega)⟩
  case round =>
    obtain ⟨i, hi1, hi2, rfl, hno⟩ := hrel
    by_cases hlt : i ≤ 64
    · go_wp2_with (fail)
      go_loop [6] (fun jv => ∃ k : Nat, (k : Int) ≤ blkN c ∧ jv = .int .i64 k ∧ Hid (∀ j : Nat, j < k → a ≠ 1024 * (i : Int) + 64 + (j : Int) * (64 * c))) (fun jv => (blkN c).toNat - (intOf jv).toNat)
      case atStart => exact ⟨0, by omega, rfl, Lib.hid (fun j h => by omega)⟩
      case round =>
        obtain ⟨k, hk, rfl, hno2⟩ := hrel
        by_cases hlt2 : (k : Int) < blkN c
        · obtain ⟨v, hv⟩ : ∃ v, v = 1024 * (i : Int) + 64 + (k : Int) * (64 * c) := ⟨_, rfl⟩
          have HBk := Lib.hid (show ∀ w, Calls Try.prog 23 #[.int .i64 i, .int .i64 c, .int .i64 k] w fun e w' => e = .returned (.int .u64 v) ∧ w = w' from fun w => by
            rw [hv]; exact rblock_in i c k ⟨by omega, by omega⟩ HC.out ⟨by omega, hlt2⟩ w)
          have HV := Lib.hid hv
          clear hv
          by_cases hva : v = a
          · have HY := Lib.hid (show HasBlk a c from ⟨i, k, hi1, hlt, hlt2, by rw [← hva]; exact HV.out⟩)
            have hvb : (v == a) = true := by simpa using hva
            clear hva
            go_wp2_with (first
              | (go_at_call 24; refine (rblocks_c _ HC.out _).mono ?_; rintro e w1 ⟨rfl, rfl⟩)
              | (go_at_call 23; refine (HBk.out _).mono ?_; rintro e w2 ⟨rfl, rfl⟩))
            go_ret
            exact ⟨.inl ⟨HY.out, _, rfl⟩, rfl⟩
          · have hvb : (v == a) = false := by simpa using hva
            have HVA := Lib.hid hva
            clear hva
            go_wp2_with (first
              | (go_at_call 24; refine (rblocks_c _ HC.out _).mono ?_; rintro e w1 ⟨rfl, rfl⟩)
              | (go_at_call 23; refine (HBk.out _).mono ?_; rintro e w2 ⟨rfl, rfl⟩))
            go_round
            case rel => exact ⟨k + 1, by omega, by go_num, Lib.hid (fun j hj => by
              rcases Nat.lt_succ_iff_lt_or_eq.1 hj with h | h
              · exact hno2.out j h
              · subst h; intro e; exact HVA.out (by rw [HV.out]; exact e.symm))⟩
            case measure => simp [intOf]; omega
        · go_wp2_with (go_at_call 24; refine (rblocks_c _ HC.out _).mono ?_; rintro e w1 ⟨rfl, rfl⟩)
          go_round
          case rel => exact ⟨i + 1, by omega, by omega, by go_num, Lib.hid (fun i' j h1 h2 h3 => by
            rcases Nat.lt_succ_iff_lt_or_eq.1 h2 with h | h
            · exact hno.out i' j h1 h h3
            · subst h; exact hno2.out j (by omega))⟩
          case measure => simp [intOf]; omega
    · have HN := Lib.hid (show ¬ HasBlk a c from fun h => by
        obtain ⟨i', j, h1, h2, h3, h4⟩ := h
        exact hno.out i' j h1 (by omega) h3 h4)
      go_wp2_with (fail)
      go_ret
      exact ⟨.inr ⟨HN.out, rfl⟩, rfl⟩
end Go.Proofs.Ytegamhjfloebgaa
