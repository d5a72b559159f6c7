/-
  The document's bits: Has, one, Set, Clear: contracts, and the bit laws.
-/
import Derived.Test.YtdekjfbaoaobeaaJ
namespace Go.Proofs.Ytdekjfbaoaobeaa
open Go.RowKit

def hasB (m : Nat) (j : Int) : Bool := decide (0 ≤ j) && m.testBit j.toNat
theorem hasB_in (m n : Nat) : hasB m (n : Int) = m.testBit n := by simp [hasB]
theorem hasB_neg (m : Nat) (j : Int) (h : j < 0) : hasB m j = false := by unfold hasB; rw [decide_eq_false (by omega)]; rfl
theorem testBit_big (m : Nat) (hm : m < 18446744073709551616) (n : Nat) (h : 64 ≤ n) : m.testBit n = false :=
  Nat.testBit_lt_two_pow (Nat.lt_of_lt_of_le hm (by rw [show 18446744073709551616 = 2 ^ 64 by rfl]; exact Nat.pow_le_pow_right (by omega) h))
theorem hasB_big (m : Nat) (hm : m < 18446744073709551616) (j : Int) (h : 63 < j) : hasB m j = false := by unfold hasB; rw [testBit_big m hm _ (by omega)]; simp

theorem or_plus (a b : Nat) (h : a &&& b = 0) (ha : a < 2 ^ 64) (hb : b < 2 ^ 64) : a ||| b = a + b := by
  have h2 := BitVec.add_eq_or_of_and_eq_zero (BitVec.ofNat 65 a) (BitVec.ofNat 65 b) (by
    apply BitVec.eq_of_toNat_eq
    simp only [BitVec.toNat_and, BitVec.toNat_ofNat]
    rw [Nat.mod_eq_of_lt (by omega), Nat.mod_eq_of_lt (by omega), h])
  have h3 := congrArg BitVec.toNat h2
  simp only [BitVec.toNat_or, BitVec.toNat_add, BitVec.toNat_ofNat] at h3
  rw [Nat.mod_eq_of_lt (a := a) (by omega), Nat.mod_eq_of_lt (a := b) (by omega), Nat.mod_eq_of_lt (by omega)] at h3
  exact h3.symm
theorem and_pow_zero (m n : Nat) (h : m.testBit n = false) : m &&& 2 ^ n = 0 := by
  apply Nat.eq_of_testBit_eq
  intro i
  rw [Nat.testBit_and, Nat.testBit_two_pow, Nat.zero_testBit]
  by_cases e : n = i
  · subst e; simp [h]
  · simp [e]
theorem pow_lt64 (n : Nat) (h : n < 64) : 2 ^ n < 2 ^ 64 := Nat.pow_lt_pow_right (by omega) h
theorem set_new (m n : Nat) (hm : m < 2 ^ 64) (hn : n < 64) (h : m.testBit n = false) : m ||| 2 ^ n = m + 2 ^ n := or_plus _ _ (and_pow_zero m n h) hm (pow_lt64 n hn)
theorem set_old (m n : Nat) (h : m.testBit n = true) : m ||| 2 ^ n = m := by
  apply Nat.eq_of_testBit_eq
  intro i
  rw [Nat.testBit_or, Nat.testBit_two_pow]
  by_cases e : n = i
  · subst e; simp [h]
  · simp [e]
theorem clr_bit (m n i : Nat) (hm : m < 2 ^ 64) (hn : n < 64) : (m &&& (2 ^ 64 - 1 - 2 ^ n)).testBit i = (m.testBit i && !decide (n = i)) := by
  rw [Nat.testBit_and, show 2 ^ 64 - 1 - 2 ^ n = 2 ^ 64 - (2 ^ n + 1) by omega, Nat.testBit_two_pow_sub_succ (pow_lt64 n hn), Nat.testBit_two_pow]
  by_cases h : i < 64
  · simp [h]
  · have := testBit_big m hm i (by omega)
    simp [this]
theorem clr_new (m n : Nat) (hm : m < 2 ^ 64) (hn : n < 64) (h : m.testBit n = false) : m &&& (2 ^ 64 - 1 - 2 ^ n) = m := by
  apply Nat.eq_of_testBit_eq
  intro i
  rw [clr_bit m n i hm hn]
  by_cases e : n = i
  · subst e; simp [h]
  · simp [e]
theorem clr_old (m n : Nat) (hm : m < 2 ^ 64) (hn : n < 64) (h : m.testBit n = true) : m &&& (2 ^ 64 - 1 - 2 ^ n) = m - 2 ^ n := by
  have h1 : (m &&& (2 ^ 64 - 1 - 2 ^ n)).testBit n = false := by rw [clr_bit m n n hm hn]; simp
  have h2 := set_new _ n (Nat.lt_of_le_of_lt Nat.and_le_left hm) hn h1
  have h3 : (m &&& (2 ^ 64 - 1 - 2 ^ n)) ||| 2 ^ n = m := by
    apply Nat.eq_of_testBit_eq
    intro i
    rw [Nat.testBit_or, clr_bit m n i hm hn, Nat.testBit_two_pow]
    by_cases e : n = i
    · subst e; simp [h]
    · simp [e]
  rw [h3] at h2; omega

set_option maxRecDepth 100000 in
theorem rhas_v (m : Nat) (hm : m < 18446744073709551616) (j : Int) (w : World) : Calls Try.prog 14 #[.int .u64 m, .int .i64 j] w fun e w' => e = .returned (.bool (hasB m j)) ∧ w = w' := by
  by_cases h : 0 ≤ j ∧ j ≤ 63
  · obtain ⟨n, rfl⟩ : ∃ n : Nat, j = n := ⟨j.toNat, by omega⟩
    have h1 : ¬ (n : Int) < 0 := by omega
    have h2 : ¬ (63 : Int) < (n : Int) := by omega
    go_enter Try.func14, Try.ntmps14
    go_wp2_with (fail)
    go_loopw [0, 5] (fun bv kv wr => ∃ k : Nat, k ≤ n ∧ kv = .int .i64 k ∧ bv = .int .u64 ((m / 2 ^ k : Nat) : Int) ∧ wr = w) (fun _ kv _ => n - (intOf kv).toNat)
    case atStart => exact ⟨0, Nat.zero_le _, rfl, by simp, rfl⟩
    case round =>
      obtain ⟨k, hk, rfl, rfl, rfl⟩ := hrel
      have hd : m / 2 ^ k ≤ m := Nat.div_le_self _ _
      have HN := Lib.hid (show m / 2 ^ k / 2 = m / 2 ^ (k + 1) by rw [Nat.div_div_eq_div_mul, Nat.pow_succ])
      have HT := Lib.hid (show (m / 2 ^ k % 2 = 1) ↔ m.testBit k = true by rw [Nat.testBit_eq_decide_div_mod_eq]; simp)
      generalize m / 2 ^ k = d at *
      by_cases hlt : k < n
      · have b1 : (k : Int) < (n : Int) := by omega
        go_wp2_with (fail)
        go_roundw
        case rel => exact ⟨k + 1, by omega, by go_num, by rw [← HN.out]; simp, trivial⟩
        case measure => simp [intOf]; omega
      · have hk2 : k = n := by omega
        subst hk2
        go_wp2_with (fail)
        go_ret
        refine ⟨?_, rfl⟩
        have hdd : ((d : Int) % 2 == 1) = decide (d % 2 = 1) := by
          by_cases e : d % 2 = 1
          · have : ((d : Int) % 2) = 1 := by omega
            rw [this, decide_eq_true e]; rfl
          · have : ((d : Int) % 2) = 0 := by omega
            rw [this, decide_eq_false e]; rfl
        have hb : hasB m (k : Int) = decide (d % 2 = 1) := by rw [hasB_in]; exact Bool.eq_iff_iff.2 (by rw [decide_eq_true_iff]; exact HT.out.symm)
        show Ending.returned (.bool ((d : Int) % 2 == 1)) = _
        rw [hdd, hb]
  · by_cases h0 : j < 0
    · rw [hasB_neg m j h0]
      go_enter Try.func14, Try.ntmps14
      go_wp2_with (fail)
      go_ret
      exact ⟨rfl, rfl⟩
    · have h1 : (63 : Int) < j := by omega
      rw [hasB_big m hm j h1]
      go_enter Try.func14, Try.ntmps14
      go_wp2_with (fail)
      go_ret
      exact ⟨rfl, rfl⟩

set_option maxRecDepth 100000 in
theorem one_v (n : Nat) (hn : n < 64) (w : World) : Calls Try.prog 37 #[.int .i64 n] w fun e w' => e = .returned (.int .u64 ((2 ^ n : Nat) : Int)) ∧ w = w' := by
  go_enter Try.func37, Try.ntmps37
  go_wp2_with (fail)
  go_loopw [3, 4] (fun bv kv wr => ∃ k : Nat, k ≤ n ∧ kv = .int .i64 k ∧ bv = .int .u64 ((2 ^ k : Nat) : Int) ∧ wr = w) (fun _ kv _ => n - (intOf kv).toNat)
  case atStart => exact ⟨0, Nat.zero_le _, rfl, by simp, rfl⟩
  case round =>
    obtain ⟨k, hk, rfl, rfl, rfl⟩ := hrel
    have HN := Lib.hid (show 2 * 2 ^ k = 2 ^ (k + 1) by rw [Nat.pow_succ]; omega)
    have hlt64 : k < n → 2 * 2 ^ k < 18446744073709551616 := fun h => by
      have : 2 ^ (k + 1) < 2 ^ 64 := pow_lt64 (k + 1) (by omega)
      rw [HN.out]; exact this
    obtain ⟨d, hd⟩ : ∃ d, 2 ^ k = d := ⟨_, rfl⟩
    rw [hd] at HN hlt64
    have hd2 : ((2 ^ k : Nat) : Int) = (d : Int) := by rw [hd]
    rw [hd2]
    by_cases hlt : k < n
    · have b1 : (k : Int) < (n : Int) := by omega
      have b2 := hlt64 hlt
      have b3 : IntKind.u64.wrap (2 * (d : Int)) = 2 * (d : Int) := by
        have : IntKind.u64.wrap (2 * (d : Int)) = 2 * (d : Int) % 18446744073709551616 := by simp [IntKind.wrap, IntKind.bits, IntKind.signed]
        rw [this]; omega
      clear hd2 hd
      go_wp2_with (fail)
      go_roundw
      case rel => exact ⟨k + 1, by omega, by go_num, by rw [← HN.out]; simp, trivial⟩
      case measure => simp [intOf]; omega
    · have hk2 : k = n := by omega
      subst hk2
      have HD := Lib.hid hd
      clear hd2 hd
      go_wp2_with (fail)
      go_ret
      refine ⟨?_, rfl⟩
      show Ending.returned (.int .u64 (d : Int)) = Ending.returned (.int .u64 ((2 ^ k : Nat) : Int))
      rw [HD.out]

theorem bitN_in (n : Nat) (h : n < 64) : bitN (n : Int) = 2 ^ n := by unfold bitN; rw [if_pos (by omega)]; rfl
theorem bitN_out (j : Int) (h : j < 0 ∨ 63 < j) : bitN j = 0 := by unfold bitN; rw [if_neg (by omega)]

set_option maxRecDepth 100000 in
theorem rset_v (m : Nat) (hm : m < 18446744073709551616) (j : Int) (w : World) : Calls Try.prog 11 #[.int .u64 m, .int .i64 j] w fun e w' => e = .returned (.int .u64 ((m ||| bitN j : Nat) : Int)) ∧ w = w' := by
  have HH := Lib.hid (rhas_v m hm j)
  by_cases h : 0 ≤ j ∧ j ≤ 63
  · obtain ⟨n, rfl⟩ : ∃ n : Nat, j = n := ⟨j.toNat, by omega⟩
    have h1 : ¬ (n : Int) < 0 := by omega
    have h2 : ¬ (63 : Int) < (n : Int) := by omega
    rw [hasB_in] at HH
    rw [bitN_in n (by omega)]
    cases hb : m.testBit n
    · rw [hb] at HH
      have HO := Lib.hid (one_v n (by omega))
      have hlt : m ||| 2 ^ n < 2 ^ 64 := Nat.or_lt_two_pow hm (pow_lt64 n (by omega))
      rw [set_new m n hm (by omega) hb] at hlt ⊢
      generalize 2 ^ n = c at *
      have hw : IntKind.u64.wrap ((m : Int) + (c : Int)) = ((m + c : Nat) : Int) := by
        have : IntKind.u64.wrap ((m : Int) + (c : Int)) = ((m : Int) + (c : Int)) % 18446744073709551616 := by simp [IntKind.wrap, IntKind.bits, IntKind.signed]
        rw [this]; omega
      clear hlt
      go_enter Try.func11, Try.ntmps11
      go_wp2_with (go_at_call 14; refine (HH.out _).mono ?_; rintro e w2 ⟨rfl, rfl⟩)
      refine (HO.out _).mono ?_
      rintro e w2 ⟨rfl, rfl⟩
      go_wp2_with (fail)
      go_ret
      exact ⟨rfl, rfl⟩
    · rw [hb] at HH
      rw [set_old m n hb]
      go_enter Try.func11, Try.ntmps11
      go_wp2_with (go_at_call 14; refine (HH.out _).mono ?_; rintro e w2 ⟨rfl, rfl⟩)
      go_ret
      exact ⟨rfl, rfl⟩
  · rw [bitN_out j (by omega), Nat.or_zero]
    by_cases h0 : j < 0
    · go_enter Try.func11, Try.ntmps11
      go_wp2_with (fail)
      go_ret
      exact ⟨rfl, rfl⟩
    · have h1 : (63 : Int) < j := by omega
      go_enter Try.func11, Try.ntmps11
      go_wp2_with (fail)
      go_ret
      exact ⟨rfl, rfl⟩

set_option maxRecDepth 100000 in
theorem rclear_v (m : Nat) (hm : m < 18446744073709551616) (j : Int) (w : World) : Calls Try.prog 12 #[.int .u64 m, .int .i64 j] w fun e w' => e = .returned (.int .u64 ((m &&& (18446744073709551615 - bitN j) : Nat) : Int)) ∧ w = w' := by
  have HH := Lib.hid (rhas_v m hm j)
  cases hb : hasB m j
  · rw [hb] at HH
    have e : m &&& (18446744073709551615 - bitN j) = m := by
      by_cases h : 0 ≤ j ∧ j ≤ 63
      · obtain ⟨n, rfl⟩ : ∃ n : Nat, j = n := ⟨j.toNat, by omega⟩
        rw [hasB_in] at hb
        rw [bitN_in n (by omega)]
        exact clr_new m n hm (by omega) hb
      · rw [bitN_out j (by omega)]
        have := Nat.and_two_pow_sub_one_eq_mod m 64
        rw [Nat.mod_eq_of_lt hm] at this
        exact this
    rw [e]
    go_enter Try.func12, Try.ntmps12
    go_wp2_with (go_at_call 14; refine (HH.out _).mono ?_; rintro e w2 ⟨rfl, rfl⟩)
    go_ret
    exact ⟨rfl, rfl⟩
  · rw [hb] at HH
    have h : 0 ≤ j ∧ j ≤ 63 := by
      constructor
      · rcases Int.lt_or_le j 0 with h | h
        · rw [hasB_neg m j h] at hb; cases hb
        · exact h
      · rcases Int.lt_or_le 63 j with h | h
        · rw [hasB_big m hm j h] at hb; cases hb
        · exact h
    obtain ⟨n, rfl⟩ : ∃ n : Nat, j = n := ⟨j.toNat, by omega⟩
    rw [hasB_in] at hb
    have e : m &&& (18446744073709551615 - bitN (n : Int)) = m - 2 ^ n := by rw [bitN_in n (by omega)]; exact clr_old m n hm (by omega) hb
    have hle : 2 ^ n ≤ m := Nat.ge_two_pow_of_testBit hb
    have HO := Lib.hid (one_v n (by omega))
    rw [e]
    clear e
    generalize 2 ^ n = c at *
    have hw : IntKind.u64.wrap ((m : Int) - (c : Int)) = ((m - c : Nat) : Int) := by
      have : IntKind.u64.wrap ((m : Int) - (c : Int)) = ((m : Int) - (c : Int)) % 18446744073709551616 := by simp [IntKind.wrap, IntKind.bits, IntKind.signed]
      rw [this]; omega
    clear hle
    go_enter Try.func12, Try.ntmps12
    go_wp2_with (go_at_call 14; refine (HH.out _).mono ?_; rintro e w2 ⟨rfl, rfl⟩)
    refine (HO.out _).mono ?_
    rintro e w2 ⟨rfl, rfl⟩
    go_wp2_with (fail)
    go_ret
    exact ⟨rfl, rfl⟩
end Go.Proofs.Ytdekjfbaoaobeaa
