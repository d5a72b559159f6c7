/-
  bit, Set, Clear, Has: contracts.
-/
import Derived.Test.YtdekjfbaoaobeaaChecked
import Derived.Test.YtdekjfbaoaobeaaLib
import Derived.Test.YtdekjfbaoaobeaaCls
import Derived.Lib.Hide
import Derived.Outline
import Derived.Handy
import Derived.Deep.QuietTactic
import Derived.BigQuiet
import Derived.RegionTactic
import Derived.Laws.BitsAllLaws
import Derived.Laws.ShiftsVarLaws
namespace Go.Proofs.Ytdekjfbaoaobeaa
open Go.RowKit

def bitN (j : Int) : Nat := if 0 ≤ j ∧ j < 64 then 2 ^ j.toNat else 0
theorem bitN_lt (j : Int) : bitN j < 18446744073709551616 := by
  unfold bitN
  split
  · rw [show 18446744073709551616 = 2 ^ 64 by rfl]; exact Nat.pow_lt_pow_right (by omega) (by omega)
  · omega
theorem bit_v (j : Int) (w : World) : Calls Try.prog 36 #[.int .i64 j] w fun e w' => e = .returned (.int .u64 ((bitN j : Nat) : Int)) ∧ w = w' := by
  by_cases h : 0 ≤ j ∧ j < 64
  · have e : bitN j = 2 ^ j.toNat := if_pos h
    rw [e]
    obtain ⟨n, rfl⟩ : ∃ n : Nat, j = n := ⟨j.toNat, by omega⟩
    have h1 : ¬ (n : Int) < 0 := by omega
    have h2 : ¬ (n : Int) ≥ 64 := by omega
    have h3 : ¬ (64 : Int) ≤ (n : Int) := by omega
    clear h e
    go_enter Try.func36, Try.ntmps36
    go_wp2_with (fail)
    go_ret
    refine ⟨?_, rfl⟩
    have hw : IntKind.u64.wrap ((2 : Int) ^ n) = (2 : Int) ^ n := by
      have hp : (2 : Int) ^ n < 2 ^ 64 := Int.pow_lt_pow_of_lt (by decide) (by omega)
      have h0 : (0 : Int) < 2 ^ n := Int.pow_pos (by decide)
      have : IntKind.u64.wrap ((2 : Int) ^ n) = (2 : Int) ^ n % 18446744073709551616 := by simp [IntKind.wrap, IntKind.bits, IntKind.signed]
      rw [this]; exact Int.emod_eq_of_lt (by omega) (by simpa using hp)
    show Ending.returned (.int .u64 (IntKind.u64.wrap ((2 : Int) ^ n))) = _
    rw [hw]
  · have e : bitN j = 0 := if_neg h
    rw [e]
    go_enter Try.func36, Try.ntmps36
    by_cases h1 : j < 0
    · go_wp2_with (fail)
      go_ret
      exact ⟨rfl, rfl⟩
    · have h2 : (64 : Int) ≤ j := by omega
      go_wp2_with (fail)
      go_ret
      exact ⟨rfl, rfl⟩

theorem bset_v (m : Nat) (hm : m < 18446744073709551616) (j : Int) (w : World) : Calls Try.prog 9 #[.int .u64 m, .int .i64 j] w fun e w' => e = .returned (.int .u64 ((m ||| bitN j : Nat) : Int)) ∧ w = w' := by
  have HB := Lib.hid (bit_v j)
  have h1 := u64_or_nat m (bitN j) hm (bitN_lt j)
  generalize bitN j = c at *
  go_enter Try.func9, Try.ntmps9
  go_wp2_with (go_at_call 36; refine (HB.out _).mono ?_; rintro e w2 ⟨rfl, rfl⟩)
  go_ret
  exact ⟨rfl, rfl⟩
theorem bclear_v (m : Nat) (hm : m < 18446744073709551616) (j : Int) (w : World) : Calls Try.prog 10 #[.int .u64 m, .int .i64 j] w fun e w' => e = .returned (.int .u64 ((m &&& (18446744073709551615 - bitN j) : Nat) : Int)) ∧ w = w' := by
  have HB := Lib.hid (bit_v j)
  have h1 := u64_andNot_nat m (bitN j) hm (bitN_lt j)
  generalize bitN j = c at *
  go_enter Try.func10, Try.ntmps10
  go_wp2_with (go_at_call 36; refine (HB.out _).mono ?_; rintro e w2 ⟨rfl, rfl⟩)
  go_ret
  exact ⟨rfl, rfl⟩
theorem bhas_v (m : Nat) (hm : m < 18446744073709551616) (j : Int) (w : World) : Calls Try.prog 13 #[.int .u64 m, .int .i64 j] w fun e w' => e = .returned (.bool (decide (m &&& bitN j ≠ 0))) ∧ w = w' := by
  have HB := Lib.hid (bit_v j)
  have h1 := u64_and_nat m (bitN j) hm (bitN_lt j)
  generalize bitN j = c at *
  go_enter Try.func13, Try.ntmps13
  go_wp2_with (go_at_call 36; refine (HB.out _).mono ?_; rintro e w2 ⟨rfl, rfl⟩)
  go_ret
  refine ⟨?_, rfl⟩
  show Ending.returned (.bool ((((m &&& c : Nat) : Int)) != 0)) = _
  by_cases h : m &&& c = 0
  · rw [h]; rfl
  · have h2 : ¬ (((m &&& c : Nat) : Int) = 0) := by omega
    simp only [bne, beq_eq_false_iff_ne.2 h2, decide_eq_true h, ne_eq]; simp
/-- has, by the bit -/
theorem has_bit (m : Nat) (hm : m < 18446744073709551616) (j : Int) : decide (m &&& bitN j ≠ 0) = (decide (0 ≤ j) && m.testBit j.toNat) := by
  unfold bitN
  by_cases h : 0 ≤ j ∧ j < 64
  · rw [if_pos h, nat_bit, Nat.testBit_eq_decide_div_mod_eq]
    have h2 : 0 < 2 ^ j.toNat := Nat.pow_pos (by omega)
    have h3 : m / 2 ^ j.toNat % 2 = 0 ∨ m / 2 ^ j.toNat % 2 = 1 := by omega
    rcases h3 with h3 | h3
    · rw [h3]; simp
    · rw [h3]; simp [h.1]
  · rw [if_neg h]
    by_cases h0 : 0 ≤ j
    · have : m.testBit j.toNat = false := Nat.testBit_lt_two_pow (Nat.lt_of_lt_of_le hm (by rw [show 18446744073709551616 = 2 ^ 64 by rfl]; exact Nat.pow_le_pow_right (by omega) (by omega)))
      simp [this]
    · simp [h0]
end Go.Proofs.Ytdekjfbaoaobeaa
