/-
  The law WordOrder, walked.
-/
import Derived.Test.YtnmpgjodndfoiaaDoorKw
namespace Go.Proofs.YtnmpgjodndfoiaaDoor
open Go.RowKit

theorem hexW_len (n : Nat) : (hexW n).length = 16 := hexTo_len n 16
theorem hexD_lt {i j : Nat} (h : i < j) (hj : j < 16) : hexD i < hexD j := by
  have : ∀ i j : Fin 16, i < j → hexD i.val < hexD j.val := by decide
  exact this ⟨i, by omega⟩ ⟨j, hj⟩ h
theorem hex_less (a b : Nat) : ∀ d, Op.bytesLess (hexTo a d) (hexTo b d) = decide (a % 16 ^ d < b % 16 ^ d) ∧ (hexTo a d == hexTo b d) = decide (a % 16 ^ d = b % 16 ^ d)
  | 0 => by simp [hexTo, Op.bytesLess, Nat.mod_one]
  | d + 1 => by
    obtain ⟨h1, h2⟩ := hex_less a b d
    have key : ∀ n : Nat, n % 16 ^ (d + 1) = (n / 16 ^ d % 16) * 16 ^ d + n % 16 ^ d := fun n => by
      rw [Nat.pow_succ, Nat.mod_mul, Nat.mul_comm]; omega
    have hp : 0 < 16 ^ d := Nat.pow_pos (by decide)
    have ra := Nat.mod_lt a hp
    have rb := Nat.mod_lt b hp
    rw [key a, key b]
    simp only [hexTo]
    have da := Nat.mod_lt (a / 16 ^ d) (show 0 < 16 by decide)
    have db := Nat.mod_lt (b / 16 ^ d) (show 0 < 16 by decide)
    generalize a / 16 ^ d % 16 = i at *
    generalize b / 16 ^ d % 16 = j at *
    generalize a % 16 ^ d = r at *
    generalize b % 16 ^ d = t at *
    generalize 16 ^ d = q at *
    rcases Nat.lt_trichotomy i j with h | h | h
    · have hh := hexD_lt h db
      have hm : (i + 1) * q ≤ j * q := Nat.mul_le_mul_right q h
      rw [Nat.succ_mul] at hm
      have hne : hexD i ≠ hexD j := fun e => by rw [e] at hh; exact absurd hh (by simp [UInt8.lt_irrefl])
      constructor
      · rw [Op.bytesLess]; simp [hh]; omega
      · have : (hexD i == hexD j) = false := by simpa using hne
        simp [this]; omega
    · subst h
      constructor
      · rw [Op.bytesLess]; simp [UInt8.lt_irrefl, h1]
      · simpa using h2
    · have hh := hexD_lt h da
      have hm : (j + 1) * q ≤ i * q := Nat.mul_le_mul_right q h
      rw [Nat.succ_mul] at hm
      have hne : hexD i ≠ hexD j := fun e => by rw [e] at hh; exact absurd hh (by simp [UInt8.lt_irrefl])
      have hnl : ¬ hexD i < hexD j := fun h2 => absurd (UInt8.lt_trans hh h2) (by simp [UInt8.lt_irrefl])
      constructor
      · rw [Op.bytesLess, show (hexD i == hexD j) = false by simpa using hne]; simp [hnl]; omega
      · have : (hexD i == hexD j) = false := by simpa using hne
        simp [this]; omega
set_option maxRecDepth 100000 in
theorem order_law (a b : Nat) (ha : a ≤ 18446744073709551615) (hb : b ≤ 18446744073709551615) (w : World) (h : Tab16 w) :
    Calls Tryd.prog 3 #[.int .u64 a, .int .u64 b] w fun e w' => e = .returned (.bool true) ∧ Below w.heap.size w w' := by
  have HT := Lib.hid h
  clear h
  go_enter Tryd.func3, Tryd.ntmps3
  go_wp2_with (fail)
  refine (hex_n a ha _ HT.out).mono ?_
  rintro e w1 ⟨rfl, hB1⟩
  have HB1 := Lib.hid hB1
  clear hB1
  go_wp2_with (fail)
  refine (hex_n b hb _ (HT.out.below HB1.out)).mono ?_
  rintro e w2 ⟨rfl, hB2⟩
  have HB2 := Lib.hid (HB1.out.trans (hB2.mono HB1.out.size))
  clear hB2 HB1
  have hl1 := hexW_len a
  have hl2 := hexW_len b
  obtain ⟨x, hx⟩ : ∃ x, hexW a = x := ⟨_, rfl⟩
  obtain ⟨y, hy⟩ : ∃ y, hexW b = y := ⟨_, rfl⟩
  rw [hx] at hl1 ⊢
  rw [hy] at hl2 ⊢
  have hle := (hex_less a b 16)
  rw [Nat.mod_eq_of_lt (show a < 16 ^ 16 by have : (16 : Nat) ^ 16 = 18446744073709551616 := by decide
                                            omega), Nat.mod_eq_of_lt (show b < 16 ^ 16 by have : (16 : Nat) ^ 16 = 18446744073709551616 := by decide
                                                                                          omega)] at hle
  change Op.bytesLess (hexW a) (hexW b) = _ ∧ (hexW a == hexW b) = _ at hle
  rw [hx, hy] at hle
  obtain ⟨hle1, hle2⟩ := hle
  have hle3 : (x == y) = ((a : Int) == (b : Int)) := by
    rw [hle2, Bool.eq_iff_iff]; simp; omega
  clear hle2 hx hy
  go_wp2_with (fail)
  refine (known_any _ (HT.out.below HB2.out)).mono ?_
  rintro e w3 ⟨rfl, hB3⟩
  have HB3 := Lib.hid (HB2.out.trans (hB3.mono HB2.out.size))
  clear hB3
  go_wp2_with (fail)
  go_ret
  exact ⟨rfl, HB3.out⟩
end Go.Proofs.YtnmpgjodndfoiaaDoor
