/-
  DIGITS OF SIXTEEN: what is read of them, in plain numbers.
-/
import Derived.Test.YtnmpgjodndfoiaaDoorHf
namespace Go.Proofs.YtnmpgjodndfoiaaDoor
open Go.RowKit

/-- a digit as the document has it -/
def dig (c : UInt8) : Option Nat := if 48 ≤ c.toNat ∧ c.toNat ≤ 57 then some (c.toNat - 48) else if 97 ≤ c.toNat ∧ c.toNat ≤ 102 then some (c.toNat - 87) else none
def valH : Nat → List UInt8 → Option Nat
  | acc, [] => some acc
  | acc, c :: r => match dig c with
    | none => none
    | some d => valH (16 * acc + d) r
/-- the word of digits, and an error -/
def OfH (s : List UInt8) : Nat × Int := if s.length = 16 then (match valH 0 s with | some m => (m, 0) | none => (0, 11)) else (0, 11)
/-- the bit 32 set -/
def lw (c : UInt8) : Int := bits .or .u8 (c.toNat : Int) 32
/-- the library's reading at base 16 -/
def pu16 : Nat → List UInt8 → Option (Option Nat)
  | acc, [] => some (some acc)
  | acc, c :: r =>
    if 48 ≤ c.toNat ∧ c.toNat ≤ 57 then (if 1152921504606846976 ≤ acc then (some none) else pu16 (acc * 16 + (c.toNat - 48)) r)
    else if 97 ≤ lw c ∧ lw c ≤ 102 then (if 1152921504606846976 ≤ acc then (some none) else pu16 (acc * 16 + ((lw c).toNat - 87)) r)
    else none
theorem pu16_lt : ∀ (l : List UInt8) (acc u : Nat), acc < 18446744073709551616 → pu16 acc l = some (some u) → u < 18446744073709551616
  | [], acc, u, ha, h => by simp only [pu16] at h; cases h; exact ha
  | c :: r, acc, u, ha, h => by
    rw [pu16] at h
    split at h
    · split at h
      · cases h
      · exact pu16_lt r _ u (by omega) h
    · split at h
      · rename_i h2
        split at h
        · cases h
        · exact pu16_lt r _ u (by omega) h
      · cases h
theorem dig_hexD (k : Nat) (hk : k < 16) : dig (hexD k) = some k := by
  have : ∀ k : Fin 16, dig (hexD k.val) = some k.val := by decide
  exact this ⟨k, hk⟩
theorem hexD_dig {c : UInt8} {d : Nat} (h : dig c = some d) : d < 16 ∧ hexD d = c := by
  unfold dig at h
  split at h
  · cases h
    refine ⟨by omega, ?_⟩
    unfold hexD
    rw [if_pos (by omega)]
    apply UInt8.toNat_inj.1
    simp; omega
  · split at h
    · cases h
      refine ⟨by omega, ?_⟩
      unfold hexD
      rw [if_neg (by omega)]
      apply UInt8.toNat_inj.1
      simp; omega
    · cases h
theorem lw_hexD (k : Nat) (hk : k < 16) : (k < 10 → 48 ≤ (hexD k).toNat ∧ (hexD k).toNat ≤ 57 ∧ (hexD k).toNat - 48 = k) ∧ (¬ k < 10 → ¬ (48 ≤ (hexD k).toNat ∧ (hexD k).toNat ≤ 57) ∧ lw (hexD k) = ((87 + k : Nat) : Int)) := by
  have : ∀ k : Fin 16, (k.val < 10 → 48 ≤ (hexD k.val).toNat ∧ (hexD k.val).toNat ≤ 57 ∧ (hexD k.val).toNat - 48 = k.val) ∧ (¬ k.val < 10 → ¬ (48 ≤ (hexD k.val).toNat ∧ (hexD k.val).toNat ≤ 57) ∧ lw (hexD k.val) = ((87 + k.val : Nat) : Int)) := by decide
  exact this ⟨k, hk⟩
theorem pow_pos16 (d : Nat) : 0 < 16 ^ d := Nat.pow_pos (by decide)
theorem key16 (n d : Nat) : n % 16 ^ (d + 1) = (n / 16 ^ d % 16) * 16 ^ d + n % 16 ^ d := by
  rw [Nat.pow_succ, Nat.mod_mul, Nat.mul_comm]; omega
theorem pu16_hex (m : Nat) : ∀ (d acc : Nat), d ≤ 16 → acc < 16 ^ (16 - d) → pu16 acc (hexTo m d) = some (some (acc * 16 ^ d + m % 16 ^ d))
  | 0, acc, _, _ => by simp [hexTo, pu16, Nat.mod_one]
  | d + 1, acc, hd, ha => by
    have hk : m / 16 ^ d % 16 < 16 := Nat.mod_lt _ (by decide)
    have ha2 : acc < 1152921504606846976 := by
      have : (16 : Nat) ^ (16 - (d + 1)) ≤ 16 ^ 15 := Nat.pow_le_pow_right (by decide) (by omega)
      have e : (16 : Nat) ^ 15 = 1152921504606846976 := by decide
      omega
    have hnx : acc * 16 + m / 16 ^ d % 16 < 16 ^ (16 - d) := by
      have e : 16 - d = (16 - (d + 1)) + 1 := by omega
      rw [e, Nat.pow_succ]; omega
    have hfin : (acc * 16 + m / 16 ^ d % 16) * 16 ^ d + m % 16 ^ d = acc * 16 ^ (d + 1) + m % 16 ^ (d + 1) := by
      rw [key16 m d, Nat.pow_succ, Nat.add_mul]
      have : acc * 16 * 16 ^ d = acc * (16 ^ d * 16) := by rw [Nat.mul_assoc, Nat.mul_comm 16]
      omega
    obtain ⟨l1, l2⟩ := lw_hexD _ hk
    rw [hexTo, pu16]
    by_cases h10 : m / 16 ^ d % 16 < 10
    · obtain ⟨q1, q2, q3⟩ := l1 h10
      rw [if_pos ⟨q1, q2⟩, if_neg (by omega), q3, pu16_hex m d _ (by omega) hnx, hfin]
    · obtain ⟨q1, q2⟩ := l2 h10
      rw [if_neg q1, q2, if_pos (by omega), if_neg (by omega), show ((87 + m / 16 ^ d % 16 : Nat) : Int).toNat - 87 = m / 16 ^ d % 16 by omega, pu16_hex m d _ (by omega) hnx, hfin]
theorem valH_hex (m : Nat) : ∀ (d acc : Nat), valH acc (hexTo m d) = some (acc * 16 ^ d + m % 16 ^ d)
  | 0, acc => by simp [hexTo, valH, Nat.mod_one]
  | d + 1, acc => by
    have hk : m / 16 ^ d % 16 < 16 := Nat.mod_lt _ (by decide)
    rw [hexTo, valH, dig_hexD _ hk]
    show valH _ _ = _
    rw [valH_hex m d]
    have : (16 * acc + m / 16 ^ d % 16) * 16 ^ d + m % 16 ^ d = acc * 16 ^ (d + 1) + m % 16 ^ (d + 1) := by
      rw [key16 m d, Nat.pow_succ, Nat.add_mul]
      have : 16 * acc * 16 ^ d = acc * (16 ^ d * 16) := by rw [Nat.mul_comm 16 acc, Nat.mul_assoc, Nat.mul_comm 16]
      omega
    rw [this]
theorem valH_is : ∀ (s : List UInt8) (acc m : Nat), valH acc s = some m → s = hexTo m s.length ∧ m / 16 ^ s.length = acc
  | [], acc, m, h => by simp only [valH] at h; cases h; exact ⟨rfl, by simp⟩
  | c :: r, acc, m, h => by
    rw [valH] at h
    cases hd : dig c with
    | none => rw [hd] at h; cases h
    | some d =>
      rw [hd] at h
      obtain ⟨e1, e2⟩ := valH_is r _ m h
      obtain ⟨d1, d2⟩ := hexD_dig hd
      have e3 : m / 16 ^ r.length % 16 = d := by rw [e2]; omega
      refine ⟨?_, ?_⟩
      · rw [List.length_cons, hexTo, e3, d2, ← e1]
      · rw [List.length_cons, Nat.pow_succ, ← Nat.div_div_eq_div_mul, e2]; omega
theorem ofH_hex (m : Nat) (hm : m < 18446744073709551616) : OfH (hexTo m 16) = (m, 0) := by
  have e : (16 : Nat) ^ 16 = 18446744073709551616 := by decide
  unfold OfH
  rw [if_pos (hexTo_len m 16), valH_hex m 16 0]
  simp only [Nat.zero_mul, Nat.zero_add]
  rw [e, Nat.mod_eq_of_lt hm]
theorem ofH_cases (s : List UInt8) : (∃ m, m < 18446744073709551616 ∧ s = hexTo m 16 ∧ OfH s = (m, 0) ∧ pu16 0 s = some (some m)) ∨ ((∀ m, hexTo m 16 ≠ s) ∧ OfH s = (0, 11)) := by
  have e : (16 : Nat) ^ 16 = 18446744073709551616 := by decide
  by_cases h : ∃ m, m < 18446744073709551616 ∧ s = hexTo m 16
  · obtain ⟨m, hm, rfl⟩ := h
    refine .inl ⟨m, hm, rfl, ofH_hex m hm, ?_⟩
    rw [pu16_hex m 16 0 (Nat.le_refl _) (by decide), e, Nat.mod_eq_of_lt hm]
    simp
  · refine .inr ⟨fun m e2 => h ⟨m % 16 ^ 16, by rw [e]; exact Nat.mod_lt _ (by decide), ?_⟩, ?_⟩
    · have h1 := valH_hex m 16 0
      rw [e2] at h1
      obtain ⟨h2, _⟩ := valH_is s 0 _ h1
      have hl : s.length = 16 := by rw [← e2, hexTo_len]
      rw [hl] at h2
      simpa using h2
    · unfold OfH
      by_cases hl : s.length = 16
      · rw [if_pos hl]
        cases hv : valH 0 s with
        | none => rfl
        | some m =>
          obtain ⟨h2, h3⟩ := valH_is s 0 m hv
          rw [hl] at h2 h3
          exact absurd ⟨m, by rw [e] at h3; omega, h2⟩ h
      · rw [if_neg hl]
end Go.Proofs.YtnmpgjodndfoiaaDoor
