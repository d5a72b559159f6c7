/-
  word.Hex: a contract.
-/
import Derived.Test.YtnmpgjodndfoiaaDoorHf
import Derived.Test.YtnmpgjodndfoiaaDoorShelf
namespace Go.Proofs.YtnmpgjodndfoiaaDoor
open Go.RowKit

theorem fuint16 (n : Nat) (hn : n ≤ 18446744073709551615) (w : World) (h : Tab16 w) :
    Calls Tryd.prog 38 #[.int .u64 n, .int .i64 16] w fun e w' => ∃ d, 1 ≤ d ∧ d ≤ 16 ∧ n < 16 ^ d ∧ e = .returned (.string ⟨(hexTo n d).toArray⟩) ∧ Below w.heap.size w w' := by
  have HF := Lib.hid (fbits n hn w h)
  clear h
  go_enter Tryd.func38, Tryd.ntmps38
  go_wp2_with (fail)
  refine HF.out.mono ?_
  rintro e w1 ⟨d, hd1, hd2, hd3, rfl, hB⟩
  have HD := Lib.hid (And.intro hd3 hB)
  clear hd3 hB
  go_wp2_with (fail)
  go_ret
  exact ⟨d, hd1, hd2, HD.out.1, rfl, HD.out.2⟩
theorem suint16 (n : Nat) (hn : n ≤ 18446744073709551615) (w : World) (h : Tab16 w) :
    Calls Tryd.prog 29 #[.int .u64 n, .int .i64 16] w fun e w' => ∃ d, 1 ≤ d ∧ d ≤ 16 ∧ n < 16 ^ d ∧ e = .returned (.string ⟨(hexTo n d).toArray⟩) ∧ Below w.heap.size w w' := by
  have HF := Lib.hid (fuint16 n hn w h)
  clear h
  go_enter Tryd.func29, Tryd.ntmps29
  go_wp2_with (fail)
  refine HF.out.mono ?_
  rintro e w1 ⟨d, hd1, hd2, hd3, rfl, hB⟩
  have HD := Lib.hid (And.intro hd3 hB)
  clear hd3 hB
  go_wp2_with (fail)
  go_ret
  exact ⟨d, hd1, hd2, HD.out.1, rfl, HD.out.2⟩

def hexW (n : Nat) : List UInt8 := hexTo n 16
theorem hexTo_zero {n : Nat} : ∀ {d e : Nat}, n < 16 ^ d → hexTo n (d + e) = List.replicate e 48 ++ hexTo n d
  | d, 0, _ => by simp
  | d, e + 1, h => by
    rw [← Nat.add_assoc, hexTo, hexTo_zero h, List.replicate_succ]
    have h1 : n < 16 ^ (d + e) := Nat.lt_of_lt_of_le h (Nat.pow_le_pow_right (by decide) (by omega))
    rw [Nat.div_eq_of_lt h1]
    rfl
theorem hexW_of {n d : Nat} (h : n < 16 ^ d) (hd : d ≤ 16) : List.replicate (16 - d) 48 ++ hexTo n d = hexW n := by
  have := hexTo_zero (e := 16 - d) h
  rw [show d + (16 - d) = 16 by omega] at this
  exact this.symm

theorem repeat_48 : ∀ c, Go.Lib.repeatL [48] c = List.replicate c 48
  | 0 => rfl
  | c + 1 => by rw [Go.Lib.repeatL, repeat_48 c]; rfl
set_option maxRecDepth 100000 in
theorem hex_n (n : Nat) (hn : n ≤ 18446744073709551615) (w : World) (h : Tab16 w) :
    Calls Tryd.prog 10 #[.int .u64 n] w fun e w' => e = .returned (.string ⟨(hexW n).toArray⟩) ∧ Below w.heap.size w w' := by
  have HF := Lib.hid (suint16 n hn w h)
  clear h
  go_enter Tryd.func10, Tryd.ntmps10
  go_wp2_with (fail)
  refine HF.out.mono ?_
  rintro e w1 ⟨d, hd1, hd2, hd3, rfl, hB⟩
  have HW := Lib.hid (hexW_of hd3 hd2)
  have HB := Lib.hid hB
  have HL := Lib.hid (hexTo_len n d)
  clear hd3 hB
  obtain ⟨s, hs⟩ : ∃ s, hexTo n d = s := ⟨_, rfl⟩
  rw [hs] at HW HL ⊢
  clear hs
  have hl1 : (s.length : Int) ≤ 16 := by have := HL.out; omega
  go_wp2_with (fail)
  rw [show (16 - (s.length : Int)) = ((16 - d : Nat) : Int) by have := HL.out; omega]
  refine (Tryd.strings_Repeat ⟨#[48]⟩ (16 - d) _ (by omega) (by have : (⟨#[48]⟩ : ByteArray).size = 1 := rfl; rw [this]; omega)).mono ?_
  rintro e w2 ⟨rfl, hB2⟩
  have HB2 := Lib.hid hB2
  clear hB2
  have hE := repeat_48 (16 - d)
  obtain ⟨r, hr⟩ : ∃ r, Go.Lib.repeatL [48] (16 - d) = r := ⟨_, rfl⟩
  rw [hr] at hE ⊢
  have hsz : ¬ 9223372036854775807 < r.length + s.length := by rw [hE, List.length_replicate]; omega
  have HE := Lib.hid hE
  clear hE hr
  go_wp2_with (fail)
  go_ret
  refine ⟨?_, HB.out.trans (HB2.out.mono HB.out.size)⟩
  rw [← HW.out, HE.out]
  congr 2
end Go.Proofs.YtnmpgjodndfoiaaDoor
