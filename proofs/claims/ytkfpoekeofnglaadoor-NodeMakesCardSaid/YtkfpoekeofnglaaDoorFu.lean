/-
  strconv.FormatUint at base ten: contracts.
-/
import Derived.Test.YtkfpoekeofnglaaDoorShelf
import Derived.Test.YtkfpoekeofnglaaDoorChecked
import Derived.Test.YtkfpoekeofnglaaDoorLib
import Derived.Lib.Hide
import Derived.Lib.AppendIntMem
import Derived.Lib.LaidTab
namespace Go.Proofs.YtkfpoekeofnglaaDoor
open Go.Shelf Go.RowKit Go.Sort Go.Lib

theorem below_grow (w : World) (k : Nat) (os : Array Obj) : Below w.heap.size w (grow (w.drewN k) os) :=
  ⟨rfl, rfl, rfl, by simp [grow, World.drewN], fun i hi => by simp [grow, World.drewN, Array.getElem?_append, hi]⟩
/-- the table of tens, as the program lays it -/
def Tens (w : World) : Prop := Lib.TabIs Tryd.prog w "internal/strconv.uint64pow10" .u64 Lib.pow10Tab
def numS (u : Nat) : Value := .string ⟨(Lib.decDigits u).toArray⟩

set_option maxRecDepth 100000 in
set_option maxHeartbeats 3200000 in
theorem ifu_10 (u : Nat) (hu64 : u < 18446744073709551616) (w : World) (htab : Tens w) :
    Calls Tryd.prog 58 #[.int .u64 u, .int .i64 10] w fun e w' => e = .returned (numS u) ∧ Below w.heap.size w w' := by
  have HU := Lib.hid hu64
  by_cases hs : u < 100
  · have h1 : (u : Int) < 100 := by omega
    have HS := Lib.hid (fun w => Tryd.internal_strconv_small u hs w)
    clear hs hu64
    go_enter Tryd.func58, Tryd.ntmps58
    go_wp2_with (go_at_call 62; refine (HS.out _).mono ?_; rintro e w' ⟨rfl, rfl⟩)
    go_ret
    exact ⟨rfl, Below.refl _ _⟩
  · have h1 : ¬ (u : Int) < 100 := by omega
    have hu1 : 1 ≤ u := by omega
    have hnd20 : Lib.nDigits u ≤ 20 := by have := Lib.numDigits_eq u hu1 hu64; split at this <;> omega
    have hfmt := Tryd.internal_strconv_formatBase10 w.heap.size 0 24 u (Array.replicate (Lib.nDigits u) 0) (w.alloc (.cells Lib.zeros24 87)) (Lib.holds_zero0 w 87 (Lib.nDigits u) (by omega)) (by rw [Array.size_replicate]; exact Lib.lt_pow_nDigits u) hu64 (by rw [Array.size_replicate]; omega)
    rw [Array.size_replicate] at hfmt
    have HH0 := Lib.hid (Lib.holds_zero0 w 87 (Lib.nDigits u) (by omega))
    have HND := Lib.hid (fun W (ht : Tens W) => Tryd.internal_strconv_numDigits u hu1 hu64 W ht)
    have HT := Lib.hid (show Tens (w.alloc (.cells Lib.zeros24 87)) from Lib.tabIs_alloc htab _)
    have HF := Lib.hid hfmt
    have hb3 : (Lib.nDigits u : Int) ≤ 24 := by omega
    clear hs hu64 hfmt
    go_enter Tryd.func58, Tryd.ntmps58
    go_wp2_with (go_at_call 63; refine (HND.out _ HT.out).mono ?_; rintro e w' ⟨rfl, rfl⟩)
    refine HF.out.mono ?_
    rintro e w' ⟨rfl, k, v', dk, rfl, hF⟩
    have hcv : (convert 74 9 (.slice (some ⟨w.heap.size, 0, none⟩) (Lib.nDigits u) 24)).run Tryd.prog ((putRow (fun (b : UInt8) => Value.int .u8 (b.toNat : Int)) (w.alloc (.cells Lib.zeros24 87)) w.heap.size 0 dk).drewN k) = .ok (.string ⟨(Lib.decDigits u).toArray⟩) ((putRow (fun (b : UInt8) => Value.int .u8 (b.toNat : Int)) (w.alloc (.cells Lib.zeros24 87)) w.heap.size 0 dk).drewN k) := by
      have h := run_convert_bytes_back (P := Tryd.prog) ((putRow (fun (b : UInt8) => Value.int .u8 (b.toNat : Int)) (w.alloc (.cells Lib.zeros24 87)) w.heap.size 0 dk).drewN k) 74 9 5 ⟨w.heap.size, 0, none⟩ 24 (Lib.decDigits u) Tryd.underlying74 Tryd.underlying5 Tryd.underlying9 (fun j hj => by
        rw [Lib.row_is_numeral hF j hj, Lib.add_plain, World.cell?_drewN]
        exact cell?_putRow (fun (b : UInt8) => Value.int .u8 (b.toNat : Int)) _ w.heap.size 0 _ dk HH0.out (by rw [hF.size, Array.size_replicate]) j (by rw [hF.size]; rw [Lib.decDigits_length] at hj; exact hj))
      rw [Lib.decDigits_length] at h
      exact h
    obtain ⟨os, eo⟩ := Lib.fin_at w (.cells Lib.zeros24 87) dk k 0
    have HE := Lib.hid eo
    clear eo
    go_wp2
    go_ret
    exact ⟨rfl, by rw [HE.out]; exact below_grow w k os⟩
theorem fu_10 (u : Nat) (hu64 : u < 18446744073709551616) (w : World) (htab : Tens w) :
    Calls Tryd.prog 52 #[.int .u64 u, .int .i64 10] w fun e w' => e = .returned (numS u) ∧ Below w.heap.size w w' := by
  have HF := Lib.hid (ifu_10 u hu64 w htab)
  clear hu64 htab
  go_enter Tryd.func52, Tryd.ntmps52
  go_wp2_with (go_at_call 58; refine HF.out.mono ?_; rintro e w1 ⟨rfl, hB⟩; have HB := Lib.hid hB; clear hB)
  go_ret
  exact ⟨rfl, HB.out⟩
theorem num_w (u : Nat) (hu64 : u < 18446744073709551616) (w : World) (htab : Tens w) :
    Calls Tryd.prog 41 #[.int .u64 u] w fun e w' => e = .returned (numS u) ∧ Below w.heap.size w w' := by
  have HF := Lib.hid (fu_10 u hu64 w htab)
  clear hu64 htab
  go_enter Tryd.func41, Tryd.ntmps41
  go_wp2_with (go_at_call 52; refine HF.out.mono ?_; rintro e w1 ⟨rfl, hB⟩; have HB := Lib.hid hB; clear hB)
  go_ret
  exact ⟨rfl, HB.out⟩
theorem num_a (u : Nat) (hu64 : u < 18446744073709551616) (w : World) (htab : Tens w) :
    Calls Tryd.prog 42 #[.int .u64 u] w fun e w' => e = .returned (numS u) ∧ Below w.heap.size w w' := by
  have HF := Lib.hid (fu_10 u hu64 w htab)
  clear hu64 htab
  go_enter Tryd.func42, Tryd.ntmps42
  go_wp2_with (go_at_call 52; refine HF.out.mono ?_; rintro e w1 ⟨rfl, hB⟩; have HB := Lib.hid hB; clear hB)
  go_ret
  exact ⟨rfl, HB.out⟩
theorem itoa_n (u : Nat) (hu : u ≤ 9223372036854775807) (w : World) (htab : Tens w) :
    Calls Tryd.prog 40 #[.int .i64 u] w fun e w' => e = .returned (numS u) ∧ Below w.heap.size w w' :=
  (Tryd.strconv_Itoa (u : Int) (by omega) (by omega) w htab).mono fun e w' ⟨he, k, os, hw⟩ => ⟨by rw [he, Lib.itoa_nonneg]; rfl, by rw [hw]; exact below_grow w k os⟩
end Go.Proofs.YtkfpoekeofnglaaDoor
