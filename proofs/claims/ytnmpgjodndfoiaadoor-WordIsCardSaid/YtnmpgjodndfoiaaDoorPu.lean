/-
  The library's ParseUint at base 16: contracts.
-/
import Derived.Test.YtnmpgjodndfoiaaDoorPh
import Derived.Test.YtnmpgjodndfoiaaDoorHh
import Derived.Lib.Strings
import Derived.Lib.ConvBytes
import Derived.Lib.AtoiAllMem
import Derived.Lib.BufferWrite
import Derived.Lib.UnsafeStr
import Derived.Lib.IfaceEq
import Derived.Laws.Strings3
import Derived.Laws.Closers25
import Derived.Laws.Closers25b
import Derived.Laws.MakeOwn
import Derived.BigCall
import Derived.BigGuard
import Derived.Deep.RegionWith
namespace Go.Proofs.YtnmpgjodndfoiaaDoor
open Go.RowKit

/-- a word and an error of the library, as they come back -/
def uT (T : TypeId) : Option (Option Nat) → Value
  | some (some n) => .tuple #[.int .u64 n, .nilIface]
  | none => .tuple #[.int .u64 0, .iface T (.int .i64 2)]
  | some none => .tuple #[.int .u64 18446744073709551615, .iface T (.int .i64 1)]
theorem lower_c (c : Int) (w : World) : Calls Tryd.prog 57 #[.int .u8 c] w fun e w' => e = .returned (.int .u8 (bits .or .u8 c 32)) ∧ w = w' := by
  go_enter Tryd.func57, Tryd.ntmps57
  go_wp2
  go_ret
  exact ⟨rfl, rfl⟩

theorem Tryd.infoU8P : (Tryd.prog.info? 5).map (fun i => (i.zero, i.size, i.bytes)) = some (some (.int .u8 0), 1, 1) := by kernel_rfl

set_option maxHeartbeats 32000000 in
set_option maxRecDepth 100000 in
theorem ipu_v (t : ByteArray) (hne : t.size ≠ 0) (hmax : t.size ≤ 1000000) (w : World) :
    Calls Tryd.prog 46 #[.string t, .int .i64 16, .int .i64 64] w fun e w' => e = .returned (uT 94 (pu16 0 t.data.toList)) ∧ w' = Lib.bytesWorld w 5 t := by
  have hemp : t.toList.isEmpty = false := by
    rw [← decide_eq_emptyBytes]
    exact decide_eq_false (fun h => hne (by rw [h]; rfl))
  have hcv := Lib.run_convert_string_bytes (P := Tryd.prog) w 9 26 5 t (u := .string) Tryd.underlying9 Tryd.underlying26 Tryd.underlying5
  have hB : ∀ j, j < t.size → (Lib.bytesWorld w 5 t).cell? ⟨w.heap.size, j, none⟩ = some (.int .u8 (t.data.toList.getD j 0).toNat) := fun j hj => Lib.bytesWorld_cell w 5 t j hj
  obtain ⟨W1, hW1⟩ : ∃ W1, W1 = Lib.bytesWorld w 5 t := ⟨_, rfl⟩
  rw [← hW1] at hcv hB ⊢
  clear hW1
  obtain ⟨bs, hL⟩ : ∃ bs, bs = t.data.toList := ⟨_, rfl⟩
  have hLn : bs.length = t.size := by rw [hL, Lib.size_eq]
  rw [← hL] at hB ⊢
  clear hL
  have hmv : IntKind.u64.wrap (IntKind.u64.wrap 18446744073709551616 - 1) = 18446744073709551615 := by
    rw [IntKind.wrap_u64, IntKind.wrap_u64]
    decide
  go_enter Tryd.func46, Tryd.ntmps46
  go_wp2
  go_loop [12, 13, 101] (fun vu vn vi => ∃ (k acc : Nat) (a : Int), vu = .bool false ∧ vn = .int .u64 a ∧ vi = .int .i64 k ∧ k ≤ t.size ∧ Hid (a = (acc : Int) ∧ acc < 18446744073709551616 ∧ pu16 0 bs = pu16 acc (bs.drop k)))
    (fun _ _ vi => t.size - (intOf vi).toNat)
  case atStart => exact ⟨0, 0, 0, rfl, rfl, rfl, by omega, rfl, by omega, rfl⟩
  case round =>
    obtain ⟨k, acc, a, rfl, rfl, rfl, hk, hh⟩ := hrel
    obtain ⟨ha, hacc, hdec⟩ := hh.out
    clear hh
    have a0 : 0 ≤ a := by omega
    have a1 : a < 18446744073709551616 := by omega
    by_cases hkn : k < t.size
    · have hc := hB k hkn
      have hdrop : bs.drop k = bs[k]'(by omega) :: bs.drop (k + 1) := List.drop_eq_getElem_cons (by omega)
      have hget : bs.getD k 0 = bs[k]'(by omega) := by simp [List.getD, List.getElem?_eq_getElem (show k < bs.length by omega)]
      rw [hdrop] at hdec
      rw [hget] at hc
      generalize bs[k]'(by omega) = c at hc hdec
      have hc256 : c.toNat < 256 := c.toNat_lt
      clear hB hdrop hget
      by_cases hdig : 48 ≤ c.toNat ∧ c.toNat ≤ 57
      · obtain ⟨hd0, hd1⟩ := hdig
        by_cases hcut : 1152921504606846976 ≤ acc
        · have hF : pu16 acc (c :: bs.drop (k + 1)) = (some none) := by simp [pu16, hd0, hd1, hcut]
          rw [hF] at hdec
          have icut : 1152921504606846976 ≤ a := by omega
          clear hcut hacc hF ha
          go_wp2
          go_ret2
          exact ⟨rfl, rfl⟩
        · have hF : pu16 acc (c :: bs.drop (k + 1)) = pu16 (acc * 16 + (c.toNat - 48)) (bs.drop (k + 1)) := by simp [pu16, hd0, hd1, hcut]
          have HN : Hid (a * 16 + ((c.toNat : Int) - 48) = ((acc * 16 + (c.toNat - 48) : Nat) : Int) ∧ acc * 16 + (c.toNat - 48) < 18446744073709551616 ∧ pu16 0 bs = pu16 (acc * 16 + (c.toNat - 48)) (bs.drop (k + 1))) := Lib.hid ⟨by omega, by omega, hdec.trans hF⟩
          have icut : a < 1152921504606846976 := by omega
          clear hcut hacc hF hdec ha
          go_wp2
          refine ⟨⟨k + 1, acc * 16 + (c.toNat - 48), a * 16 + ((c.toNat : Int) - 48), rfl, (by first | rfl | (congr 1; omega)), (by first | rfl | (congr 1; omega)), by omega, HN⟩, by simp [intOf]; omega⟩
      · by_cases h95 : c.toNat = 95
        · have hc95 : c = 95 := UInt8.toNat_inj.1 (by simpa using h95)
          subst hc95
          have hF : pu16 acc ((95 : UInt8) :: bs.drop (k + 1)) = none := by
            have e : lw 95 = 127 := by decide
            simp [pu16, e]
          rw [hF] at hdec
          have hb95 : bits .or .u8 95 32 = 127 := by decide
          have hc' : W1.cell? ⟨w.heap.size, k, none⟩ = some (.int .u8 95) := hc
          clear hacc hF ha hdig h95 hc hc256
          go_wp2_with (go_at_call 57; refine (lower_c _ _).mono ?_; rintro e w' ⟨rfl, rfl⟩)
          all_goals go_ret2
          all_goals first | exact ⟨rfl, rfl⟩ | exact ⟨by rw [hdec]; rfl, rfl⟩
        have h95b : ((c.toNat : Int) == 95) = false := by rw [beq_eq_false_iff_ne]; omega
        clear h95
        have hv0 := bits_lo_u8 .or (c.toNat : Int) 32
        have hv1 := bits_hi_u8 .or (c.toNat : Int) 32
        have hlw : lw c = bits .or .u8 (c.toNat : Int) 32 := rfl
        have HLW := Lib.hid (fun w => lower_c (c.toNat : Int) w)
        rw [← hlw] at HLW hv0 hv1
        by_cases hlc : 97 ≤ lw c ∧ lw c ≤ 102
        · obtain ⟨hd0, hd1⟩ := hlc
          by_cases hcut : 1152921504606846976 ≤ acc
          · have hF : pu16 acc (c :: bs.drop (k + 1)) = (some none) := by simp [pu16, hdig, hd0, hd1, hcut]
            rw [hF] at hdec
            have icut : 1152921504606846976 ≤ a := by omega
            clear hcut hacc hF ha hlw
            generalize lw c = v at *
            go_wp2_with (go_at_call 57; refine (HLW.out _).mono ?_; rintro e w' ⟨rfl, rfl⟩)
            all_goals go_ret2
            all_goals first | exact ⟨rfl, rfl⟩ | exact ⟨by rw [hdec]; rfl, rfl⟩
          · have hF : pu16 acc (c :: bs.drop (k + 1)) = pu16 (acc * 16 + ((lw c).toNat - 87)) (bs.drop (k + 1)) := by simp [pu16, hdig, hd0, hd1, hcut]
            have HN : Hid (a * 16 + (lw c - 97 + 10) = ((acc * 16 + ((lw c).toNat - 87) : Nat) : Int) ∧ acc * 16 + ((lw c).toNat - 87) < 18446744073709551616 ∧ pu16 0 bs = pu16 (acc * 16 + ((lw c).toNat - 87)) (bs.drop (k + 1))) := Lib.hid ⟨by omega, by omega, hdec.trans hF⟩
            have icut : a < 1152921504606846976 := by omega
            clear hcut hacc hF hdec ha hlw
            generalize lw c = v at *
            go_wp2_with (go_at_call 57; refine (HLW.out _).mono ?_; rintro e w' ⟨rfl, rfl⟩)
            all_goals (refine ⟨⟨k + 1, acc * 16 + (v.toNat - 87), a * 16 + (v - 97 + 10), rfl, (by first | rfl | (congr 1; omega)), (by first | rfl | (congr 1; omega)), by omega, HN⟩, by simp [intOf]; omega⟩)
        · have hF : pu16 acc (c :: bs.drop (k + 1)) = none := by simp [pu16, hdig, hlc]
          rw [hF] at hdec
          clear hacc hF ha hlw
          generalize lw c = v at *
          go_wp2_with (go_at_call 57; refine (HLW.out _).mono ?_; rintro e w' ⟨rfl, rfl⟩)
          all_goals go_ret2
          all_goals first | exact ⟨rfl, rfl⟩ | exact ⟨by rw [hdec]; rfl, rfl⟩
    · have hkk : k = t.size := by omega
      subst hkk
      have hF : pu16 acc (bs.drop t.size) = some (some acc) := by rw [List.drop_eq_nil_of_le (by omega)]; rfl
      rw [hF] at hdec
      subst ha
      clear hacc hF a0 a1
      go_wp2
      go_ret2
      exact ⟨rfl, rfl⟩
end Go.Proofs.YtnmpgjodndfoiaaDoor
