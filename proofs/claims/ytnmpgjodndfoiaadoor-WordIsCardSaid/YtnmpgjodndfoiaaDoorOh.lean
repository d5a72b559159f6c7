/-
  word.OfHex; the document's OfHex and Hex: contracts.
-/
import Derived.Test.YtnmpgjodndfoiaaDoorPe
namespace Go.Proofs.YtnmpgjodndfoiaaDoor
open Go.RowKit

def OfP (l : List UInt8) : Value := .tuple #[.int .u64 ((OfH l).1 : Int), .int .i64 (OfH l).2]
set_option maxHeartbeats 1000000 in
set_option maxRecDepth 100000 in
theorem ofhex_v (l : List UInt8) (hl : l.length ≤ 1000) (w : World) (hT : Tab16 w) (hE : ErrVars w) :
    Calls Tryd.prog 26 #[.string ⟨l.toArray⟩] w fun e w' => e = .returned (OfP l) ∧ Below w.heap.size w w' := by
  have HP := Lib.hid (pu_v ⟨l.toArray⟩ (by show l.toArray.size ≤ _; simp; omega) w hE)
  have HT := Lib.hid hT
  have HO := Lib.hid (ofH_cases l)
  clear hT hE
  go_enter Tryd.func26, Tryd.ntmps26
  go_wp2_with (fail)
  refine HP.out.mono ?_
  rintro e w1 (⟨u, hp, hne, rfl, hB⟩ | ⟨hno, x, N, rfl, hB⟩)
  · have hp' : pu16 0 l = some (some u) := hp
    have hu : u < 18446744073709551616 := pu16_lt l 0 u (by decide) hp'
    have HB := Lib.hid hB
    have HX := Lib.hid (hex_n u (by omega) w1 (HT.out.below hB))
    have hlen : (hexW u).length = 16 := hexTo_len u 16
    rcases HO.out with ⟨m, hm, e1, e2, e3⟩ | ⟨e1, e2⟩
    · have hum : u = m := by rw [e3] at hp'; cases hp'; rfl
      have hxl : hexW u = l := by rw [hum, e1]; rfl
      have HF := Lib.hid (show OfP l = .tuple #[.int .u64 (u : Int), .int .i64 0] from by unfold OfP; rw [e2, hum])
      rw [hxl] at HX
      clear hp hp' hB hlen e1 e2 e3 hum hxl hne
      go_wp2_with (fail)
      refine HX.out.mono ?_
      rintro e w2 ⟨rfl, hB2⟩
      have HB2 := Lib.hid (HB.out.trans (hB2.mono HB.out.size))
      clear hB2
      go_wp2_with (fail)
      go_ret2
      exact ⟨congrArg Ending.returned HF.out.symm, HB2.out⟩
    · have hxl : (hexW u == l) = false := beq_eq_false_iff_ne.2 (e1 u)
      have HF := Lib.hid (show OfP l = .tuple #[.int .u64 0, .int .i64 11] from by unfold OfP; rw [e2]; rfl)
      obtain ⟨z, hz⟩ : ∃ z, hexW u = z := ⟨_, rfl⟩
      rw [hz] at HX hxl
      clear hp hp' hB hlen e1 e2 hz hne
      go_wp2_with (fail)
      refine HX.out.mono ?_
      rintro e w2 ⟨rfl, hB2⟩
      have HB2 := Lib.hid (HB.out.trans (hB2.mono HB.out.size))
      clear hB2
      go_wp2_with (fail)
      go_ret2
      exact ⟨congrArg Ending.returned HF.out.symm, HB2.out⟩
  · have HB := Lib.hid hB
    have HF := Lib.hid (show OfP l = .tuple #[.int .u64 0, .int .i64 11] from by
      rcases HO.out with ⟨m, hm, e1, e2, e3⟩ | ⟨e1, e2⟩
      · have hl16 : l.length = 16 := by rw [e1, hexTo_len]
        exact absurd e3 (hno m (by show l.toArray.size ≠ 0; simp; intro e; subst e; simp at hl16))
      · unfold OfP; rw [e2]; rfl)
    clear hno hB
    go_wp2_with (fail)
    go_ret2
    exact ⟨congrArg Ending.returned HF.out.symm, HB.out⟩

set_option maxHeartbeats 4000000 in
set_option maxRecDepth 100000 in
theorem rofhex_v (l : List UInt8) (hl : l.length ≤ 1000) (w : World) :
    Calls Tryd.prog 28 #[.string ⟨l.toArray⟩] w fun e w' => e = .returned (OfP l) ∧ w = w' := by
  by_cases h16 : l.length = 16
  · have HV := Lib.hid (show OfP l = (match valH 0 l with | some m => .tuple #[.int .u64 (m : Int), .int .i64 0] | none => .tuple #[.int .u64 0, .int .i64 11]) from by
      unfold OfP OfH; rw [if_pos h16]; cases valH 0 l <;> rfl)
    have b16 : (16 : Int) = (l.length : Int) := by omega
    have q16 : ((l.length : Int) != 16) = false := by rw [h16]; rfl
    have hl1 : l.length ≤ 16 := by omega
    have hl2 : 16 ≤ l.length := by omega
    have HL := Lib.hid h16
    clear h16 b16
    go_enter Tryd.func28, Tryd.ntmps28
    go_wp2_with (fail)
    go_loop [4, 5] (fun vn vi => ∃ (k acc : Nat) (a : Int), vn = .int .u64 a ∧ vi = .int .i64 k ∧ k ≤ 16 ∧ Hid (a = (acc : Int) ∧ acc < 16 ^ k ∧ valH 0 l = valH acc (l.drop k))) (fun _ vi => 16 - (intOf vi).toNat)
    case atStart => exact ⟨0, 0, 0, rfl, rfl, by omega, Lib.hid ⟨rfl, by decide, rfl⟩⟩
    case round =>
      obtain ⟨k, acc, a, rfl, rfl, hk, hh⟩ := hrel
      obtain ⟨ha, hacc, hdec⟩ := hh.out
      clear hh
      by_cases hkn : k < 16
      · have hacc2 : acc < 1152921504606846976 := by
          have : (16 : Nat) ^ k ≤ 16 ^ 15 := Nat.pow_le_pow_right (by decide) (by omega)
          have e : (16 : Nat) ^ 15 = 1152921504606846976 := by decide
          omega
        have hnx : ∀ d, d < 16 → 16 * acc + d < 16 ^ (k + 1) := fun d hd => by rw [Nat.pow_succ]; omega
        have a0 : 0 ≤ a := by omega
        have a1 : a < 1152921504606846976 := by omega
        have hkl : k < l.length := by omega
        have hdrop : l.drop k = l[k]'(by omega) :: l.drop (k + 1) := List.drop_eq_getElem_cons (by omega)
        have b1 : (k : Int) < 16 := by omega
        have b2 : (k : Int) < (l.length : Int) := by omega
        rw [hdrop] at hdec
        obtain ⟨c, hcc⟩ : ∃ c, (⟨l.toArray⟩ : ByteArray)[k]'(by show k < l.toArray.size; simp; omega) = c := ⟨_, rfl⟩
        have hcl : l[k]'(by omega) = c := by rw [← hcc]; rfl
        rw [hcl] at hdec
        have hc256 : c.toNat < 256 := c.toNat_lt
        have HA := Lib.hid ha
        clear hdrop hcl ha
        by_cases h1 : 48 ≤ c.toNat ∧ c.toNat ≤ 57
        · have hd : dig c = some (c.toNat - 48) := by unfold dig; rw [if_pos h1]
          obtain ⟨h11, h12⟩ := h1
          have HN : Hid (16 * a + ((c.toNat : Int) - 48) = ((16 * acc + (c.toNat - 48) : Nat) : Int) ∧ 16 * acc + (c.toNat - 48) < 16 ^ (k + 1) ∧ valH 0 l = valH (16 * acc + (c.toNat - 48)) (l.drop (k + 1))) := Lib.hid ⟨by have := HA.out; omega, hnx _ (by omega), by rw [hdec, valH, hd]⟩
          have g1 : 48 ≤ (c.toNat : Int) := by omega
          have g2 : (c.toNat : Int) ≤ 57 := by omega
          clear hdec hd hnx hacc hacc2 h11 h12
          go_wp2_with (fail)
          exact ⟨⟨k + 1, 16 * acc + (c.toNat - 48), _, rfl, rfl, by omega, HN⟩, by simp [intOf]; omega⟩
        by_cases h2 : 97 ≤ c.toNat ∧ c.toNat ≤ 102
        · have hd : dig c = some (c.toNat - 87) := by unfold dig; rw [if_neg h1, if_pos h2]
          obtain ⟨h11, h12⟩ := h2
          have HN : Hid (16 * a + ((c.toNat : Int) - 97 + 10) = ((16 * acc + (c.toNat - 87) : Nat) : Int) ∧ 16 * acc + (c.toNat - 87) < 16 ^ (k + 1) ∧ valH 0 l = valH (16 * acc + (c.toNat - 87)) (l.drop (k + 1))) := Lib.hid ⟨by have := HA.out; omega, hnx _ (by omega), by rw [hdec, valH, hd]⟩
          have g1 : 97 ≤ (c.toNat : Int) := by omega
          have g2 : (c.toNat : Int) ≤ 102 := by omega
          clear hdec hd hnx hacc hacc2 h11 h12 h1
          go_wp2_with (fail)
          exact ⟨⟨k + 1, 16 * acc + (c.toNat - 87), _, rfl, rfl, by omega, HN⟩, by simp [intOf]; omega⟩
        · have hd : dig c = none := by unfold dig; rw [if_neg h1, if_neg h2]
          have HN := Lib.hid (show valH 0 l = none by rw [hdec, valH, hd])
          have h3 : c.toNat < 48 ∨ (57 < c.toNat ∧ c.toNat < 97) ∨ 102 < c.toNat := by omega
          clear hdec hd hnx hacc hacc2 h1 h2
          rcases h3 with h3 | ⟨h3, h4⟩ | h3
          · have g1 : (c.toNat : Int) < 48 := by omega
            clear h3
            go_wp2_with (fail)
            go_ret2
            exact ⟨congrArg Ending.returned (by rw [HV.out, HN.out]; rfl), rfl⟩
          · have g1 : 57 < (c.toNat : Int) := by omega
            have g2 : (c.toNat : Int) < 97 := by omega
            clear h3 h4
            go_wp2_with (fail)
            go_ret2
            exact ⟨congrArg Ending.returned (by rw [HV.out, HN.out]; rfl), rfl⟩
          · have g1 : 102 < (c.toNat : Int) := by omega
            clear h3
            go_wp2_with (fail)
            go_ret2
            exact ⟨congrArg Ending.returned (by rw [HV.out, HN.out]; rfl), rfl⟩
      · have hk2 : k = 16 := by omega
        subst hk2
        have HN := Lib.hid (show valH 0 l = some acc by rw [hdec, List.drop_eq_nil_of_le (by omega)]; rfl)
        clear hdec hkn hacc
        subst ha
        go_wp2_with (fail)
        go_ret2
        exact ⟨congrArg Ending.returned (by rw [HV.out, HN.out]; rfl), rfl⟩
  · have HV := Lib.hid (show OfP l = .tuple #[.int .u64 0, .int .i64 11] from by unfold OfP OfH; rw [if_neg h16]; rfl)
    have q16 : ((l.length : Int) != 16) = true := by rw [bne_iff_ne]; omega
    clear h16
    go_enter Tryd.func28, Tryd.ntmps28
    go_wp2_with (fail)
    go_ret2
    exact ⟨congrArg Ending.returned HV.out.symm, rfl⟩

theorem hexS_at (d : Nat) (hd : d < 16) : (⟨#[48, 49, 50, 51, 52, 53, 54, 55, 56, 57, 97, 98, 99, 100, 101, 102]⟩ : ByteArray).extract d (d + 1) = ⟨#[hexD d]⟩ := by
  have : ∀ d : Fin 16, (⟨#[48, 49, 50, 51, 52, 53, 54, 55, 56, 57, 97, 98, 99, 100, 101, 102]⟩ : ByteArray).extract d.val (d.val + 1) = ⟨#[hexD d.val]⟩ := by decide +kernel
  exact this ⟨d, hd⟩
theorem app_hex (d : Nat) (hd : d < 16) (x : List UInt8) : (⟨#[48, 49, 50, 51, 52, 53, 54, 55, 56, 57, 97, 98, 99, 100, 101, 102]⟩ : ByteArray).extract d (d + 1) ++ ⟨x.toArray⟩ = ⟨(hexD d :: x).toArray⟩ := by
  rw [hexS_at d hd]
  apply ByteArray.ext
  simp
set_option maxHeartbeats 4000000 in
set_option maxRecDepth 100000 in
theorem rhex_n (n : Nat) (hn : n ≤ 18446744073709551615) (w : World) :
    Calls Tryd.prog 27 #[.int .u64 n] w fun e w' => e = .returned (.string ⟨(hexW n).toArray⟩) ∧ w = w' := by
  go_enter Tryd.func27, Tryd.ntmps27
  go_wp2_with (fail)
  go_loop [0, 3, 5] (fun vn vs vi => ∃ (k m : Nat) (x : List UInt8), vn = .int .u64 m ∧ vs = .string ⟨x.toArray⟩ ∧ vi = .int .i64 k ∧ k ≤ 16 ∧ m ≤ 18446744073709551615 ∧ x.length ≤ 16 ∧ Hid (m = n / 16 ^ k ∧ x = hexTo n k)) (fun _ _ vi => 16 - (intOf vi).toNat)
  case atStart => exact ⟨0, n, [], rfl, rfl, rfl, by omega, hn, by simp, Lib.hid ⟨by simp, rfl⟩⟩
  case round =>
    obtain ⟨k, m, x, rfl, rfl, rfl, hk, hm, hx, hh⟩ := hrel
    by_cases hkn : k < 16
    · have b1 : (k : Int) < 16 := by omega
      obtain ⟨d, hd⟩ : ∃ d, m % 16 = d := ⟨_, rfl⟩
      have hd16 : d < 16 := by omega
      have e1 : (m : Int) % 16 = (d : Int) := by omega
      have b2 : (0 : Int) ≤ (m : Int) := by omega
      obtain ⟨hh1, hh2⟩ := hh.out
      have hxl : x.length = k := by rw [hh2, hexTo_len]
      have HN : Hid (m / 16 = n / 16 ^ (k + 1) ∧ hexD d :: x = hexTo n (k + 1)) := Lib.hid ⟨by rw [hh1, div16], by rw [hexTo, ← hh1, hd, ← hh2]⟩
      have hl2 : (hexD d :: x).length ≤ 16 := by simp; omega
      have HS := Lib.hid (app_hex d hd16 x)
      clear hd hh1 hh2 hh hxl
      go_wp2_with (fail)
      rw [HS.out]
      exact ⟨⟨k + 1, m / 16, hexD d :: x, by simp, rfl, by simp, by omega, by omega, hl2, HN⟩, by simp [intOf]; omega⟩
    · have hk2 : k = 16 := by omega
      subst hk2
      have HX := Lib.hid hh.out.2
      clear hh
      go_wp2_with (fail)
      go_ret
      exact ⟨by rw [HX.out]; rfl, rfl⟩
end Go.Proofs.YtnmpgjodndfoiaaDoor
