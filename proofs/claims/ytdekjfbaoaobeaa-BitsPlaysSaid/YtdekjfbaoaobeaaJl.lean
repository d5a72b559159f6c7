/-
  bits.Lowest and the document's: contracts.
-/
import Derived.Test.YtdekjfbaoaobeaaJr
namespace Go.Proofs.Ytdekjfbaoaobeaa
open Go.RowKit

/-- the least below n that is not set; or -1 -/
def LowR (m : Nat) (n : Int) (r : Int) : Prop := (r = -1 ∧ ∀ i : Nat, (i : Int) < n → i < 64 → m.testBit i = true) ∨ ∃ j : Nat, r = j ∧ (j : Int) < n ∧ j < 64 ∧ m.testBit j = false ∧ ∀ i, i < j → m.testBit i = true
theorem LowR.uniq {m : Nat} {n r r' : Int} (h : LowR m n r) (k : LowR m n r') : r = r' := by
  rcases h with ⟨rfl, h⟩ | ⟨j, rfl, h1, h2, h3, h4⟩
  · rcases k with ⟨rfl, _⟩ | ⟨j, rfl, k1, k2, k3, k4⟩
    · rfl
    · rw [h j k1 k2] at k3; cases k3
  · rcases k with ⟨rfl, k⟩ | ⟨j', rfl, k1, k2, k3, k4⟩
    · rw [k j h1 h2] at h3; cases h3
    · rcases Nat.lt_trichotomy j j' with e | e | e
      · rw [k4 j e] at h3; cases h3
      · rw [e]
      · rw [h4 j' e] at k3; cases k3
def LowP (m : Nat) (n : Int) (e : Ending) : Prop := ∃ r, LowR m n r ∧ e = .returned (.tuple #[.int .i64 (max r 0), .bool (decide (0 ≤ r))])
def RLowP (m : Nat) (n : Int) (e : Ending) : Prop := ∃ r, LowR m n r ∧ e = .returned (.int .i64 r)

theorem has_k (m : Nat) (hm : m < 18446744073709551616) (k : Nat) (w : World) : Calls Try.prog 13 #[.int .u64 m, .int .i64 k] w fun e w' => e = .returned (.bool (m.testBit k)) ∧ w = w' := by
  refine (bhas_v m hm k w).mono ?_
  rintro e w' ⟨rfl, rfl⟩
  exact ⟨by rw [has_bit m hm]; simp, rfl⟩
theorem rhas_k (m : Nat) (hm : m < 18446744073709551616) (k : Nat) (w : World) : Calls Try.prog 14 #[.int .u64 m, .int .i64 k] w fun e w' => e = .returned (.bool (m.testBit k)) ∧ w = w' := by
  have := rhas_v m hm k w
  rwa [hasB_in] at this

set_option maxRecDepth 100000 in
theorem rlow_v (m : Nat) (hm : m < 18446744073709551616) (n : Int) (w : World) : Calls Try.prog 17 #[.int .u64 m, .int .i64 n] w fun e w' => RLowP m n e ∧ w = w' := by
  go_enter Try.func17, Try.ntmps17
  go_wp2_with (fail)
  go_loopw [5] (fun kv wr => ∃ k : Nat, k ≤ 64 ∧ kv = .int .i64 k ∧ (∀ i, i < k → m.testBit i = true) ∧ wr = w) (fun kv _ => 64 - (intOf kv).toNat)
  case atStart => exact ⟨0, by omega, rfl, fun i h => absurd h (Nat.not_lt_zero _), rfl⟩
  case round =>
    obtain ⟨k, hk, rfl, hall, rfl⟩ := hrel
    have HA := Lib.hid hall
    clear hall
    by_cases hlt : (k : Int) < n
    · by_cases h64 : k < 64
      · have b1 : (k : Int) < 64 := by omega
        have HH := Lib.hid (rhas_k m hm k wr)
        cases hb : m.testBit k
        · rw [hb] at HH
          have HF := Lib.hid hb
          clear hb
          go_wp2_with (go_at_call 14; refine HH.out.mono ?_; rintro e w2 ⟨rfl, rfl⟩)
          go_ret
          exact ⟨⟨k, .inr ⟨k, rfl, hlt, h64, HF.out, HA.out⟩, rfl⟩, rfl⟩
        · rw [hb] at HH
          have HF := Lib.hid hb
          clear hb
          go_wp2_with (go_at_call 14; refine HH.out.mono ?_; rintro e w2 ⟨rfl, rfl⟩)
          go_roundw
          case rel =>
            refine ⟨k + 1, by omega, by go_num, fun i hi => ?_, trivial⟩
            by_cases e : i = k
            · rw [e]; exact HF.out
            · exact HA.out i (by omega)
          case measure => simp [intOf]; omega
      · have b1 : ¬ (k : Int) < 64 := by omega
        go_wp2_with (fail)
        go_ret
        exact ⟨⟨-1, .inl ⟨rfl, fun i _ hi => HA.out i (by omega)⟩, rfl⟩, rfl⟩
    · go_wp2_with (fail)
      go_ret
      exact ⟨⟨-1, .inl ⟨rfl, fun i hi _ => HA.out i (by omega)⟩, rfl⟩, rfl⟩


set_option maxRecDepth 100000 in
theorem low_v (m : Nat) (hm : m < 18446744073709551616) (n : Int) (w : World) : Calls Try.prog 16 #[.int .u64 m, .int .i64 n] w fun e w' => LowP m n e ∧ w = w' := by
  by_cases h0 : n < 0
  · have h1 : ¬ (0 : Int) ≤ n := by omega
    go_enter Try.func16, Try.ntmps16
    go_wp2_with (fail)
    go_loopw [10] (fun kv wr => kv = .int .i64 0 ∧ wr = w) (fun kv _ => 64 - (intOf kv).toNat)
    case atStart => exact ⟨rfl, rfl⟩
    case round =>
      obtain ⟨rfl, rfl⟩ := hrel
      go_wp2_with (fail)
      go_ret2
      exact ⟨⟨-1, .inl ⟨rfl, fun i h1 h2 => by omega⟩, rfl⟩, rfl⟩
  · by_cases h2 : 64 < n
    · have h1 : (0 : Int) ≤ n := by omega
      go_enter Try.func16, Try.ntmps16
      go_wp2_with (fail)
      go_loopw [10] (fun kv wr => ∃ k : Nat, k ≤ 64 ∧ kv = .int .i64 k ∧ (∀ i, i < k → m.testBit i = true) ∧ wr = w) (fun kv _ => 64 - (intOf kv).toNat)
      case atStart => exact ⟨0, by omega, rfl, fun i h => absurd h (Nat.not_lt_zero _), rfl⟩
      case round =>
        obtain ⟨k, hk, rfl, hall, rfl⟩ := hrel
        have HA := Lib.hid hall
        clear hall
        by_cases hlt : k < 64
        · have b1 : (k : Int) < ((64 : Nat) : Int) := by omega
          have b2 : (k : Int) < n ∧ k < 64 := by omega
          have HB2 := Lib.hid b2
          clear b2
          have HH := Lib.hid (has_k m hm k wr)
          cases hb : m.testBit k
          · rw [hb] at HH
            have HF := Lib.hid hb
            clear hb
            go_wp2_with (go_at_call 13; refine HH.out.mono ?_; rintro e w2 ⟨rfl, rfl⟩)
            go_ret2
            refine ⟨⟨k, .inr ⟨k, rfl, HB2.out.1, HB2.out.2, HF.out, HA.out⟩, ?_⟩, rfl⟩
            rw [show max (k : Int) 0 = k by omega, decide_eq_true (show (0 : Int) ≤ (k : Int) by omega)]
            rfl
          · rw [hb] at HH
            have HF := Lib.hid hb
            clear hb
            go_wp2_with (go_at_call 13; refine HH.out.mono ?_; rintro e w2 ⟨rfl, rfl⟩)
            go_roundw
            case rel =>
              refine ⟨k + 1, by omega, by go_num, fun i hi => ?_, trivial⟩
              by_cases e : i = k
              · rw [e]; exact HF.out
              · exact HA.out i (by omega)
            case measure => simp [intOf]; omega
        · have hk2 : k = 64 := by omega
          subst hk2
          go_wp2_with (fail)
          go_ret2
          exact ⟨⟨-1, .inl ⟨rfl, fun i h1 h2 => HA.out i (by omega)⟩, rfl⟩, rfl⟩
    · obtain ⟨t, rfl⟩ : ∃ t : Nat, n = t := ⟨n.toNat, by omega⟩
      go_enter Try.func16, Try.ntmps16
      go_wp2_with (fail)
      go_loopw [10] (fun kv wr => ∃ k : Nat, k ≤ t ∧ kv = .int .i64 k ∧ (∀ i, i < k → m.testBit i = true) ∧ wr = w) (fun kv _ => 64 - (intOf kv).toNat)
      case atStart => exact ⟨0, by omega, rfl, fun i h => absurd h (Nat.not_lt_zero _), rfl⟩
      case round =>
        obtain ⟨k, hk, rfl, hall, rfl⟩ := hrel
        have HA := Lib.hid hall
        clear hall
        by_cases hlt : k < t
        · have b1 : (k : Int) < ((t : Nat) : Int) := by omega
          have b2 : (k : Int) < t ∧ k < 64 := by omega
          have HB2 := Lib.hid b2
          clear b2
          have HH := Lib.hid (has_k m hm k wr)
          cases hb : m.testBit k
          · rw [hb] at HH
            have HF := Lib.hid hb
            clear hb
            go_wp2_with (go_at_call 13; refine HH.out.mono ?_; rintro e w2 ⟨rfl, rfl⟩)
            go_ret2
            refine ⟨⟨k, .inr ⟨k, rfl, HB2.out.1, HB2.out.2, HF.out, HA.out⟩, ?_⟩, rfl⟩
            rw [show max (k : Int) 0 = k by omega, decide_eq_true (show (0 : Int) ≤ (k : Int) by omega)]
            rfl
          · rw [hb] at HH
            have HF := Lib.hid hb
            clear hb
            go_wp2_with (go_at_call 13; refine HH.out.mono ?_; rintro e w2 ⟨rfl, rfl⟩)
            go_roundw
            case rel =>
              refine ⟨k + 1, by omega, by go_num, fun i hi => ?_, trivial⟩
              by_cases e : i = k
              · rw [e]; exact HF.out
              · exact HA.out i (by omega)
            case measure => simp [intOf]; omega
        · have hk2 : k = t := by omega
          subst hk2
          go_wp2_with (fail)
          go_ret2
          exact ⟨⟨-1, .inl ⟨rfl, fun i h1 h2 => HA.out i (by omega)⟩, rfl⟩, rfl⟩
end Go.Proofs.Ytdekjfbaoaobeaa
