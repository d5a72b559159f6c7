/-
  word.Get, take of bytes, piece: contracts.
-/
import Derived.Test.YtnmpgjodndfoiaaDoorHh
namespace Go.Proofs.YtnmpgjodndfoiaaDoor
open Go.RowKit

set_option maxRecDepth 100000 in
theorem take_b (l : List UInt8) (g o cap : Nat) (hl : l.length ≤ 8) (w : World) (hb : BytesAt w g o l) :
    Calls Tryd.prog 32 #[.slice (some ⟨g, o, none⟩) l.length cap] w fun e w' => e = .returned (.int .u64 (wd l)) ∧ w = w' := by
  have HC := Lib.hid hb
  clear hb
  go_enter Tryd.func32, Tryd.ntmps32
  go_wp2_with (fail)
  go_loop [2, 3] (fun nv iv => ∃ k : Nat, k ≤ l.length ∧ iv = .int .i64 ((k : Int) - 1) ∧ nv = .int .u64 (wd (l.drop k))) (fun _ iv => (intOf iv + 1).toNat)
  case atStart => exact ⟨l.length, Nat.le_refl _, rfl, by rw [List.drop_length]; rfl⟩
  case round =>
    obtain ⟨k, hk, rfl, rfl⟩ := hrel
    by_cases h0 : k = 0
    · subst h0
      go_wp2_with (fail)
      go_ret
      exact ⟨rfl, rfl⟩
    · obtain ⟨j, hj⟩ : ∃ j : Nat, k = j + 1 := ⟨k - 1, by omega⟩
      subst hj
      have h1 : j < l.length := by omega
      have hd := Lib.hid (wd_drop l j h1)
      have hc := HC.out j h1
      obtain ⟨b, hbb⟩ : ∃ b : UInt8, l[j] = b := ⟨_, rfl⟩
      rw [hbb] at hc
      have HB := Lib.hid hbb
      obtain ⟨n, hn⟩ : ∃ n, wd (l.drop (j + 1)) = n := ⟨_, rfl⟩
      have n0 : 0 ≤ n := by rw [← hn]; exact wd_nonneg _
      have n1 : n < 72057594037927936 := by rw [← hn]; exact wd_lt7 _ (by rw [List.length_drop]; omega)
      have HN := Lib.hid hn
      rw [hn]
      have hb1 := u8_lt b
      have e2 : ((j + 1 : Nat) : Int) - 1 = (j : Int) := by omega
      rw [e2]
      have b1 : (j : Int) < (l.length : Int) := by omega
      have b3 : ((j : Int)).toNat = j := by omega
      clear hn hbb
      go_wp2_with (fail)
      go_round
      case rel => exact ⟨j, by omega, rfl, by
        rw [hd.out, HN.out, HB.out]
        change Value.int .u64 (bits BinOp.or .u64 (n * 256) (b.toNat : Int)) = Value.int .u64 (n * 256 + (b.toNat : Int))
        rw [or_byte n _ n0 n1 (by omega) (u8_lt _)]⟩
      case measure => simp [intOf]

/-- may a word stand at a place? -/
def fits (n : Nat) (at_ : Int) : Prop := 0 ≤ at_ ∧ at_ + 8 ≤ (n : Int)
set_option maxRecDepth 100000 in
theorem piece_no (p : Option Addr) (n cap : Nat) (at_ : Int) (hn : n ≤ 1000000) (ha : at_ ≤ 9223372036854775807) (h : ¬ fits n at_) (w : World) :
    Calls Tryd.prog 31 #[.slice p n cap, .int .i64 at_] w fun e w' => e = .returned (.slice none 0 0) ∧ w = w' := by
  unfold fits at h
  by_cases h0 : at_ < 0
  · go_enter Tryd.func31, Tryd.ntmps31
    go_wp2_with (fail)
    go_ret
    exact ⟨rfl, rfl⟩
  · have h1 : (n : Int) - 8 < at_ := by omega
    go_enter Tryd.func31, Tryd.ntmps31
    go_wp2_with (fail)
    go_ret
    exact ⟨rfl, rfl⟩
set_option maxRecDepth 100000 in
theorem piece_yes (g o n cap a : Nat) (hn : n ≤ 1000000) (hc : n ≤ cap) (h : a + 8 ≤ n) (w : World) :
    Calls Tryd.prog 31 #[.slice (some ⟨g, o, none⟩) n cap, .int .i64 a] w fun e w' => e = .returned (.slice (some ⟨g, o + a, none⟩) 8 8) ∧ w = w' := by
  have h1 : ¬ (n : Int) - 8 < (a : Int) := by omega
  have h2 : (a : Int) + 8 ≤ (cap : Int) := by omega
  have h3 : ((a : Int) + 8).toNat = a + 8 := by omega
  have h4 : (a : Int) ≤ 1000000 := by omega
  go_enter Tryd.func31, Tryd.ntmps31
  go_wp2_with (fail)
  go_ret
  exact ⟨rfl, rfl⟩
end Go.Proofs.YtnmpgjodndfoiaaDoor
