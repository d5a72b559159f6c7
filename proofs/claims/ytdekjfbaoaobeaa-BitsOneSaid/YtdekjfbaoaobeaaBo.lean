/-
  The law BitsOne, walked.
-/
import Derived.Test.YtdekjfbaoaobeaaKn
namespace Go.Proofs.Ytdekjfbaoaobeaa
open Go.RowKit

theorem bhas_b (m : Nat) (hm : m < 18446744073709551616) (j : Int) (w : World) : Calls Try.prog 13 #[.int .u64 m, .int .i64 j] w fun e w' => e = .returned (.bool (hasB m j)) ∧ w = w' := by
  have := bhas_v m hm j w
  rw [has_bit m hm j] at this
  exact this


set_option maxRecDepth 100000 in
set_option maxHeartbeats 4000000 in
theorem one_walk_in (m s c n : Nat) (hh : Bool) (hn : n < 64) (w : World)
    (hs : ∀ w, Calls Try.prog 9 #[.int .u64 m, .int .i64 n] w fun e w' => e = .returned (.int .u64 (s : Int)) ∧ w = w')
    (hc : ∀ w, Calls Try.prog 10 #[.int .u64 m, .int .i64 n] w fun e w' => e = .returned (.int .u64 (c : Int)) ∧ w = w')
    (rs : ∀ w, Calls Try.prog 11 #[.int .u64 m, .int .i64 n] w fun e w' => e = .returned (.int .u64 (s : Int)) ∧ w = w')
    (rc : ∀ w, Calls Try.prog 12 #[.int .u64 m, .int .i64 n] w fun e w' => e = .returned (.int .u64 (c : Int)) ∧ w = w')
    (hm : ∀ w, Calls Try.prog 13 #[.int .u64 m, .int .i64 n] w fun e w' => e = .returned (.bool hh) ∧ w = w')
    (rm : ∀ w, Calls Try.prog 14 #[.int .u64 m, .int .i64 n] w fun e w' => e = .returned (.bool hh) ∧ w = w')
    (ms : ∀ w, Calls Try.prog 13 #[.int .u64 s, .int .i64 n] w fun e w' => e = .returned (.bool true) ∧ w = w')
    (mc : ∀ w, Calls Try.prog 13 #[.int .u64 c, .int .i64 n] w fun e w' => e = .returned (.bool false) ∧ w = w')
    (sc : ∀ w, Calls Try.prog 9 #[.int .u64 c, .int .i64 n] w fun e w' => e = .returned (.int .u64 (s : Int)) ∧ w = w')
    (cs : ∀ w, Calls Try.prog 10 #[.int .u64 s, .int .i64 n] w fun e w' => e = .returned (.int .u64 (c : Int)) ∧ w = w') :
    Calls Try.prog 3 #[.int .u64 m, .int .i64 n] w fun e w' => e = .returned (.bool true) ∧ Below w.heap.size w w' := by
  have HS := Lib.hid hs
  have HC := Lib.hid hc
  have RS := Lib.hid rs
  have RC := Lib.hid rc
  have HH := Lib.hid hm
  have RH := Lib.hid rm
  have HHs := Lib.hid ms
  have HHc := Lib.hid mc
  have HSc := Lib.hid sc
  have HCs := Lib.hid cs
  clear hs hc rs rc hm rm ms mc sc cs
  have b1 : (0 : Int) ≤ (n : Int) := by omega
  have b2 : (n : Int) ≤ 63 := by omega
  go_enter Try.func3, Try.ntmps3
  go_wp2_with (first
    | (go_at_call_of 9 (Value.int .u64 (m : Int)); refine (HS.out _).mono ?_; rintro e w2 ⟨rfl, rfl⟩)
    | (go_at_call_of 10 (Value.int .u64 (m : Int)); refine (HC.out _).mono ?_; rintro e w2 ⟨rfl, rfl⟩)
    | (go_at_call 11; refine (RS.out _).mono ?_; rintro e w2 ⟨rfl, rfl⟩)
    | (go_at_call 12; refine (RC.out _).mono ?_; rintro e w2 ⟨rfl, rfl⟩)
    | (go_at_call_of 13 (Value.int .u64 (m : Int)); refine (HH.out _).mono ?_; rintro e w2 ⟨rfl, rfl⟩)
    | (go_at_call 14; refine (RH.out _).mono ?_; rintro e w2 ⟨rfl, rfl⟩)
    | (go_at_call_of 13 (Value.int .u64 (s : Int)); refine (HHs.out _).mono ?_; rintro e w2 ⟨rfl, rfl⟩)
    | (go_at_call_of 13 (Value.int .u64 (c : Int)); refine (HHc.out _).mono ?_; rintro e w2 ⟨rfl, rfl⟩)
    | (go_at_call_of 9 (Value.int .u64 (c : Int)); refine (HSc.out _).mono ?_; rintro e w2 ⟨rfl, rfl⟩)
    | (go_at_call_of 10 (Value.int .u64 (s : Int)); refine (HCs.out _).mono ?_; rintro e w2 ⟨rfl, rfl⟩)
    | (go_at_call 15; refine (known_any _).mono ?_; rintro e w2 ⟨rfl, hk⟩; have HK := Lib.hid hk; clear hk))
  go_ret
  exact ⟨rfl, HK.out⟩

set_option maxRecDepth 100000 in
set_option maxHeartbeats 4000000 in
theorem one_walk_out (m s c : Nat) (j : Int) (hh : Bool) (hj : j < 0 ∨ 63 < j) (w : World)
    (hs : ∀ w, Calls Try.prog 9 #[.int .u64 m, .int .i64 j] w fun e w' => e = .returned (.int .u64 (s : Int)) ∧ w = w')
    (hc : ∀ w, Calls Try.prog 10 #[.int .u64 m, .int .i64 j] w fun e w' => e = .returned (.int .u64 (c : Int)) ∧ w = w')
    (rs : ∀ w, Calls Try.prog 11 #[.int .u64 m, .int .i64 j] w fun e w' => e = .returned (.int .u64 (s : Int)) ∧ w = w')
    (rc : ∀ w, Calls Try.prog 12 #[.int .u64 m, .int .i64 j] w fun e w' => e = .returned (.int .u64 (c : Int)) ∧ w = w')
    (hm : ∀ w, Calls Try.prog 13 #[.int .u64 m, .int .i64 j] w fun e w' => e = .returned (.bool hh) ∧ w = w')
    (rm : ∀ w, Calls Try.prog 14 #[.int .u64 m, .int .i64 j] w fun e w' => e = .returned (.bool hh) ∧ w = w')
    (ms : ∀ w, Calls Try.prog 13 #[.int .u64 s, .int .i64 j] w fun e w' => e = .returned (.bool false) ∧ w = w')
    (mc : ∀ w, Calls Try.prog 13 #[.int .u64 c, .int .i64 j] w fun e w' => e = .returned (.bool false) ∧ w = w') :
    Calls Try.prog 3 #[.int .u64 m, .int .i64 j] w fun e w' => e = .returned (.bool true) ∧ Below w.heap.size w w' := by
  have HS := Lib.hid hs
  have HC := Lib.hid hc
  have RS := Lib.hid rs
  have RC := Lib.hid rc
  have HH := Lib.hid hm
  have RH := Lib.hid rm
  have HHs := Lib.hid ms
  have HHc := Lib.hid mc
  have HSc : Hid (∀ w : World, Calls Try.prog 9 #[.int .u64 m, .int .i64 j] w fun e w' => e = .returned (.int .u64 (s : Int)) ∧ w = w') := HS
  have HCs := HC
  clear hs hc rs rc hm rm ms mc
  by_cases h0 : j < 0
  · have h1 : ¬ (0 : Int) ≤ j := by omega
    go_enter Try.func3, Try.ntmps3
    go_wp2_with (first
      | (go_at_call_of 9 (Value.int .u64 (m : Int)); refine (HS.out _).mono ?_; rintro e w2 ⟨rfl, rfl⟩)
      | (go_at_call_of 10 (Value.int .u64 (m : Int)); refine (HC.out _).mono ?_; rintro e w2 ⟨rfl, rfl⟩)
      | (go_at_call 11; refine (RS.out _).mono ?_; rintro e w2 ⟨rfl, rfl⟩)
      | (go_at_call 12; refine (RC.out _).mono ?_; rintro e w2 ⟨rfl, rfl⟩)
      | (go_at_call_of 13 (Value.int .u64 (m : Int)); refine (HH.out _).mono ?_; rintro e w2 ⟨rfl, rfl⟩)
      | (go_at_call 14; refine (RH.out _).mono ?_; rintro e w2 ⟨rfl, rfl⟩)
      | (go_at_call_of 13 (Value.int .u64 (s : Int)); refine (HHs.out _).mono ?_; rintro e w2 ⟨rfl, rfl⟩)
      | (go_at_call_of 13 (Value.int .u64 (c : Int)); refine (HHc.out _).mono ?_; rintro e w2 ⟨rfl, rfl⟩)
      | (go_at_call_of 9 (Value.int .u64 (c : Int)); refine (HSc.out _).mono ?_; rintro e w2 ⟨rfl, rfl⟩)
      | (go_at_call_of 10 (Value.int .u64 (s : Int)); refine (HCs.out _).mono ?_; rintro e w2 ⟨rfl, rfl⟩)
      | (go_at_call 15; refine (known_any _).mono ?_; rintro e w2 ⟨rfl, hk⟩; have HK := Lib.hid hk; clear hk))
    go_ret
    exact ⟨rfl, HK.out⟩
  · have h1 : (0 : Int) ≤ j := by omega
    have h2 : ¬ j ≤ 63 := by omega
    go_enter Try.func3, Try.ntmps3
    go_wp2_with (first
      | (go_at_call_of 9 (Value.int .u64 (m : Int)); refine (HS.out _).mono ?_; rintro e w2 ⟨rfl, rfl⟩)
      | (go_at_call_of 10 (Value.int .u64 (m : Int)); refine (HC.out _).mono ?_; rintro e w2 ⟨rfl, rfl⟩)
      | (go_at_call 11; refine (RS.out _).mono ?_; rintro e w2 ⟨rfl, rfl⟩)
      | (go_at_call 12; refine (RC.out _).mono ?_; rintro e w2 ⟨rfl, rfl⟩)
      | (go_at_call_of 13 (Value.int .u64 (m : Int)); refine (HH.out _).mono ?_; rintro e w2 ⟨rfl, rfl⟩)
      | (go_at_call 14; refine (RH.out _).mono ?_; rintro e w2 ⟨rfl, rfl⟩)
      | (go_at_call_of 13 (Value.int .u64 (s : Int)); refine (HHs.out _).mono ?_; rintro e w2 ⟨rfl, rfl⟩)
      | (go_at_call_of 13 (Value.int .u64 (c : Int)); refine (HHc.out _).mono ?_; rintro e w2 ⟨rfl, rfl⟩)
      | (go_at_call_of 9 (Value.int .u64 (c : Int)); refine (HSc.out _).mono ?_; rintro e w2 ⟨rfl, rfl⟩)
      | (go_at_call_of 10 (Value.int .u64 (s : Int)); refine (HCs.out _).mono ?_; rintro e w2 ⟨rfl, rfl⟩)
      | (go_at_call 15; refine (known_any _).mono ?_; rintro e w2 ⟨rfl, hk⟩; have HK := Lib.hid hk; clear hk))
    go_ret
    exact ⟨rfl, HK.out⟩

theorem bits_one (m : Nat) (hm : m < 18446744073709551616) (j : Int) (w : World) :
    Calls Try.prog 3 #[.int .u64 m, .int .i64 j] w fun e w' => e = .returned (.bool true) ∧ Below w.heap.size w w' := by
  have hc64 : m &&& (18446744073709551615 - bitN j) < 18446744073709551616 := Nat.lt_of_le_of_lt Nat.and_le_left hm
  have hs64 : m ||| bitN j < 18446744073709551616 := Nat.or_lt_two_pow (n := 64) hm (bitN_lt j)
  by_cases hj : 0 ≤ j ∧ j ≤ 63
  · obtain ⟨n, rfl⟩ : ∃ n : Nat, j = n := ⟨j.toNat, by omega⟩
    have hn : n < 64 := by omega
    have e1 : (m ||| bitN (n : Int)).testBit n = true := by rw [bitN_in n hn, Nat.testBit_or, Nat.testBit_two_pow]; simp
    have e2 : (m &&& (18446744073709551615 - bitN (n : Int))).testBit n = false := by
      rw [bitN_in n hn]
      have := clr_bit m n n hm hn
      simpa using this
    refine one_walk_in m (m ||| bitN n) (m &&& (18446744073709551615 - bitN n)) n (hasB m n) hn w (bset_v m hm n) (bclear_v m hm n) (rset_v m hm n) (rclear_v m hm n) (bhas_b m hm n) (rhas_v m hm n) ?_ ?_ ?_ ?_
    · have := bhas_b _ hs64 (n : Int); rwa [hasB_in, e1] at this
    · have := bhas_b _ hc64 (n : Int); rwa [hasB_in, e2] at this
    · have := bset_v _ hc64 (n : Int)
      rwa [show (m &&& (18446744073709551615 - bitN (n : Int))) ||| bitN (n : Int) = m ||| bitN (n : Int) from by
        rw [bitN_in n hn]
        apply Nat.eq_of_testBit_eq
        intro i
        have := clr_bit m n i hm hn
        rw [Nat.testBit_or, Nat.testBit_or, show (18446744073709551615 - 2 ^ n) = 2 ^ 64 - 1 - 2 ^ n from rfl, this, Nat.testBit_two_pow]
        by_cases e : n = i <;> simp [e]] at this
    · have := bclear_v _ hs64 (n : Int)
      rwa [show (m ||| bitN (n : Int)) &&& (18446744073709551615 - bitN (n : Int)) = m &&& (18446744073709551615 - bitN (n : Int)) from by
        rw [bitN_in n hn] at hs64 ⊢
        apply Nat.eq_of_testBit_eq
        intro i
        have h1 := clr_bit m n i hm hn
        have h2 := clr_bit (m ||| 2 ^ n) n i hs64 hn
        rw [show (18446744073709551615 - 2 ^ n) = 2 ^ 64 - 1 - 2 ^ n from rfl, h1, h2, Nat.testBit_or, Nat.testBit_two_pow]
        by_cases e : n = i <;> simp [e]] at this
  · have h0 : ∀ x : Nat, x < 18446744073709551616 → hasB x j = false := fun x hx => by
      rcases Int.lt_or_le j 0 with h | h
      · exact hasB_neg x j h
      · exact hasB_big x hx j (by omega)
    refine one_walk_out m (m ||| bitN j) (m &&& (18446744073709551615 - bitN j)) j (hasB m j) (by omega) w (bset_v m hm j) (bclear_v m hm j) (rset_v m hm j) (rclear_v m hm j) (bhas_b m hm j) (rhas_v m hm j) ?_ ?_
    · have := bhas_b _ hs64 j; rwa [h0 _ hs64] at this
    · have := bhas_b _ hc64 j; rwa [h0 _ hc64] at this
end Go.Proofs.Ytdekjfbaoaobeaa
