/-
  LAYER 3 AS LAYER 12 USES IT: contracts.
-/
import Derived.Test.YtegamhjfloebgaaChecked
import Derived.Test.YtegamhjfloebgaaLib
import Derived.Test.YtegamhjfloebgaaCls
import Derived.Lib.Hide
import Derived.Outline
import Derived.Deep.QuietTactic
import Derived.BigQuiet
import Derived.Handy
namespace Go.Proofs.Ytegamhjfloebgaa
open Go.RowKit

theorem ret_int {k : IntKind} {a b : Int} (h : a = b) : Ending.returned (.int k a) = .returned (.int k b) := by rw [h]
theorem withinI_yes (n a b : Int) (h : a ≤ n ∧ n ≤ b) (w : World) : Calls Try.prog 67 #[.int .i64 n, .int .i64 a, .int .i64 b] w fun e w' => e = .returned (.bool true) ∧ w = w' := by
  obtain ⟨h1, h2⟩ := h
  go_enter Try.func67, Try.ntmps67
  go_wp2
  go_ret
  exact ⟨rfl, rfl⟩
theorem withinI_no (n a b : Int) (h : n < a ∨ b < n) (w : World) : Calls Try.prog 67 #[.int .i64 n, .int .i64 a, .int .i64 b] w fun e w' => e = .returned (.bool false) ∧ w = w' := by
  by_cases h1 : n < a
  · go_enter Try.func67, Try.ntmps67
    go_wp2
    go_ret
    exact ⟨rfl, rfl⟩
  · have h2 : b < n := by omega
    have h3 : decide (n ≤ b) = false := decide_eq_false (by omega)
    go_enter Try.func67, Try.ntmps67
    go_wp2
    go_ret
    exact ⟨rfl, rfl⟩
theorem withinA_yes (n a b : Int) (h : a ≤ n ∧ n ≤ b) (w : World) : Calls Try.prog 69 #[.int .u64 n, .int .u64 a, .int .u64 b] w fun e w' => e = .returned (.bool true) ∧ w = w' := by
  obtain ⟨h1, h2⟩ := h
  go_enter Try.func69, Try.ntmps69
  go_wp2
  go_ret
  exact ⟨rfl, rfl⟩
theorem withinA_no (n a b : Int) (h : n < a ∨ b < n) (w : World) : Calls Try.prog 69 #[.int .u64 n, .int .u64 a, .int .u64 b] w fun e w' => e = .returned (.bool false) ∧ w = w' := by
  by_cases h1 : n < a
  · go_enter Try.func69, Try.ntmps69
    go_wp2
    go_ret
    exact ⟨rfl, rfl⟩
  · have h2 : b < n := by omega
    have h3 : decide (n ≤ b) = false := decide_eq_false (by omega)
    go_enter Try.func69, Try.ntmps69
    go_wp2
    go_ret
    exact ⟨rfl, rfl⟩

/-- how many blocks of a class -/
def blkN (c : Int) : Int := if c = 1 then 15 else 7

theorem blocks_1 (w : World) : Calls Try.prog 54 #[.int .i64 1] w fun e w' => e = .returned (.int .i64 15) ∧ Below w.heap.size w w' := by
  go_enter Try.func54, Try.ntmps54
  go_wp2
  go_ret
  exact ⟨rfl, ((Below.refl _ _).alloc (Nat.le_refl _) _).alloc (by simp) _⟩
theorem blocks_2 (w : World) : Calls Try.prog 54 #[.int .i64 2] w fun e w' => e = .returned (.int .i64 7) ∧ Below w.heap.size w w' := by
  go_enter Try.func54, Try.ntmps54
  go_wp2
  go_ret
  exact ⟨rfl, ((Below.refl _ _).alloc (Nat.le_refl _) _).alloc (by simp) _⟩
theorem blocks_c (c : Int) (h : c = 1 ∨ c = 2) (w : World) : Calls Try.prog 54 #[.int .i64 c] w fun e w' => e = .returned (.int .i64 (blkN c)) ∧ Below w.heap.size w w' := by
  rcases h with rfl | rfl
  · exact blocks_1 w
  · exact blocks_2 w
theorem bytes_c (c : Int) (h : c = 1 ∨ c = 2) (w : World) : Calls Try.prog 52 #[.int .i64 c] w fun e w' => e = .returned (.int .i64 (64 * c)) ∧ Below w.heap.size w w' := by
  rcases h with rfl | rfl
  · go_enter Try.func52, Try.ntmps52
    go_wp2_with (go_at_call 54; refine (blocks_1 _).mono ?_; rintro e w1 ⟨rfl, hb⟩)
    go_ret
    exact ⟨rfl, hb⟩
  · go_enter Try.func52, Try.ntmps52
    go_wp2_with (go_at_call 54; refine (blocks_2 _).mono ?_; rintro e w1 ⟨rfl, hb⟩)
    go_ret
    exact ⟨rfl, hb⟩

theorem header_s (s : Int) (h : 1 ≤ s ∧ s ≤ 64) (w : World) : Calls Try.prog 68 #[.int .i64 s] w fun e w' => e = .returned (.int .u64 (1024 * s)) ∧ w = w' := by
  obtain ⟨h1, h2⟩ := h
  go_enter Try.func68, Try.ntmps68
  go_wp2_with (go_at_call 67; refine (withinI_yes _ _ _ ⟨h1, h2⟩ _).mono ?_; rintro e w1 ⟨rfl, rfl⟩)
  go_ret
  exact ⟨rfl, rfl⟩
theorem header_0 (w : World) : Calls Try.prog 68 #[.int .i64 0] w fun e w' => e = .returned (.int .u64 0) ∧ w = w' := by
  go_enter Try.func68, Try.ntmps68
  go_wp2_with (go_at_call 67; refine (withinI_no _ _ _ (by omega) _).mono ?_; rintro e w1 ⟨rfl, rfl⟩)
  go_ret
  exact ⟨rfl, rfl⟩

def slabN (a : Int) : Int := if 1 ≤ a / 1024 ∧ a / 1024 ≤ 64 then a / 1024 else 0
set_option maxRecDepth 100000 in
theorem slab_a (a : Int) (h0 : 0 ≤ a) (hm : a ≤ 18446744073709551615) (w : World) : Calls Try.prog 56 #[.int .u64 a] w fun e w' => e = .returned (.int .i64 (slabN a)) ∧ w = w' := by
  by_cases h : 1 ≤ a / 1024 ∧ a / 1024 ≤ 64
  · have hs := Lib.hid (show slabN a = a / 1024 by unfold slabN; rw [if_pos h])
    obtain ⟨h1, h2⟩ := h
    go_enter Try.func56, Try.ntmps56
    go_wp2_with (go_at_call 69; refine (withinA_yes _ _ _ ⟨h1, h2⟩ _).mono ?_; rintro e w1 ⟨rfl, rfl⟩)
    go_ret
    exact ⟨by simp [hs.out], rfl⟩
  · have hs := Lib.hid (show slabN a = 0 by unfold slabN; rw [if_neg h])
    have h' : a / 1024 < 1 ∨ 64 < a / 1024 := by omega
    have H := Lib.hid h'
    clear h h'
    go_enter Try.func56, Try.ntmps56
    go_wp2_with (fail)
    refine (withinA_no _ _ _ H.out _).mono ?_
    rintro e w1 ⟨rfl, rfl⟩
    go_wp2_with (fail)
    go_ret
    exact ⟨by simp [hs.out], rfl⟩

theorem block_in (s c j : Int) (hs : 1 ≤ s ∧ s ≤ 64) (hc : c = 1 ∨ c = 2) (hj : 0 ≤ j ∧ j < blkN c) (w : World) :
    Calls Try.prog 55 #[.int .i64 s, .int .i64 c, .int .i64 j] w fun e w' => e = .returned (.int .u64 (1024 * s + 64 + j * (64 * c))) ∧ Below w.heap.size w w' := by
  obtain ⟨h1, h2⟩ := hs
  obtain ⟨h3, h4⟩ := hj
  have hb : blkN c = 15 ∨ blkN c = 7 := by unfold blkN; split <;> simp
  have hb2 : blkN c ≤ 15 := by omega
  have hb3 : 7 ≤ blkN c := by omega
  have hc2 : 1 ≤ c := by omega
  have hc3 : c ≤ 2 := by omega
  have hz : (1024 * s == 0) = false := by simp; omega
  have H := Lib.hid hc
  have hm1 : 0 ≤ j * (64 * c) := Int.mul_nonneg h3 (by omega)
  have hm2 : j * (64 * c) ≤ 15 * 128 := Int.mul_le_mul (by omega) (by omega) (by omega) (by omega)
  clear hc hb
  go_enter Try.func55, Try.ntmps55
  go_wp2_with (first
    | (go_at_call 68; refine (header_s _ ⟨h1, h2⟩ _).mono ?_; rintro e w1 ⟨rfl, rfl⟩)
    | (go_at_call 54; refine (blocks_c _ H.out _).mono ?_; rintro e w1 ⟨rfl, hb1⟩)
    | (go_at_call 67; refine (withinI_yes _ _ _ ⟨h3, by omega⟩ _).mono ?_; rintro e w1 ⟨rfl, rfl⟩)
    | (go_at_call 52; refine (bytes_c _ H.out _).mono ?_; rintro e w2 ⟨rfl, hb2⟩))
  go_ret
  exact ⟨rfl, hb1.trans (hb2.mono hb1.size)⟩
theorem block_0 (c j : Int) (w : World) : Calls Try.prog 55 #[.int .i64 0, .int .i64 c, .int .i64 j] w fun e w' => e = .returned (.int .u64 0) ∧ w = w' := by
  go_enter Try.func55, Try.ntmps55
  go_wp2_with (go_at_call 68; refine (header_0 _).mono ?_; rintro e w1 ⟨rfl, rfl⟩)
  go_ret
  exact ⟨rfl, rfl⟩

/-! ### a value's class -/
def clsN (n : Int) : Int := if n < 0 then 0 else if n ≤ 56 then 1 else if n ≤ 120 then 2 else 0

theorem fits_c (b : Nat) (n c : Int) (hc : c = 1 ∨ c = 2) (w : World) (hn : w.cell? ⟨b, 0, none⟩ = some (.int .i64 n)) :
    Calls Try.prog 51 #[.int .i64 c, .pointer (some ⟨b, 0, none⟩)] w fun e w' => e = .returned (.bool (decide (n ≤ 64 * c - 8))) ∧ Below w.heap.size w w' := by
  have hb := World.block_lt_of_cell? w ⟨b, 0, none⟩ hn
  have hc1 : 1 ≤ c := by omega
  have hc2 : c ≤ 2 := by omega
  have H := Lib.hid hc
  clear hc
  obtain ⟨S, f, fne, f0, fB, fI⟩ := cls_of w
  have y0 : ∀ x, (f x).cell? ⟨b, 0, none⟩ = some (.int .i64 n) := fun x => ((fB x).cell (p := ⟨b, 0, none⟩) hb).trans hn
  have FB := Lib.hid fB
  have FI := Lib.hid fI
  have F0 := Lib.hid f0
  clear fB fI f0
  go_enter Try.func51, Try.ntmps51
  go_wp2_with (fail)
  (refine wp_region_cls f (by kernel_rfl) (by kernel_rfl) F0.out ?_; (repeat (go_big_quiet_step ((go_at_call 52; exact calls_cls FI.out FB.out (bytes_c _ H.out _))))); refine wpQuiet_nil ?_; intro _ hw'; obtain ⟨xq, hw''⟩ := hw'; subst hw'')
  have HB := Lib.hid (FB.out xq)
  clear y0
  go_wp2_with (fail)
  go_ret
  exact ⟨rfl, HB.out⟩

def idxC (n : Int) : Int := if n ≤ 56 then 0 else if n ≤ 120 then 1 else -1
theorem idx_c (g b : Nat) (n : Int) (w : World) (hn : w.cell? ⟨b, 0, none⟩ = some (.int .i64 n)) (h1 : w.cell? ⟨g, 0, none⟩ = some (.int .i64 1)) (h2 : w.cell? ⟨g, 1, none⟩ = some (.int .i64 2)) :
    Calls Try.prog 53 #[.slice (some ⟨g, 0, none⟩) 2 2, .func (.func 51) #[] #[.pointer (some ⟨b, 0, none⟩)]] w fun e w' => e = .returned (.int .i64 (idxC n)) ∧ Below w.heap.size w w' := by
  have hb := World.block_lt_of_cell? w ⟨b, 0, none⟩ hn
  have hg := World.block_lt_of_cell? w ⟨g, 0, none⟩ h1
  have HN := Lib.hid hn
  by_cases c1 : n ≤ 56
  · have HI := Lib.hid (show idxC n = 0 by unfold idxC; rw [if_pos c1])
    have H1 := fits_c b n 1 (.inl rfl) w hn
    rw [decide_eq_true (by omega)] at H1
    have HH1 := Lib.hid H1
    clear H1 hn
    go_enter Try.func53, Try.ntmps53
    go_wp2_with (fail)
    refine wp_loop_rounds 1 ?_
    rw [rounds_succ]
    go_wp2_with (fail)
    refine HH1.out.mono ?_
    rintro e w1 ⟨rfl, hB⟩
    have HB := Lib.hid hB
    clear hB
    go_wp2_with (fail)
    go_ret
    exact ⟨ret_int HI.out.symm, HB.out⟩
  · have H1 := fits_c b n 1 (.inl rfl) w hn
    rw [decide_eq_false (by omega)] at H1
    have HH1 := Lib.hid H1
    have hg2 : ∀ w1, Below w.heap.size w w1 → w1.cell? ⟨b, 0, none⟩ = some (.int .i64 n) ∧ w1.cell? ⟨g, 1, none⟩ = some (.int .i64 2) := fun w1 hB => ⟨(hB.cell (p := ⟨b, 0, none⟩) hb).trans hn, (hB.cell (p := ⟨g, 1, none⟩) hg).trans h2⟩
    have HG := Lib.hid hg2
    clear H1 hn hg2
    go_enter Try.func53, Try.ntmps53
    go_wp2_with (fail)
    refine wp_loop_rounds 3 ?_
    rw [rounds_succ]
    go_wp2_with (fail)
    refine HH1.out.mono ?_
    rintro e w1 ⟨rfl, hB⟩
    obtain ⟨e1, e2⟩ := HG.out w1 hB
    have HB := Lib.hid hB
    have H2 := fits_c b n 2 (.inr rfl) w1 e1
    clear hB h1 h2
    by_cases c2 : n ≤ 120
    · have HI := Lib.hid (show idxC n = 1 by unfold idxC; rw [if_neg (by omega), if_pos (by omega)])
      rw [decide_eq_true (by omega)] at H2
      have HH2 := Lib.hid H2
      clear H2
      go_wp2_with (fail)
      rw [rounds_succ]
      go_wp2_with (fail)
      refine HH2.out.mono ?_
      rintro e w2 ⟨rfl, hB2⟩
      have HB2 := Lib.hid (HB.out.trans (hB2.mono HB.out.size))
      clear hB2
      go_wp2_with (fail)
      go_ret
      exact ⟨ret_int HI.out.symm, HB2.out⟩
    · have HI := Lib.hid (show idxC n = -1 by unfold idxC; rw [if_neg (by omega), if_neg (by omega)])
      rw [decide_eq_false (by omega)] at H2
      have HH2 := Lib.hid H2
      clear H2
      go_wp2_with (fail)
      rw [rounds_succ]
      go_wp2_with (fail)
      refine HH2.out.mono ?_
      rintro e w2 ⟨rfl, hB2⟩
      have HB2 := Lib.hid (HB.out.trans (hB2.mono HB.out.size))
      clear hB2
      go_wp2_with (fail)
      rw [rounds_succ]
      go_wp2_with (fail)
      go_ret
      exact ⟨ret_int HI.out.symm, HB2.out⟩

theorem class_n (n : Int) (w : World) : Calls Try.prog 31 #[.int .i64 n] w fun e w' => e = .returned (.int .i64 (clsN n)) ∧ Below w.heap.size w w' := by
  by_cases h0 : n < 0
  · have HI := Lib.hid (show clsN n = 0 by unfold clsN; rw [if_pos h0])
    go_enter Try.func31, Try.ntmps31
    go_wp2_with (fail)
    go_ret
    exact ⟨ret_int HI.out.symm, (Below.refl _ _).alloc (Nat.le_refl _) _⟩
  · have HI := Lib.hid (show clsN n = 1 + idxC n by unfold clsN idxC; rw [if_neg h0]; split; rfl; split <;> rfl)
    have hr : -1 ≤ idxC n ∧ idxC n ≤ 1 := by unfold idxC; split; omega; split <;> omega
    obtain ⟨r1, r2⟩ := hr
    go_enter Try.func31, Try.ntmps31
    go_wp2_with (fail)
    have q0 := (Blk.new w #[.int .i64 n] 3).alloc (.cells #[.int .i64 1, .int .i64 2] 3)
    have q1 := Blk.new (w.alloc (.cells #[.int .i64 n] 3)) #[.int .i64 1, .int .i64 2] 3
    have z0 := q0.cell 0
    refine (idx_c _ w.heap.size n _ z0 (by simp) (by simp)).mono ?_
    rintro e w1 ⟨rfl, hB⟩
    have HB := Lib.hid ((((Below.refl w.heap.size w).alloc (Nat.le_refl _) (.cells #[.int .i64 n] 3)).alloc (by simp) (.cells #[.int .i64 1, .int .i64 2] 3)).trans (hB.mono (by simp; omega)))
    clear hB q0 q1 z0
    go_wp2_with (fail)
    go_ret
    exact ⟨ret_int HI.out.symm, HB.out⟩
end Go.Proofs.Ytegamhjfloebgaa
