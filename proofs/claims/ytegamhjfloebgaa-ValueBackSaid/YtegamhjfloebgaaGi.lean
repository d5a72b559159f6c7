/-
  geo.Index, and the reference's: is an address a block's?
-/
import Derived.Test.YtegamhjfloebgaaG
namespace Go.Proofs.Ytegamhjfloebgaa
open Go.RowKit

/-- a block of a class begins there -/
def HasBlk (a c : Int) : Prop := ∃ i j : Nat, 1 ≤ i ∧ i ≤ 64 ∧ (j : Int) < blkN c ∧ a = 1024 * (i : Int) + 64 + (j : Int) * (64 * c)

theorem blk_bd (c : Int) (hc : c = 1 ∨ c = 2) (j : Nat) (hj : (j : Int) < blkN c) : 0 ≤ (j : Int) * (64 * c) ∧ (j : Int) * (64 * c) < 960 := by
  unfold blkN at hj
  rcases hc with rfl | rfl
  · rw [if_pos rfl] at hj; omega
  · rw [if_neg (by decide)] at hj; omega
theorem hasBlk_slab {a c : Int} (hc : c = 1 ∨ c = 2) (h : HasBlk a c) : 1 ≤ a / 1024 ∧ a / 1024 ≤ 64 ∧ ∃ j : Nat, (j : Int) < blkN c ∧ a = 1024 * (a / 1024) + 64 + (j : Int) * (64 * c) := by
  obtain ⟨i, j, h1, h2, h3, h4⟩ := h
  have := blk_bd c hc j h3
  have e : a / 1024 = i := by omega
  exact ⟨by omega, by omega, j, h3, by rw [e]; exact h4⟩

def IdxPost (w : World) (a c : Int) (e : Ending) (w' : World) : Prop :=
  ((HasBlk a c ∧ ∃ j, e = .returned (.tuple #[.int .i64 j, .bool true])) ∨ (¬ HasBlk a c ∧ e = .returned (.tuple #[.int .i64 0, .bool false]))) ∧ Below w.heap.size w w'

set_option maxRecDepth 100000 in
theorem index_a (a c : Int) (hc : c = 1 ∨ c = 2) (h0 : 0 ≤ a) (hm : a ≤ 18446744073709551615) (w : World) : Calls Try.prog 32 #[.int .u64 a, .int .i64 c] w (IdxPost w a c) := by
  have hb7 : 7 ≤ blkN c := by unfold blkN; split <;> omega
  have hb15 : blkN c ≤ 15 := by unfold blkN; split <;> omega
  have HC := Lib.hid hc
  by_cases hs : slabN a = 0
  · have HN := Lib.hid (show ¬ HasBlk a c from fun h => by
      obtain ⟨h1, h2, _⟩ := hasBlk_slab hc h
      unfold slabN at hs; rw [if_pos ⟨h1, h2⟩] at hs; omega)
    have HS := Lib.hid (show ∀ w, Calls Try.prog 56 #[.int .u64 a] w fun e w' => e = .returned (.int .i64 0) ∧ w = w' from fun w => by have := slab_a a h0 hm w; rwa [hs] at this)
    clear hs hc
    go_enter Try.func32, Try.ntmps32
    go_wp2_with (go_at_call 54; refine (blocks_c c HC.out _).mono ?_; rintro e w1 ⟨rfl, hB1⟩)
    go_loopw [10] (fun iv wr => ∃ k : Nat, (k : Int) ≤ blkN c ∧ iv = .int .i64 k ∧ Below w.heap.size w wr) (fun iv _ => (blkN c).toNat - (intOf iv).toNat)
    case atStart => exact ⟨0, by omega, rfl, hB1⟩
    case round =>
      obtain ⟨k, hk, rfl, hB⟩ := hrel
      clear hB1
      have HB := Lib.hid hB
      clear hB
      by_cases hlt : (k : Int) < blkN c
      · by_cases ha : a = 0
        · have hab : ((0 : Int) == a) = true := by simp [ha]
          have HA := Lib.hid ha
          clear ha
          go_wp2_with (first
            | (go_at_call 56; refine (HS.out _).mono ?_; rintro e w2 ⟨rfl, rfl⟩)
            | (go_at_call 55; refine (block_0 c _ _).mono ?_; rintro e w2 ⟨rfl, rfl⟩))
          go_roundw
          case rel => exact ⟨k + 1, by omega, by go_num, HB.out⟩
          case measure => simp [intOf]; omega
        · have hab : ((0 : Int) == a) = false := by simp; omega
          go_wp2_with (first
            | (go_at_call 56; refine (HS.out _).mono ?_; rintro e w2 ⟨rfl, rfl⟩)
            | (go_at_call 55; refine (block_0 c _ _).mono ?_; rintro e w2 ⟨rfl, rfl⟩))
          go_roundw
          case rel => exact ⟨k + 1, by omega, by go_num, HB.out⟩
          case measure => simp [intOf]; omega
      · go_wp2_with (fail)
        go_ret2
        exact ⟨.inr ⟨HN.out, rfl⟩, HB.out⟩
  · have hs1 : slabN a = a / 1024 ∧ 1 ≤ a / 1024 ∧ a / 1024 ≤ 64 := by
      unfold slabN at hs ⊢
      split
      · rename_i h; exact ⟨rfl, h.1, h.2⟩
      · rename_i h; rw [if_neg h] at hs; exact absurd rfl hs
    obtain ⟨hs2, hs3, hs4⟩ := hs1
    obtain ⟨s, hse⟩ : ∃ s, s = a / 1024 := ⟨_, rfl⟩
    rw [← hse] at hs3 hs4
    have HS := Lib.hid (show ∀ w, Calls Try.prog 56 #[.int .u64 a] w fun e w' => e = .returned (.int .i64 s) ∧ w = w' from fun w => by have := slab_a a h0 hm w; rwa [hs2, ← hse] at this)
    have HSE := Lib.hid hse
    clear hs hc hs2 hse
    go_enter Try.func32, Try.ntmps32
    go_wp2_with (go_at_call 54; refine (blocks_c c HC.out _).mono ?_; rintro e w1 ⟨rfl, hB1⟩)
    go_loopw [10] (fun iv wr => ∃ k : Nat, (k : Int) ≤ blkN c ∧ iv = .int .i64 k ∧ Hid (∀ j : Nat, j < k → a ≠ 1024 * s + 64 + (j : Int) * (64 * c)) ∧ Below w.heap.size w wr) (fun iv _ => (blkN c).toNat - (intOf iv).toNat)
    case atStart => exact ⟨0, by omega, rfl, Lib.hid (fun j hj => by omega), hB1⟩
    case round =>
      obtain ⟨k, hk, rfl, hno, hB⟩ := hrel
      clear hB1
      have HB := Lib.hid hB
      clear hB
      by_cases hlt : (k : Int) < blkN c
      · obtain ⟨v, hv⟩ : ∃ v, v = 1024 * s + 64 + (k : Int) * (64 * c) := ⟨_, rfl⟩
        have HBk := Lib.hid (show ∀ w, Calls Try.prog 55 #[.int .i64 s, .int .i64 c, .int .i64 k] w fun e w' => e = .returned (.int .u64 v) ∧ Below w.heap.size w w' from fun w => by
          rw [hv]; exact block_in s c k ⟨hs3, hs4⟩ HC.out ⟨by omega, hlt⟩ w)
        have hv0 : 0 < v := by have := blk_bd c HC.out k hlt; omega
        have HV := Lib.hid hv
        clear hv
        by_cases hva : v = a
        · have HY := Lib.hid (show HasBlk a c from ⟨s.toNat, k, by omega, by omega, hlt, by rw [← hva, HV.out, Int.toNat_of_nonneg (by omega)]⟩)
          have hvb : (v == a) = true := by simpa using hva
          have HVA := Lib.hid hva
          clear hva
          go_wp2_with (first
            | (go_at_call 56; refine (HS.out _).mono ?_; rintro e w2 ⟨rfl, rfl⟩)
            | (go_at_call 55; refine (HBk.out _).mono ?_; rintro e w2 ⟨rfl, hB2⟩))
          go_ret2
          exact ⟨.inl ⟨HY.out, _, rfl⟩, HB.out.trans (hB2.mono HB.out.size)⟩
        · have hvb : (v == a) = false := by simpa using hva
          have HVA := Lib.hid hva
          clear hva
          go_wp2_with (first
            | (go_at_call 56; refine (HS.out _).mono ?_; rintro e w2 ⟨rfl, rfl⟩)
            | (go_at_call 55; refine (HBk.out _).mono ?_; rintro e w2 ⟨rfl, hB2⟩))
          go_roundw
          case rel => exact ⟨k + 1, by omega, by go_num, Lib.hid (fun j hj => by
            rcases Nat.lt_succ_iff_lt_or_eq.1 hj with h | h
            · exact hno.out j h
            · subst h; intro e; exact HVA.out (by rw [HV.out]; exact e.symm)), HB.out.trans (hB2.mono HB.out.size)⟩
          case measure => simp [intOf]; omega
      · have HN := Lib.hid (show ¬ HasBlk a c from fun h => by
          obtain ⟨_, _, j, h3, h4⟩ := hasBlk_slab HC.out h
          rw [← HSE.out] at h4
          exact hno.out j (by omega) h4)
        go_wp2_with (fail)
        go_ret2
        exact ⟨.inr ⟨HN.out, rfl⟩, HB.out⟩
end Go.Proofs.Ytegamhjfloebgaa
