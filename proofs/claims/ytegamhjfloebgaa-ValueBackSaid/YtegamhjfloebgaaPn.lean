/-
  A READ ENDS WHERE THE DOCUMENT SAYS (no program in sight).
-/
import Derived.Test.YtegamhjfloebgaaSt
namespace Go.Proofs.Ytegamhjfloebgaa
open Go.RowKit
set_option linter.unusedVariables false

theorem wordsB_len (L : List UInt8) (N : Nat) : (wordsB L N).length = N := by simp [wordsB]
theorem wordsB_getD (L : List UInt8) (N k : Nat) (h : k < N) : (wordsB L N).getD k 0 = chunk L k := by
  unfold wordsB
  rw [List.getD_eq_getElem?_getD, List.getElem?_eq_getElem (by simpa using h)]
  simp [wordAt]
theorem wordsB_u64 (L : List UInt8) (N : Nat) : U64s (wordsB L N) := fun x hx => by
  obtain ⟨j, _, rfl⟩ := List.mem_map.1 hx
  exact chunk_rng L _
theorem wordsFrom_head (L : List UInt8) (i k : Nat) : (wordsFrom L i (k + 1)).headD 0 = chunk L i := by
  unfold wordsFrom
  rw [List.range_succ_eq_map]
  simp
theorem ad_at (i j : Nat) (h : i + j ≤ 1000000) (l : List Int) (hl : l.length = j) : adP (8 * (i : Int)) l = 8 * ((i + j : Nat) : Int) := by
  unfold adP
  rw [hl, IntWalk.u64_in _ (by omega)]
  omega
theorem atE_in (N k : Nat) (h : k < N) : atE N (8 * (k : Int)) = 0 := by unfold atE; rw [if_neg (by omega)]
theorem atE_out (N k : Nat) (h : N ≤ k) : atE N (8 * (k : Int)) = 3 := by unfold atE; rw [if_pos (by omega)]
theorem it_load (L : List UInt8) (N i j : Nat) (hN : N ≤ 100000) (h : i + j < N) (hj : itP (wordsB L N) (8 * (i : Int)) j = (false, 0, wordsFrom L i j, ⟨#[]⟩)) :
    itP (wordsB L N) (8 * (i : Int)) (j + 1) = nextP (wordsFrom L i (j + 1)) ⟨#[]⟩ := by
  show stepP _ _ _ _ _ _ = _
  rw [hj]
  show loadP _ _ _ _ = _
  unfold loadP
  rw [ad_at i j (by omega) _ (wordsFrom_len _ _ _), wordsB_len, atE_in N (i + j) h, if_pos rfl]
  have : ldW (wordsB L N) (8 * ((i + j : Nat) : Int)) = chunk L (i + j) := by
    unfold ldW
    rw [wordsB_len, atE_in N (i + j) h, if_pos rfl, show (8 * ((i + j : Nat) : Int) / 8).toNat = i + j by omega, wordsB_getD _ _ _ h]
  rw [this, wordsFrom_succ]
theorem it_out (L : List UInt8) (N i j : Nat) (hN : N ≤ 100000) (hi : i < N ∨ j = 0) (hi2 : i ≤ 100000) (h : N ≤ i + j) (hj1 : j ≤ 100) (hj : itP (wordsB L N) (8 * (i : Int)) j = (false, 0, wordsFrom L i j, ⟨#[]⟩)) :
    itP (wordsB L N) (8 * (i : Int)) (j + 1) = (true, 3, wordsFrom L i j, ⟨#[]⟩) := by
  show stepP _ _ _ _ _ _ = _
  rw [hj]
  show loadP _ _ _ _ = _
  unfold loadP
  rw [ad_at i j (by omega) _ (wordsFrom_len _ _ _), wordsB_len, atE_out N (i + j) h, if_neg (by decide)]
theorem wordsN_rng {h : Int} (h0 : 0 ≤ h) (h1 : ¬ 120 < h) : 1 ≤ wordsN h ∧ wordsN h ≤ 16 := by
  unfold wordsN; rw [if_neg (by omega)]; omega
theorem it_mid (L : List UInt8) (N i : Nat) (hN : N ≤ 100000) (hi : i < N) (h120 : ¬ 120 < chunk L i) :
    ∀ j : Nat, i + j ≤ N → (j : Int) < wordsN (chunk L i) → itP (wordsB L N) (8 * (i : Int)) j = (false, 0, wordsFrom L i j, ⟨#[]⟩)
  | 0, _, _ => rfl
  | j + 1, h1, h2 => by
    rw [it_load L N i j hN (by omega) (it_mid L N i hN hi h120 j (by omega) (by omega))]
    unfold nextP
    rw [wordsFrom_head, if_neg h120, wordsFrom_len, if_pos h2]
theorem unpackT_len {l : List Int} (h : unpackOk l = true) : ((unpackT l).length : Int) = l.headD 0 := by
  unfold unpackOk at h
  simp only [Bool.and_eq_true, decide_eq_true_eq] at h
  have h2 := h.2
  have : (packW (unpackT l)).headD 0 = ((unpackT l).length : Int) := rfl
  rw [h2] at this
  exact this.symm
/-- a read's end -/
structure Ends (L : List UInt8) (N : Nat) (a : Int) (n : Nat) : Prop where
  p : 1 ≤ n
  b : n ≤ 17
  lt : ∀ j, j < n → (itP (wordsB L N) a j).1 = false ∧ (itP (wordsB L N) a j).2.1 = 0
  d : (itP (wordsB L N) a n).1 = true
  v : valP (itP (wordsB L N) a n).1 (itP (wordsB L N) a n).2.1 (itP (wordsB L N) a n).2.2.2 = (⟨(standP L a).1.toArray⟩, (standP L a).2)
  w : (standP L a).2 = 0 → (n : Int) ≤ wordsN ((standP L a).1.length : Int) + 1
theorem ends (L : List UInt8) (N : Nat) (a : Int) (hL : L.length = 8 * N) (hN : N ≤ 100000) (h0 : 0 ≤ a) (h1 : a ≤ 18446744073709551615) : ∃ n, Ends L N a n := by
  by_cases hbad : a % 8 ≠ 0 ∨ (L.length : Int) ≤ a
  · have hs : standP L a = ([], 3) := by unfold standP; rw [if_pos hbad]
    have hat : atE N a = 3 := by unfold atE; rw [if_pos (by omega)]
    have e1 : itP (wordsB L N) a 1 = (true, 3, [], ⟨#[]⟩) := by
      show loadP _ a [] ⟨#[]⟩ = _
      unfold loadP
      rw [show adP a [] = a from by unfold adP; simp only [List.length_nil]; rw [IntWalk.u64_in _ (by omega)]; omega, wordsB_len, hat, if_neg (by decide)]
    refine ⟨1, Nat.le_refl _, by omega, fun j hj => ?_, by rw [e1], by rw [e1, hs]; rfl, by rw [hs]; intro h; cases h⟩
    obtain rfl : j = 0 := by omega
    exact ⟨rfl, rfl⟩
  · obtain ⟨i, rfl⟩ : ∃ i : Nat, a = 8 * (i : Int) := ⟨(a / 8).toNat, by omega⟩
    have hi : i < N := by omega
    have hdv : (8 * (i : Int) / 8).toNat = i := by omega
    have hs : standP L (8 * (i : Int)) = if 120 < chunk L i then ([], 11) else if (L.length : Int) < 8 * (i : Int) + 8 * wordsN (chunk L i) then ([], 3) else UP (wordsFrom L i (wordsN (chunk L i)).toNat) := by
      unfold standP; rw [if_neg hbad, hdv]
    have hr := chunk_rng L i
    by_cases h120 : 120 < chunk L i
    · rw [if_pos h120] at hs
      have e1 : itP (wordsB L N) (8 * (i : Int)) 1 = (true, 11, wordsFrom L i 1, ⟨#[]⟩) := by
        rw [it_load L N i 0 hN hi rfl]
        unfold nextP
        rw [wordsFrom_head, if_pos h120]
      refine ⟨1, Nat.le_refl _, by omega, fun j hj => ?_, by rw [e1], by rw [e1, hs]; rfl, by rw [hs]; intro h; cases h⟩
      obtain rfl : j = 0 := by omega
      exact ⟨rfl, rfl⟩
    · rw [if_neg h120] at hs
      have hk := wordsN_rng hr.1 h120
      obtain ⟨k, hk2⟩ : ∃ k : Nat, wordsN (chunk L i) = ((k + 1 : Nat) : Int) := ⟨(wordsN (chunk L i)).toNat - 1, by omega⟩
      have hmid := it_mid L N i hN hi h120
      rw [hk2] at hmid hs
      by_cases hbig : (L.length : Int) < 8 * (i : Int) + 8 * ((k + 1 : Nat) : Int)
      · rw [if_pos hbig] at hs
        obtain ⟨j, hj⟩ : ∃ j, N = i + j := ⟨N - i, by omega⟩
        have e1 := it_out L N i j hN (.inl hi) (by omega) (by omega) (by omega) (hmid j (by omega) (by omega))
        refine ⟨j + 1, by omega, by omega, fun m hm => ?_, by rw [e1], by rw [e1, hs]; rfl, by rw [hs]; intro h; cases h⟩
        rw [hmid m (by omega) (by omega)]
        exact ⟨rfl, rfl⟩
      · rw [if_neg hbig, show (((k + 1 : Nat) : Int)).toNat = k + 1 by omega] at hs
        have e1 : itP (wordsB L N) (8 * (i : Int)) (k + 1) = (true, (UP (wordsFrom L i (k + 1))).2, wordsFrom L i (k + 1), ⟨(UP (wordsFrom L i (k + 1))).1.toArray⟩) := by
          rw [it_load L N i k hN (by omega) (hmid k (by omega) (by omega))]
          unfold nextP
          rw [wordsFrom_head, if_neg h120, wordsFrom_len, hk2, if_neg (by omega)]
        refine ⟨k + 1, by omega, by omega, fun m hm => ?_, by rw [e1], ?_, ?_⟩
        · rw [hmid m (by omega) (by omega)]
          exact ⟨rfl, rfl⟩
        · rw [e1, hs]
          unfold UP valP
          by_cases hu : unpackOk (wordsFrom L i (k + 1)) = true
          · rw [if_pos hu]; rfl
          · rw [if_neg hu]; rfl
        · rw [hs]
          unfold UP
          by_cases hu : unpackOk (wordsFrom L i (k + 1)) = true
          · rw [if_pos hu]
            intro _
            rw [show (((unpackT (wordsFrom L i (k + 1))), (0 : Int)).1.length : Int) = chunk L i from (unpackT_len hu).trans (wordsFrom_head L i k), hk2]
            omega
          · rw [if_neg hu]; intro h; cases h
end Go.Proofs.Ytegamhjfloebgaa
