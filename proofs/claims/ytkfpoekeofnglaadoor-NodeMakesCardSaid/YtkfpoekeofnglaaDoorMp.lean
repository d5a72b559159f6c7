/-
  A NODE OF ENTRIES: when all are valid (plain).
-/
import Derived.Test.YtkfpoekeofnglaaDoorMk
namespace Go.Proofs.YtkfpoekeofnglaaDoor
open Go.RowKit
set_option linter.unusedVariables false

/-- an entry that makes no node -/
def badP (fi : Int) (l : List (Int × Int)) (i : Nat) : Bool := (eP l i == 0) || (eP l i == (match i with | 0 => fi | j + 1 => eP l j))
theorem mk_ahead (lv lo nx fi : Int) (l : List (Int × Int)) (i : Nat) : (mkNd lv lo nx fi l).ahead i = (match i with | 0 => fi | j + 1 => eP l j) := by cases i <;> rfl
theorem badP_false {lv lo nx fi : Int} {l : List (Int × Int)} {i : Nat} (h : badP fi l i = false) : eP l i ≠ 0 ∧ (mkNd lv lo nx fi l).ok i = true := by
  unfold badP at h
  rw [← mk_ahead lv lo nx fi l i] at h
  simp only [Bool.or_eq_false_iff, beq_eq_false_iff_ne] at h
  exact ⟨h.1, by unfold Nd.ok; exact bne_iff_ne.2 h.2⟩
theorem badP_true {lv lo nx fi : Int} {l : List (Int × Int)} {i : Nat} (h : badP fi l i = true) : ¬ (eP l i ≠ 0 ∧ (mkNd lv lo nx fi l).ok i = true) := by
  unfold badP at h
  rw [← mk_ahead lv lo nx fi l i] at h
  simp only [Bool.or_eq_true, beq_iff_eq] at h
  rintro ⟨h1, h2⟩
  rcases h with h | h
  · exact h1 h
  · unfold Nd.ok at h2; exact (bne_iff_ne.1 h2) h
theorem mk_len_le (lv lo nx fi : Int) (l : List (Int × Int)) : (mkNd lv lo nx fi l).len ≤ l.length := by
  rcases Nat.lt_or_ge l.length (mkNd lv lo nx fi l).len with h | h
  · have := (mkNd lv lo nx fi l).p_lt l.length h
    exact absurd (show eP l l.length = 0 by simp [eP, List.getD]) this
  · exact h
theorem mk_len (lv lo nx fi : Int) (l : List (Int × Int)) (h8 : l.length ≤ 8) (h : ∀ i, i < l.length → eP l i ≠ 0) : (mkNd lv lo nx fi l).len = l.length := by
  have h1 := mk_len_le lv lo nx fi l
  rcases Nat.lt_or_ge (mkNd lv lo nx fi l).len l.length with h2 | h2
  · have := (mkNd lv lo nx fi l).p_len (by omega)
    exact absurd this (h _ h2)
  · omega
theorem mk_all {lv lo nx fi : Int} {l : List (Int × Int)} (h8 : l.length ≤ 8) (h : ∀ i, i < l.length → badP fi l i = false) :
    (mkNd lv lo nx fi l).len = l.length ∧ (mkNd lv lo nx fi l).valid = l ∧ (mkNd lv lo nx fi l).invalid = -1 := by
  have hl := mk_len lv lo nx fi l h8 (fun i hi => (badP_false (lv := lv) (lo := lo) (nx := nx) (h i hi)).1)
  have ho : ∀ i, i < l.length → (mkNd lv lo nx fi l).ok i = true := fun i hi => (badP_false (h i hi)).2
  refine ⟨hl, ?_, ?_⟩
  · have hp : plN (mkNd lv lo nx fi l) = List.range l.length := by
      unfold plN
      rw [hl, List.filter_eq_self]
      intro i hi
      exact ho i (List.mem_range.1 hi)
    unfold Nd.valid
    rw [hp]
    apply List.ext_getElem
    · simp
    · intro i h1 h2
      simp [mkNd, eK, eP, List.getD, h2]
  · have hi : inv (mkNd lv lo nx fi l).ents = none := by
      unfold inv Nd.ents
      rw [hl]
      simp only [Option.map_eq_none_iff, List.find?_eq_none]
      intro x hx
      obtain ⟨i, hi, rfl⟩ := List.mem_map.1 hx
      have := ho i (List.mem_range.1 hi)
      unfold Nd.ok at this
      simp [this]
    unfold Nd.invalid
    rw [hi]; rfl
theorem mk_bad {lv lo nx fi : Int} {l : List (Int × Int)} (h8 : l.length ≤ 8) {i : Nat} (hi : i < l.length) (h : badP fi l i = true) : (mkNd lv lo nx fi l).valid.length ≠ l.length := by
  intro he
  refine badP_true (lv := lv) (lo := lo) (nx := nx) h ?_
  have h1 : (mkNd lv lo nx fi l).valid.length = (plN (mkNd lv lo nx fi l)).length := by simp [Nd.valid]
  have h2 := mk_len_le lv lo nx fi l
  have h3 : (plN (mkNd lv lo nx fi l)).length ≤ (List.range (mkNd lv lo nx fi l).len).length := List.length_filter_le _ _
  rw [List.length_range] at h3
  have hl : (mkNd lv lo nx fi l).len = l.length := by omega
  have hf : (List.range (mkNd lv lo nx fi l).len).filter (fun i => (mkNd lv lo nx fi l).p i != (mkNd lv lo nx fi l).ahead i) = List.range (mkNd lv lo nx fi l).len := by
    refine List.filter_sublist.eq_of_length ?_
    rw [List.length_range]
    show (plN (mkNd lv lo nx fi l)).length = _
    omega
  rw [List.filter_eq_self] at hf
  refine ⟨(mkNd lv lo nx fi l).p_lt i (by omega), hf i (List.mem_range.2 (by omega))⟩
/-- what the document's Make answers -/
theorem mkV_yes {lv lo nx fi : Int} {l : List (Int × Int)} (hb : mkBad lv lo fi l = false) (h : ∀ i, i < l.length → badP fi l i = false) : mkV lv lo nx fi l = (mkNd lv lo nx fi l, 0) := by
  have h8 : l.length ≤ 8 := by
    unfold mkBad at hb
    simp only [Bool.or_eq_false_iff, decide_eq_false_iff_not] at hb
    omega
  unfold mkV
  rw [if_neg (by rw [hb]; simp), if_pos (by rw [(mk_all h8 h).2.1])]
theorem mkV_no {lv lo nx fi : Int} {l : List (Int × Int)} (hb : mkBad lv lo fi l = false) {i : Nat} (hi : i < l.length) (h : badP fi l i = true) : mkV lv lo nx fi l = (nd0, 2) := by
  have h8 : l.length ≤ 8 := by
    unfold mkBad at hb
    simp only [Bool.or_eq_false_iff, decide_eq_false_iff_not] at hb
    omega
  unfold mkV
  rw [if_neg (by rw [hb]; simp), if_neg (mk_bad h8 hi h)]
/-- a node that Make gives -/
theorem mkV_made {lv lo nx fi : Int} {l : List (Int × Int)} {m : Nd} (h : mkV lv lo nx fi l = (m, 0)) :
    m.valid = l ∧ m.invalid = -1 ∧ m.len = l.length ∧ m.mayB 0 false = true ∧ l.length ≤ 8 := by
  unfold mkV at h
  by_cases hb : mkBad lv lo fi l = true
  · rw [if_pos hb] at h; cases h
  · rw [if_neg hb] at h
    have hb' : mkBad lv lo fi l = false := by simpa using hb
    have hc := hb'
    unfold mkBad at hb'
    simp only [Bool.or_eq_false_iff, decide_eq_false_iff_not, Bool.not_eq_false'] at hb'
    obtain ⟨⟨⟨⟨q1, q2⟩, q3⟩, q4⟩, q5⟩ := hb'
    by_cases hv : (mkNd lv lo nx fi l).valid.length = l.length
    · rw [if_pos hv] at h
      cases h
      have hall : ∀ i, i < l.length → badP fi l i = false := fun i hi => by
        cases hq : badP fi l i
        · rfl
        · exact absurd hv (mk_bad (by omega) hi hq)
      obtain ⟨a1, a2, a3⟩ := mk_all (lv := lv) (lo := lo) (nx := nx) (show l.length ≤ 8 by omega) hall
      refine ⟨a2, a3, a1, ?_, by omega⟩
      unfold Nd.mayB
      rw [a2, a1]
      show ((!((decide (lv < 0) || decide (15 < lv)) || (fi == 0) || _)) && _) = true
      rw [decide_eq_false q1, decide_eq_false q2, q3]
      simp
      exact q5
    · rw [if_neg hv] at h; cases h
end Go.Proofs.YtkfpoekeofnglaaDoor
