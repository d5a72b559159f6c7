/-
  HOW A STORE MOVES A NODE's ENTRIES; what a node that may be has. (Plain.)
-/
import Derived.Test.YtbpaefhihdhdeaaPa
namespace Go.Proofs.Ytbpaefhihdhdeaa
open Go.RowKit
set_option linter.unusedVariables false

theorem ahead_withK (m : Nd) (i j : Nat) (x : Int) : (m.withK i x).ahead j = m.ahead j := by cases j <;> rfl
theorem ahead_withP (m : Nd) (i j : Nat) (x : Int) (h : j ≤ i) : (m.withP i x).ahead j = m.ahead j := by
  cases j with
  | zero => rfl
  | succ j => show (if j = i then x else m.p j) = m.p j; rw [if_neg (by omega)]
theorem withP_ne (m : Nd) {i j : Nat} (x : Int) (h : j ≠ i) : (m.withP i x).p j = m.p j := if_neg h
theorem withP_eq (m : Nd) (i : Nat) (x : Int) : (m.withP i x).p i = x := if_pos rfl
theorem withK_ne (m : Nd) {i j : Nat} (x : Int) (h : j ≠ i) : (m.withK i x).k j = m.k j := if_neg h
theorem withK_eq (m : Nd) (i : Nat) (x : Int) : (m.withK i x).k i = x := if_pos rfl

theorem eK_erase (A : List (Int × Int)) (i j : Nat) : eK (A.eraseIdx i) j = if j < i then eK A j else eK A (j + 1) := by
  unfold eK
  by_cases h : j < i <;> simp [List.getD, List.getElem?_eraseIdx, h]
theorem eP_erase (A : List (Int × Int)) (i j : Nat) : eP (A.eraseIdx i) j = if j < i then eP A j else eP A (j + 1) := by
  unfold eP
  by_cases h : j < i <;> simp [List.getD, List.getElem?_eraseIdx, h]
/-- an entry put in -/
def insA (A : List (Int × Int)) (i : Nat) (e : Int × Int) : List (Int × Int) := A.take i ++ e :: A.drop i
theorem insA_len (A : List (Int × Int)) (i : Nat) (e : Int × Int) : (insA A i e).length = A.length + 1 := by
  unfold insA; simp; omega
theorem eK_drop (A : List (Int × Int)) (i j : Nat) : eK (A.drop i) j = eK A (i + j) := by unfold eK; simp [List.getD]
theorem eP_drop (A : List (Int × Int)) (i j : Nat) : eP (A.drop i) j = eP A (i + j) := by unfold eP; simp [List.getD]
theorem ent_cons (e : Int × Int) (L : List (Int × Int)) (j : Nat) : eK (e :: L) (j + 1) = eK L j ∧ eP (e :: L) (j + 1) = eP L j := by unfold eK eP; simp [List.getD]
theorem ent_zero (e : Int × Int) (L : List (Int × Int)) : eK (e :: L) 0 = e.1 ∧ eP (e :: L) 0 = e.2 := by unfold eK eP; simp [List.getD]
theorem insA_ent {A : List (Int × Int)} {i : Nat} (hi : i ≤ A.length) (e : Int × Int) (j : Nat) :
    (j < i → eK (insA A i e) j = eK A j ∧ eP (insA A i e) j = eP A j) ∧ (j = i → eK (insA A i e) j = e.1 ∧ eP (insA A i e) j = e.2) ∧ (i ≤ j → eK (insA A i e) (j + 1) = eK A j ∧ eP (insA A i e) (j + 1) = eP A j) := by
  have hl : (A.take i).length = i := by simp; omega
  unfold insA
  refine ⟨fun h => ?_, fun h => ?_, fun h => ?_⟩
  · rw [eK_app, eP_app, if_pos (by omega), if_pos (by omega), eK_take, eP_take, if_pos h, if_pos h]; exact ⟨rfl, rfl⟩
  · subst h
    rw [eK_app, eP_app, if_neg (by omega), if_neg (by omega), hl, Nat.sub_self]
    exact ent_zero _ _
  · rw [eK_app, eP_app, if_neg (by omega), if_neg (by omega), hl, show j + 1 - i = (j - i) + 1 by omega, (ent_cons _ _ _).1, (ent_cons _ _ _).2, eK_drop, eP_drop, show i + (j - i) = j by omega]
    exact ⟨rfl, rfl⟩

section
variable {m : Nd} {A : List (Int × Int)} {i : Nat}
theorem mv_key (h : Gap m A i) (x : Int) : Gap (m.withK i x) A i :=
  ⟨h.le, h.at_, fun j hj => ⟨(withK_ne m x (by omega)).trans (h.low j hj).1, (h.low j hj).2⟩, h.gap.trans (ahead_withK m i i x).symm, fun j h1 h2 => ⟨(withK_ne m x (by omega)).trans (h.high j h1 h2).1, (h.high j h1 h2).2⟩, h.fin⟩
theorem mv_up (h : Gap m A i) (hi : i < A.length) (hk : m.k i = eK A i) {x : Int} (hx : x = eP A i) : Gap (m.withP i x) A (i + 1) := by
  have hh := (h.high i (Nat.le_refl _) hi)
  refine ⟨h.le, by omega, fun j hj => ?_, ?_, fun j h1 h2 => ?_, fun hf => ?_⟩
  · by_cases hji : j = i
    · subst hji; exact ⟨hk, (withP_eq m j x).trans hx⟩
    · exact ⟨(h.low j (by omega)).1, (withP_ne m x hji).trans (h.low j (by omega)).2⟩
  · show (m.withP i x).p (i + 1) = (m.withP i x).p i
    rw [withP_ne m x (by omega), withP_eq, hh.2, hx]
  · exact ⟨(h.high j (by omega) h2).1, (withP_ne m x (by omega)).trans (h.high j (by omega) h2).2⟩
  · exact (withP_ne m x (by omega)).trans (h.fin hf)
theorem mv_down (h : Gap m A (i + 1)) (hk : m.k (i + 1) = eK A i) {x : Int} (hx : x = m.ahead i) : Gap (m.withP i x) A i := by
  have ha := h.at_
  refine ⟨h.le, by omega, fun j hj => ?_, ?_, fun j h1 h2 => ?_, fun hf => ?_⟩
  · exact ⟨(h.low j (by omega)).1, (withP_ne m x (by omega)).trans (h.low j (by omega)).2⟩
  · rw [withP_eq, ahead_withP m i i x (Nat.le_refl _)]; exact hx
  · by_cases hji : j = i
    · subst hji
      refine ⟨hk, (withP_ne m x (by omega)).trans ?_⟩
      rw [h.gap]
      exact (h.low j (by omega)).2
    · exact ⟨(h.high j (by omega) h2).1, (withP_ne m x (by omega)).trans (h.high j (by omega) h2).2⟩
  · exact (withP_ne m x (by omega)).trans (h.fin hf)
theorem mv_open (h : Full m A) (hi : i < A.length) {x : Int} (hx : x = m.ahead i) : Gap (m.withP i x) (A.eraseIdx i) i := by
  have hl : (A.eraseIdx i).length + 1 = A.length := by rw [List.length_eraseIdx, if_pos hi]; omega
  have h8 := h.le
  refine ⟨by omega, by omega, fun j hj => ?_, ?_, fun j h1 h2 => ?_, fun hf => ?_⟩
  · rw [eK_erase, eP_erase, if_pos hj, if_pos hj]
    exact ⟨(h.ent j (by omega)).1, (withP_ne m x (by omega)).trans (h.ent j (by omega)).2⟩
  · rw [withP_eq, ahead_withP m i i x (Nat.le_refl _)]; exact hx
  · rw [eK_erase, eP_erase, if_neg (by omega), if_neg (by omega)]
    exact ⟨(h.ent (j + 1) (by omega)).1, (withP_ne m x (by omega)).trans (h.ent (j + 1) (by omega)).2⟩
  · rw [hl] at hf ⊢
    exact (withP_ne m x (by omega)).trans (h.fin hf)
theorem mv_shut (h : Gap m A i) (hi : i = A.length) : Full (m.withP i 0) A := by
  subst hi
  have h8 := h.le
  exact ⟨by omega, fun j hj => ⟨(h.low j hj).1, (withP_ne m 0 (by omega)).trans (h.low j hj).2⟩, fun _ => withP_eq m _ 0⟩
theorem mv_begin (h : Full m A) (h8 : A.length < 8) (hz : A.length + 1 < 8 → m.p (A.length + 1) = 0) (hi : i = A.length) {x : Int} (hx : x = m.ahead i) : Gap (m.withP i x) A i := by
  subst hi
  refine ⟨by omega, Nat.le_refl _, fun j hj => ⟨(h.ent j hj).1, (withP_ne m x (by omega)).trans (h.ent j hj).2⟩, ?_, fun j h1 h2 => by omega, fun hf => (withP_ne m x (by omega)).trans (hz hf)⟩
  rw [withP_eq, ahead_withP m _ _ x (Nat.le_refl _)]; exact hx
theorem mv_nought (h : Full m A) (hi : i = A.length + 1) : Full (m.withP i 0) A :=
  ⟨h.le, fun j hj => ⟨(h.ent j hj).1, (withP_ne m 0 (by omega)).trans (h.ent j hj).2⟩, fun hf => (withP_ne m 0 (by omega)).trans (h.fin hf)⟩
theorem mv_put (h : Gap m A i) {e : Int × Int} (hk : m.k i = e.1) : Full (m.withP i e.2) (insA A i e) := by
  have hl := insA_len A i e
  have h8 := h.le
  have hE := fun j => insA_ent h.at_ e j
  refine ⟨by omega, fun j hj => ?_, fun hf => ?_⟩
  · rcases Nat.lt_trichotomy j i with hji | hji | hji
    · rw [((hE j).1 hji).1, ((hE j).1 hji).2]
      exact ⟨(h.low j hji).1, (withP_ne m _ (by omega)).trans (h.low j hji).2⟩
    · rw [((hE j).2.1 hji).1, ((hE j).2.1 hji).2]
      subst hji
      exact ⟨hk, withP_eq m _ _⟩
    · obtain ⟨q, rfl⟩ : ∃ q, j = q + 1 := ⟨j - 1, by omega⟩
      rw [((hE q).2.2 (by omega)).1, ((hE q).2.2 (by omega)).2]
      exact ⟨(h.high q (by omega) (by omega)).1, (withP_ne m _ (by omega)).trans (h.high q (by omega) (by omega)).2⟩
  · rw [hl] at hf ⊢
    have ha := h.at_
    exact (withP_ne m _ (by omega)).trans (h.fin hf)
theorem eK_set (A : List (Int × Int)) (i : Nat) (e : Int × Int) (j : Nat) (hi : i < A.length) : eK (A.set i e) j = (if j = i then e.1 else eK A j) ∧ eP (A.set i e) j = (if j = i then e.2 else eP A j) := by
  unfold eK eP
  by_cases h : j = i
  · subst h; simp [List.getD, hi]
  · rw [if_neg h, if_neg h]; simp [List.getD, List.getElem?_set_ne (fun e => h e.symm)]
theorem mv_swap (h : Full m A) (hi : i < A.length) (x : Int) : Full (m.withP i x) (A.set i (eK A i, x)) := by
  refine ⟨by rw [List.length_set]; exact h.le, fun j hj => ?_, fun hf => ?_⟩
  · rw [List.length_set] at hj
    rw [(eK_set A i _ j hi).1, (eK_set A i _ j hi).2]
    by_cases hji : j = i
    · subst hji; rw [if_pos rfl, if_pos rfl]; exact ⟨(h.ent j hj).1, withP_eq m _ _⟩
    · rw [if_neg hji, if_neg hji]; exact ⟨(h.ent j hj).1, (withP_ne m x hji).trans (h.ent j hj).2⟩
  · rw [List.length_set] at hf ⊢
    exact (withP_ne m x (by omega)).trans (h.fin hf)
theorem mv_cut (h : Full m A) (hi : i < A.length) : Full (m.withP i 0) (A.take i) := by
  have hl : (A.take i).length = i := by simp; omega
  have h8 := h.le
  refine ⟨by omega, fun j hj => ?_, fun hf => ?_⟩
  · rw [hl] at hj
    rw [eK_take, eP_take, if_pos hj, if_pos hj]
    exact ⟨(h.ent j (by omega)).1, (withP_ne m 0 (by omega)).trans (h.ent j (by omega)).2⟩
  · rw [hl]; exact withP_eq m _ _
end

/-! ### what a node that may be has -/
theorem may_parts {m : Nd} (h : m.mayB 0 false = true) : 0 ≤ m.lv ∧ m.lv ≤ 15 ∧ m.fi ≠ 0 ∧ m.len ≤ m.valid.length + 1 ∧ riseB m.lv m.lo m.fi m.valid = true := by
  unfold Nd.mayB at h
  simp only [Bool.and_eq_true, Bool.not_eq_true', Bool.or_eq_false_iff, decide_eq_false_iff_not, decide_eq_true_eq, beq_eq_false_iff_ne] at h
  exact ⟨by omega, by omega, h.1.1.2, h.2.1, h.2.2⟩
theorem may_fine {m : Nd} (h : m.mayB 0 false = true) : Fine m m.valid := by
  obtain ⟨a, b, c, _, d⟩ := may_parts h
  refine ⟨⟨a, b⟩, c, rises_of d, fun e he => ?_⟩
  unfold Nd.valid at he
  obtain ⟨j, hj, rfl⟩ := List.mem_map.1 he
  exact m.p_lt j (plN_lt m j hj)
theorem rep_full {m : Nd} (h : m.mayB 0 false = true) (hi : m.invalid < 0) : Full m m.valid := by
  have hall : ∀ j, j < m.len → m.ok j = true := by
    rw [inval_eq] at hi
    rcases firstF_spec (fun i => !m.ok i) m.len 0 with ⟨_, ha⟩ | ⟨j, e, _⟩
    · intro j hj; have := ha j (by omega) (by omega); simpa using this
    · unfold Nd.inval at hi; omega
  have hp : plN m = List.range m.len := by
    unfold plN
    rw [List.filter_eq_self]
    intro j hj
    exact hall j (List.mem_range.1 hj)
  have hv := valid_of hp
  have hl : m.valid.length = m.len := by rw [hv]; simp
  refine ⟨by rw [hl]; exact m.len_le, fun j hj => ?_, fun hf => ?_⟩
  · rw [hl] at hj
    rw [hv]
    simp [eK, eP, List.getD, hj]
  · rw [hl] at hf ⊢; exact m.p_len hf
theorem rep_gap {m : Nd} (h : m.mayB 0 false = true) (hi : 0 ≤ m.invalid) : ∃ i : Nat, m.invalid = i ∧ Gap m m.valid i := by
  obtain ⟨i, ei, hil⟩ := inval_lt m hi
  refine ⟨i, ei, ?_⟩
  have hno : m.ok i = false := by
    rw [inval_eq] at ei
    rcases firstF_spec (fun i => !m.ok i) m.len 0 with ⟨e, _⟩ | ⟨j, e, _, _, h2, _⟩
    · unfold Nd.inval at ei; omega
    · have : j = i := by unfold Nd.inval at ei; omega
      subst this; simpa using h2
  obtain ⟨_, _, _, hlen, _⟩ := may_parts h
  have hvl : m.valid.length = (plN m).length := by simp [Nd.valid]
  obtain ⟨n, hn⟩ : ∃ n, m.len = n + 1 := ⟨m.len - 1, by omega⟩
  have hsub : (plN m).Sublist ((List.range m.len).filter (fun j => j != i)) := by
    have e : plN m = ((List.range m.len).filter (fun j => j != i)).filter m.ok := by
      rw [List.filter_filter]
      unfold plN
      refine List.filter_congr (fun j hj => ?_)
      show m.ok j = (m.ok j && (j != i))
      by_cases hji : j = i
      · subst hji; rw [hno]; rfl
      · rw [show (j != i) = true from bne_iff_ne.2 hji, Bool.and_true]
    rw [e]; exact List.filter_sublist
  have hg : (List.range m.len).filter (fun j => j != i) = List.range i ++ List.range' (i + 1) (n - i) := by rw [hn]; exact range_gap n i (by omega)
  have hp : plN m = List.range i ++ List.range' (i + 1) (n - i) := by
    rw [← hg]
    refine hsub.eq_of_length ?_
    have h1 := hsub.length_le
    rw [hg] at h1 ⊢
    simp at h1 ⊢
    omega
  have hv := valid_of hp
  have hvn : m.valid.length = n := by rw [hv]; simp; omega
  have h8 := m.len_le
  refine ⟨by omega, by omega, fun j hj => ?_, ?_, fun j h1 h2 => ?_, fun hf => ?_⟩
  · rw [hv, List.map_append, eK_app, eP_app, if_pos (by simpa using hj), if_pos (by simpa using hj)]
    simp [eK, eP, List.getD, hj]
  · unfold Nd.ok at hno
    simpa using hno
  · rw [hvn] at h2
    have hx : (List.range' (i + 1) (n - i))[j - i]? = some (j + 1) := by
      rw [List.getElem?_range' (by omega)]; congr 1; omega
    rw [hv, List.map_append, eK_app, eP_app, if_neg (by simpa using h1), if_neg (by simpa using h1)]
    simp [eK, eP, List.getD, hx]
  · rw [hvn] at hf ⊢; rw [← hn]; exact m.p_len (by omega)
end Go.Proofs.Ytbpaefhihdhdeaa
