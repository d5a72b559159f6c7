/-
  A NODE WHOSE ENTRIES ARE A LIST, OR A LIST WITH A GAP: what is valid, whether it may be; how stores move it. (Plain.)
-/
import Derived.Test.YtbpaefhihdhdeaaCu
import Derived.Test.YtbpaefhihdhdeaaRu
import Derived.Test.YtbpaefhihdhdeaaMk
namespace Go.Proofs.Ytbpaefhihdhdeaa
open Go.RowKit
set_option linter.unusedVariables false

/-! ### lists of entries -/
theorem ent_get {A : List (Int × Int)} {j : Nat} (h : j < A.length) : A[j] = (eK A j, eP A j) := by simp [eK, eP, List.getD, h]
theorem ent_mem {A : List (Int × Int)} {j : Nat} (h : j < A.length) : (eK A j, eP A j) ∈ A := by rw [← ent_get h]; exact List.getElem_mem _
theorem mem_ent {A : List (Int × Int)} {e : Int × Int} (h : e ∈ A) : ∃ j, j < A.length ∧ eK A j = e.1 ∧ eP A j = e.2 := by
  obtain ⟨j, hj, rfl⟩ := List.getElem_of_mem h
  exact ⟨j, hj, by rw [ent_get hj], by rw [ent_get hj]⟩
def Rises (lv lo fi : Int) (A : List (Int × Int)) : Prop := (∀ e ∈ A, lo ≤ e.1 ∧ (0 < lv → e.1 ≠ lo) ∧ e.2 ≠ fi) ∧ A.Pairwise (fun a b => a.1 < b.1 ∧ a.2 ≠ b.2)
theorem rise_next9 {lv lo fi : Int} {l : List (Int × Int)} (h : riseB lv lo fi l = true) (i : Nat) (hi : i < l.length) : badAt lv lo fi l i = false := by
  unfold riseB at h
  have h1 := List.all_eq_true.1 h i (List.mem_range.2 hi)
  simpa using h1
theorem rise_key9 {lv lo fi : Int} {l : List (Int × Int)} (h : riseB lv lo fi l = true) : ∀ (d i : Nat), i + (d + 1) < l.length → eK l i < eK l (i + (d + 1)) := by
  have step : ∀ i, i + 1 < l.length → eK l i < eK l (i + 1) := by
    intro i hi
    have h1 := rise_next9 h (i + 1) hi
    unfold badAt at h1
    simp at h1
    omega
  intro d
  induction d with
  | zero => intro i hi; exact step i hi
  | succ d ih =>
    intro i hi
    have h1 := ih i (by omega)
    have h2 := step (i + (d + 1)) (by omega)
    rw [show i + (d + 1 + 1) = i + (d + 1) + 1 by omega]
    omega
theorem rises_of {lv lo fi : Int} {A : List (Int × Int)} (h : riseB lv lo fi A = true) : Rises lv lo fi A := by
  refine ⟨fun e he => ?_, ?_⟩
  · obtain ⟨j, hj, e1, e2⟩ := mem_ent he
    have := rise_next9 h j hj
    unfold badAt at this
    simp only [Bool.or_eq_false_iff, Bool.and_eq_false_iff, decide_eq_false_iff_not, beq_eq_false_iff_ne] at this
    rw [e1, e2] at this
    obtain ⟨⟨⟨⟨a, b⟩, _⟩, c⟩, _⟩ := this
    refine ⟨by omega, fun hl => ?_, c⟩
    rcases b with b | b
    · exact absurd hl b
    · exact b
  · rw [List.pairwise_iff_getElem]
    intro i j hi hj hij
    rw [ent_get hi, ent_get hj]
    refine ⟨by have := rise_key9 h (j - i - 1) i (by omega); rwa [show i + (j - i - 1 + 1) = j by omega] at this, fun e => ?_⟩
    have := rise_next9 h j hj
    unfold badAt at this
    simp only [Bool.or_eq_false_iff] at this
    have hd := this.2
    rw [dup_true hij e] at hd
    cases hd
theorem rises_to {lv lo fi : Int} {A : List (Int × Int)} (h : Rises lv lo fi A) : riseB lv lo fi A = true := by
  refine rise_true (fun j hj => ?_)
  obtain ⟨h1, h2⟩ := h
  rw [List.pairwise_iff_getElem] at h2
  obtain ⟨a, b, c⟩ := h1 _ (ent_mem hj)
  unfold badAt
  have hk : (decide (0 < j) && decide (eK A j ≤ eK A (j - 1))) = false := by
    by_cases h0 : 0 < j
    · have := (h2 (j - 1) j (by omega) hj (by omega)).1
      rw [ent_get hj, ent_get (show j - 1 < A.length by omega)] at this
      rw [decide_eq_false (show ¬ eK A j ≤ eK A (j - 1) by simp at this; omega)]
      simp
    · rw [decide_eq_false h0]; rfl
  have hd : dupAt A j = false := dup_false (fun i hi => by
    have := (h2 i j (by omega) hj hi).2
    rwa [ent_get hj, ent_get (show i < A.length by omega)] at this)
  rw [hk, hd, decide_eq_false (show ¬ eK A j < lo by simpa using a), beq_eq_false_iff_ne.2 (show eP A j ≠ fi from c)]
  by_cases hl : 0 < lv
  · rw [beq_eq_false_iff_ne.2 (show eK A j ≠ lo from b hl)]; simp
  · rw [decide_eq_false hl]; rfl
theorem Rises.sub {lv lo fi : Int} {A B : List (Int × Int)} (h : Rises lv lo fi A) (hs : B.Sublist A) : Rises lv lo fi B :=
  ⟨fun e he => h.1 e (hs.subset he), h.2.sublist hs⟩
/-- one more entry -/
theorem Rises.mid {lv lo fi : Int} {X Y : List (Int × Int)} {e : Int × Int} (h : Rises lv lo fi (X ++ Y)) (he : lo ≤ e.1 ∧ (0 < lv → e.1 ≠ lo) ∧ e.2 ≠ fi) (hx : ∀ a ∈ X, a.1 < e.1 ∧ a.2 ≠ e.2) (hy : ∀ b ∈ Y, e.1 < b.1 ∧ e.2 ≠ b.2) : Rises lv lo fi (X ++ e :: Y) := by
  obtain ⟨h1, h2⟩ := h
  rw [List.pairwise_append] at h2
  obtain ⟨p, q, r⟩ := h2
  refine ⟨fun x hx' => ?_, ?_⟩
  · rcases List.mem_append.1 hx' with h | h
    · exact h1 x (List.mem_append_left _ h)
    · rcases List.mem_cons.1 h with rfl | h
      · exact he
      · exact h1 x (List.mem_append_right _ h)
  · rw [List.pairwise_append]
    refine ⟨p, List.pairwise_cons.2 ⟨hy, q⟩, fun a ha b hb => ?_⟩
    rcases List.mem_cons.1 hb with rfl | hb
    · exact hx a ha
    · exact r a ha b hb
def Nz (A : List (Int × Int)) : Prop := ∀ e ∈ A, e.2 ≠ 0

/-! ### the two states -/
structure Full (m : Nd) (A : List (Int × Int)) : Prop where
  le : A.length ≤ 8
  ent : ∀ j, j < A.length → m.k j = eK A j ∧ m.p j = eP A j
  fin : A.length < 8 → m.p A.length = 0
structure Gap (m : Nd) (A : List (Int × Int)) (i : Nat) : Prop where
  le : A.length + 1 ≤ 8
  at_ : i ≤ A.length
  low : ∀ j, j < i → m.k j = eK A j ∧ m.p j = eP A j
  gap : m.p i = m.ahead i
  high : ∀ j, i ≤ j → j < A.length → m.k (j + 1) = eK A j ∧ m.p (j + 1) = eP A j
  fin : A.length + 1 < 8 → m.p (A.length + 1) = 0
/-- all that the entries must be -/
structure Fine (m : Nd) (A : List (Int × Int)) : Prop where
  lv : 0 ≤ m.lv ∧ m.lv ≤ 15
  fi : m.fi ≠ 0
  rises : Rises m.lv m.lo m.fi A
  nz : Nz A
theorem Fine.ne {m : Nd} {A : List (Int × Int)} (h : Fine m A) {i j : Nat} (hij : i < j) (hj : j < A.length) : eP A j ≠ eP A i := by
  have := h.rises.2
  rw [List.pairwise_iff_getElem] at this
  have := (this i j (by omega) hj hij).2
  rw [ent_get hj, ent_get (show i < A.length by omega)] at this
  exact fun e => this e.symm
theorem Fine.key {m : Nd} {A : List (Int × Int)} (h : Fine m A) {i j : Nat} (hij : i < j) (hj : j < A.length) : eK A i < eK A j := by
  have := h.rises.2
  rw [List.pairwise_iff_getElem] at this
  have := (this i j (by omega) hj hij).1
  rwa [ent_get hj, ent_get (show i < A.length by omega)] at this
theorem Fine.nfi {m : Nd} {A : List (Int × Int)} (h : Fine m A) {j : Nat} (hj : j < A.length) : eP A j ≠ m.fi := (h.rises.1 _ (ent_mem hj)).2.2
theorem Fine.n0 {m : Nd} {A : List (Int × Int)} (h : Fine m A) {j : Nat} (hj : j < A.length) : eP A j ≠ 0 := h.nz _ (ent_mem hj)

theorem len_of {m : Nd} {c : Nat} (h8 : c ≤ 8) (hn : ∀ j, j < c → m.p j ≠ 0) (hf : c < 8 → m.p c = 0) : m.len = c := by
  have h1 := m.len_le
  rcases Nat.lt_trichotomy m.len c with h | h | h
  · exact absurd (m.p_len (by omega)) (hn _ h)
  · exact h
  · exact absurd (hf (by omega)) (m.p_lt c h)
theorem valid_of {m : Nd} {L : List Nat} (h : plN m = L) : m.valid = L.map (fun i => (m.k i, m.p i)) := by unfold Nd.valid; rw [h]
theorem mayB_of {m : Nd} {A : List (Int × Int)} (h : Fine m A) (hv : m.valid = A) (hl : m.len ≤ A.length + 1) : m.mayB 0 false = true := by
  unfold Nd.mayB
  rw [hv, rises_to h.rises]
  have := h.lv
  rw [decide_eq_false (by omega : ¬ m.lv < 0), decide_eq_false (by omega : ¬ 15 < m.lv), beq_eq_false_iff_ne.2 h.fi, decide_eq_true hl]
  rfl
section
variable {m : Nd} {A : List (Int × Int)} {i : Nat}
theorem Full.len (h : Full m A) (hf : Fine m A) : m.len = A.length := len_of h.le (fun j hj => by rw [(h.ent j hj).2]; exact hf.n0 hj) h.fin
theorem Full.ok (h : Full m A) (hf : Fine m A) (j : Nat) (hj : j < A.length) : m.ok j = true := by
  unfold Nd.ok
  rw [bne_iff_ne, (h.ent j hj).2]
  cases j with
  | zero => exact hf.nfi hj
  | succ j => show eP A (j + 1) ≠ m.p j; rw [(h.ent j (by omega)).2]; exact hf.ne (by omega) hj
theorem Full.valid (h : Full m A) (hf : Fine m A) : m.valid = A := by
  have hp : plN m = List.range A.length := by
    unfold plN
    rw [h.len hf, List.filter_eq_self]
    intro j hj
    exact h.ok hf j (List.mem_range.1 hj)
  rw [valid_of hp]
  refine ext_ents (by simp) (fun j hj => ?_)
  have hj' : j < A.length := by simpa using hj
  obtain ⟨e1, e2⟩ := h.ent j hj'
  simp [eK, eP, List.getD, hj', e1, e2]
theorem Full.inv (h : Full m A) (hf : Fine m A) : m.invalid = -1 := by
  rw [inval_eq]
  refine (firstP_eq (t := fun i => !m.ok i) (i := 0) (d := m.len) (.inl ⟨rfl, fun j _ hj => ?_⟩) (firstF_spec _ _ _)).symm
  show (!m.ok j) = false
  rw [h.ok hf j (by rw [h.len hf] at hj; omega)]; rfl
theorem Full.may (h : Full m A) (hf : Fine m A) : m.mayB 0 false = true := mayB_of hf (h.valid hf) (by rw [h.len hf]; omega)

theorem Gap.len (h : Gap m A i) (hf : Fine m A) : m.len = A.length + 1 := by
  refine len_of h.le (fun j hj => ?_) h.fin
  have ha := h.at_
  rcases Nat.lt_trichotomy j i with hji | rfl | hji
  · rw [(h.low j hji).2]; exact hf.n0 (by omega)
  · rw [h.gap]
    cases j with
    | zero => exact hf.fi
    | succ j => show m.p j ≠ 0; rw [(h.low j (by omega)).2]; exact hf.n0 (by omega)
  · obtain ⟨q, rfl⟩ : ∃ q, j = q + 1 := ⟨j - 1, by omega⟩
    rw [(h.high q (by omega) (by omega)).2]; exact hf.n0 (by omega)
theorem Gap.ok (h : Gap m A i) (hf : Fine m A) (j : Nat) (hj : j < A.length + 1) : m.ok j = (j != i) := by
  have ha := h.at_
  unfold Nd.ok
  rcases Nat.lt_trichotomy j i with hji | rfl | hji
  · rw [show (j != i) = true from bne_iff_ne.2 (by omega), bne_iff_ne, (h.low j hji).2]
    cases j with
    | zero => exact hf.nfi (by omega)
    | succ j => show eP A (j + 1) ≠ m.p j; rw [(h.low j (by omega)).2]; exact hf.ne (by omega) (by omega)
  · rw [h.gap]; simp
  · obtain ⟨q, rfl⟩ : ∃ q, j = q + 1 := ⟨j - 1, by omega⟩
    rw [show (q + 1 != i) = true from bne_iff_ne.2 (by omega), bne_iff_ne, (h.high q (by omega) (by omega)).2]
    show eP A q ≠ m.p q
    by_cases hqi : q = i
    · subst hqi
      rw [h.gap]
      cases q with
      | zero => exact hf.nfi (by omega)
      | succ q => show eP A (q + 1) ≠ m.p q; rw [(h.low q (by omega)).2]; exact hf.ne (by omega) (by omega)
    · obtain ⟨r, rfl⟩ : ∃ r, q = r + 1 := ⟨q - 1, by omega⟩
      rw [(h.high r (by omega) (by omega)).2]; exact hf.ne (by omega) (by omega)
theorem range_gap (n i : Nat) (h : i ≤ n) : (List.range (n + 1)).filter (fun j => j != i) = List.range i ++ List.range' (i + 1) (n - i) := by
  have e : List.range (n + 1) = List.range i ++ (i :: List.range' (i + 1) (n - i)) := by
    rw [List.range_eq_range', List.range_eq_range', show n + 1 = i + ((n - i) + 1) by omega, ← List.range'_append_1]
    simp [List.range'_succ]
  rw [e, List.filter_append, List.filter_cons]
  rw [show (i != i) = false by simp]
  simp only [Bool.false_eq_true, if_false]
  rw [List.filter_eq_self.2, List.filter_eq_self.2]
  · intro j hj
    have := (List.mem_range'_1.1 hj).1
    exact bne_iff_ne.2 (by omega)
  · intro j hj
    have := List.mem_range.1 hj
    exact bne_iff_ne.2 (by omega)
theorem eK_app (X Y : List (Int × Int)) (j : Nat) : eK (X ++ Y) j = if j < X.length then eK X j else eK Y (j - X.length) := by
  unfold eK
  by_cases h : j < X.length
  · simp [List.getD, h, List.getElem?_append_left h]
  · simp [List.getD, h, List.getElem?_append_right (show X.length ≤ j by omega)]
theorem eP_app (X Y : List (Int × Int)) (j : Nat) : eP (X ++ Y) j = if j < X.length then eP X j else eP Y (j - X.length) := by
  unfold eP
  by_cases h : j < X.length
  · simp [List.getD, h, List.getElem?_append_left h]
  · simp [List.getD, h, List.getElem?_append_right (show X.length ≤ j by omega)]
theorem Gap.valid (h : Gap m A i) (hf : Fine m A) : m.valid = A := by
  have ha := h.at_
  have hp : plN m = List.range i ++ List.range' (i + 1) (A.length - i) := by
    rw [← range_gap _ _ ha]
    unfold plN
    rw [h.len hf]
    refine List.filter_congr (fun j hj => ?_)
    exact h.ok hf j (List.mem_range.1 hj)
  rw [valid_of hp]
  have hl : ((List.range i ++ List.range' (i + 1) (A.length - i)).map (fun j => (m.k j, m.p j))).length = A.length := by simp; omega
  refine ext_ents hl (fun j hj => ?_)
  rw [hl] at hj
  rw [List.map_append, eK_app, eP_app]
  by_cases hji : j < i
  · obtain ⟨e1, e2⟩ := h.low j hji
    have hlt : j < ((List.range i).map (fun j => (m.k j, m.p j))).length := by simpa using hji
    rw [if_pos hlt, if_pos hlt]
    simp [eK, eP, List.getD, hji] at e1 e2 ⊢
    exact ⟨e1, e2⟩
  · obtain ⟨e1, e2⟩ := h.high j (by omega) hj
    have hlt : ¬ j < ((List.range i).map (fun j => (m.k j, m.p j))).length := by simpa using hji
    rw [if_neg hlt, if_neg hlt]
    have hx : (List.range' (i + 1) (A.length - i))[j - i]? = some (j + 1) := by
      rw [List.getElem?_range' (by omega)]; congr 1; omega
    simp [eK, eP, List.getD, hx] at e1 e2 ⊢
    exact ⟨e1, e2⟩
theorem Gap.inv (h : Gap m A i) (hf : Fine m A) : m.invalid = i := by
  have ha := h.at_
  rw [inval_eq]
  refine (firstP_eq (t := fun i => !m.ok i) (i := 0) (d := m.len) (.inr ⟨i, rfl, Nat.zero_le _, by rw [h.len hf]; omega, ?_, fun k _ hk => ?_⟩) (firstF_spec _ _ _)).symm
  · show (!m.ok i) = true
    rw [h.ok hf i (by omega)]; simp
  · show (!m.ok k) = false
    rw [h.ok hf k (by omega), show (k != i) = true from bne_iff_ne.2 (by omega)]; rfl
theorem Gap.may (h : Gap m A i) (hf : Fine m A) : m.mayB 0 false = true := mayB_of hf (h.valid hf) (by rw [h.len hf]; omega)
end
end Go.Proofs.Ytbpaefhihdhdeaa
