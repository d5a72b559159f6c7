/-
  WHAT EACH CHANGE's STORES DO TO A NODE's ENTRIES. (Plain.)
-/
import Derived.Test.YtbpaefhihdhdeaaPc
namespace Go.Proofs.Ytbpaefhihdhdeaa
open Go.RowKit
set_option linter.unusedVariables false

/-! ### a node's entries behind a change, as the law has them -/
def behF (kd key ptr : Int) (st : List (Int × Int) × Bool) (e : Int × Int) : List (Int × Int) × Bool :=
  let st1 := if (st.2 && decide (key < e.1)) = true then (st.1 ++ [(key, ptr)], false) else st
  if kd = 1 ∧ e.1 = key then st1 else if kd = 3 ∧ e.1 = key then (st1.1 ++ [(key, ptr)], st1.2) else if kd = 4 ∧ key ≤ e.1 then st1 else (st1.1 ++ [e], st1.2)
def behL (kd key ptr : Int) (l : List (Int × Int)) : List (Int × Int) :=
  let st := l.foldl (behF kd key ptr) ([], decide (kd = 0))
  if st.2 = true then st.1 ++ [(key, ptr)] else st.1
def behE (kd key ptr : Int) (e : Int × Int) : List (Int × Int) := if kd = 1 ∧ e.1 = key then [] else if kd = 3 ∧ e.1 = key then [(key, ptr)] else if kd = 4 ∧ key ≤ e.1 then [] else [e]
theorem beh_other {kd key ptr : Int} : ∀ (l acc : List (Int × Int)), l.foldl (behF kd key ptr) (acc, false) = (acc ++ l.flatMap (behE kd key ptr), false)
  | [], acc => by simp
  | e :: r, acc => by
    rw [List.foldl_cons, List.flatMap_cons]
    have : behF kd key ptr (acc, false) e = (acc ++ behE kd key ptr e, false) := by
      unfold behF behE
      simp only [Bool.false_and, Bool.false_eq_true, if_false]
      split
      · simp
      split
      · rfl
      split
      · simp
      · rfl
    rw [this, beh_other r, List.append_assoc]
theorem behL_other {kd key ptr : Int} (h : kd ≠ 0) (l : List (Int × Int)) : behL kd key ptr l = l.flatMap (behE kd key ptr) := by
  unfold behL
  rw [decide_eq_false h, beh_other]
  simp
theorem flat_id {f : Int × Int → List (Int × Int)} : ∀ (l : List (Int × Int)), (∀ e ∈ l, f e = [e]) → l.flatMap f = l
  | [], _ => rfl
  | e :: r, h => by rw [List.flatMap_cons, h e (by simp), flat_id r (fun x hx => h x (by simp [hx]))]; rfl
theorem flat_nil {f : Int × Int → List (Int × Int)} : ∀ (l : List (Int × Int)), (∀ e ∈ l, f e = []) → l.flatMap f = []
  | [], _ => rfl
  | e :: r, h => by rw [List.flatMap_cons, h e (by simp), flat_nil r (fun x hx => h x (by simp [hx]))]; rfl
theorem beh_low {key ptr : Int} : ∀ (l acc : List (Int × Int)), (∀ e ∈ l, e.1 ≤ key) → l.foldl (behF 0 key ptr) (acc, true) = (acc ++ l, true)
  | [], acc, _ => by simp
  | e :: r, acc, h => by
    rw [List.foldl_cons]
    have he := h e (by simp)
    have : behF 0 key ptr (acc, true) e = (acc ++ [e], true) := by
      unfold behF
      rw [decide_eq_false (by omega : ¬ key < e.1)]
      simp
    rw [this, beh_low r _ (fun x hx => h x (by simp [hx]))]
    simp
theorem beh_id0 {key ptr : Int} (l acc : List (Int × Int)) : l.foldl (behF 0 key ptr) (acc, false) = (acc ++ l, false) := by
  rw [beh_other, flat_id l (fun e _ => by unfold behE; simp)]
theorem behL_ins {key ptr : Int} (X Y : List (Int × Int)) (hx : ∀ e ∈ X, e.1 ≤ key) (hy : ∀ e ∈ Y, key < e.1) : behL 0 key ptr (X ++ Y) = X ++ (key, ptr) :: Y := by
  unfold behL
  rw [List.foldl_append, show decide ((0 : Int) = 0) = true from rfl, beh_low X [] hx, List.nil_append]
  cases Y with
  | nil => simp
  | cons e r =>
    rw [List.foldl_cons]
    have he := hy e (by simp)
    have : behF 0 key ptr (X, true) e = (X ++ [(key, ptr)] ++ [e], false) := by
      unfold behF
      rw [decide_eq_true he]
      simp
    rw [this, beh_id0]
    simp
/-- a list about one of its entries -/
theorem split_at {A : List (Int × Int)} {i : Nat} (h : i < A.length) : A = A.take i ++ (eK A i, eP A i) :: A.drop (i + 1) := by
  rw [← ent_get h, ← List.drop_eq_getElem_cons h, List.take_append_drop]
theorem take_mem {A : List (Int × Int)} {i : Nat} {e : Int × Int} (h : e ∈ A.take i) : ∃ j, j < i ∧ j < A.length ∧ eK A j = e.1 ∧ eP A j = e.2 := by
  obtain ⟨j, hj, e1, e2⟩ := mem_ent h
  have hj' : j < i ∧ j < A.length := by simp at hj; omega
  rw [eK_take, if_pos hj'.1] at e1
  rw [eP_take, if_pos hj'.1] at e2
  exact ⟨j, hj'.1, hj'.2, e1, e2⟩
theorem drop_mem {A : List (Int × Int)} {i : Nat} {e : Int × Int} (h : e ∈ A.drop i) : ∃ j, i ≤ j ∧ j < A.length ∧ eK A j = e.1 ∧ eP A j = e.2 := by
  obtain ⟨j, hj, e1, e2⟩ := mem_ent h
  rw [eK_drop] at e1
  rw [eP_drop] at e2
  have : j < A.length - i := by simpa using hj
  exact ⟨i + j, by omega, by omega, e1, e2⟩
section
variable {m : Nd} {A : List (Int × Int)} {i : Nat}
theorem behL_del (hf : Fine m A) (hi : i < A.length) {key : Int} (ptr : Int) (hk : eK A i = key) : behL 1 key ptr A = A.eraseIdx i := by
  rw [behL_other (by decide)]
  conv => lhs; rw [split_at hi]
  rw [List.flatMap_append, List.flatMap_cons, List.eraseIdx_eq_take_drop_succ]
  rw [flat_id, flat_id]
  · unfold behE; rw [if_pos ⟨rfl, hk⟩]; simp
  · intro e he
    obtain ⟨j, h1, h2, h3, _⟩ := drop_mem he
    have := hf.key (show i < j by omega) h2
    unfold behE
    rw [if_neg (by rw [← h3]; omega), if_neg (by rw [← h3]; omega), if_neg (by omega)]
  · intro e he
    obtain ⟨j, h1, h2, h3, _⟩ := take_mem he
    have := hf.key h1 hi
    unfold behE
    rw [if_neg (by rw [← h3]; omega), if_neg (by rw [← h3]; omega), if_neg (by omega)]
theorem behL_swap (hf : Fine m A) (hi : i < A.length) {key ptr : Int} (hk : eK A i = key) : behL 3 key ptr A = A.set i (key, ptr) := by
  rw [behL_other (by decide)]
  conv => lhs; rw [split_at hi]
  rw [List.flatMap_append, List.flatMap_cons, List.set_eq_take_append_cons_drop, if_pos hi]
  rw [flat_id, flat_id]
  · unfold behE; rw [if_neg (by omega), if_pos ⟨rfl, hk⟩]; simp
  · intro e he
    obtain ⟨j, h1, h2, h3, _⟩ := drop_mem he
    have := hf.key (show i < j by omega) h2
    unfold behE
    rw [if_neg (by omega), if_neg (by rw [← h3]; omega), if_neg (by omega)]
  · intro e he
    obtain ⟨j, h1, h2, h3, _⟩ := take_mem he
    have := hf.key h1 hi
    unfold behE
    rw [if_neg (by omega), if_neg (by rw [← h3]; omega), if_neg (by omega)]
theorem behL_cut (hf : Fine m A) (hi : i < A.length) {key : Int} (ptr : Int) (hk : key ≤ eK A i) (hl : ∀ j, j < i → eK A j < key) : behL 4 key ptr A = A.take i := by
  rw [behL_other (by decide)]
  conv => lhs; rw [← List.take_append_drop i A]
  rw [List.flatMap_append, flat_id, flat_nil]
  · simp
  · intro e he
    obtain ⟨j, h1, h2, h3, _⟩ := drop_mem he
    have : eK A i ≤ eK A j := by
      by_cases hij : i = j
      · subst hij; exact Int.le_refl _
      · exact Int.le_of_lt (hf.key (by omega) h2)
    unfold behE
    rw [if_neg (by omega), if_neg (by omega), if_pos ⟨rfl, by rw [← h3]; omega⟩]
  · intro e he
    obtain ⟨j, h1, h2, h3, _⟩ := take_mem he
    have := hl j h1
    unfold behE
    rw [if_neg (by omega), if_neg (by omega), if_neg (by rw [← h3]; omega)]
theorem behL_same {kd : Int} (h : kd = 2 ∨ kd = 5) (key ptr : Int) (A : List (Int × Int)) : behL kd key ptr A = A := by
  rw [behL_other (by omega), flat_id]
  intro e _
  unfold behE
  rw [if_neg (by omega), if_neg (by omega), if_neg (by omega)]
end
end Go.Proofs.Ytbpaefhihdhdeaa
