/-
  THE RUN OF A CHANGE's STORES: gaps closed, room made. (Plain.)
-/
import Derived.Test.YtgmbnoimlffgcaaPaN
import Derived.Test.YtgmbnoimlffgcaaFj
import Derived.Test.YtgmbnoimlffgcaaFr
import Derived.Test.YtgmbnoimlffgcaaCu
import Derived.Deep.DeepCutAuto
namespace Go.Proofs.Ytgmbnoimlffgcaa
open Go.RowKit
set_option linter.unusedVariables false

theorem ahead_withK (m : Nd) (i j : Nat) (x : Int) : (m.withK i x).ahead j = m.ahead j := by cases j <;> rfl
theorem ahead_withP (m : Nd) (i j : Nat) (x : Int) (h : j ≤ i) : (m.withP i x).ahead j = m.ahead j := by
  cases j with
  | zero => rfl
  | succ j => show (if j = i then x else m.p j) = m.p j; rw [if_neg (by omega)]
theorem withP_ne (m : Nd) {i j : Nat} (x : Int) (h : j ≠ i) : (m.withP i x).p j = m.p j := if_neg h
theorem withP_eq (m : Nd) (i : Nat) (x : Int) : (m.withP i x).p i = x := if_pos rfl
theorem withK_ne (m : Nd) {i j : Nat} (x : Int) (h : j ≠ i) : (m.withK i x).k j = m.k j := if_neg h
theorem withK_eq (m : Nd) (i : Nat) (x : Int) : (m.withK i x).k i = x := if_pos rfl

theorem eK_erase (A : List (Int × Int)) (i j : Nat) : eK (A.eraseIdx i) j = if j < i then eK A j else eK A (j + 1) := by
  unfold eK
  by_cases h : j < i <;> simp [List.getD, List.getElem?_eraseIdx, h]
theorem eP_erase (A : List (Int × Int)) (i j : Nat) : eP (A.eraseIdx i) j = if j < i then eP A j else eP A (j + 1) := by
  unfold eP
  by_cases h : j < i <;> simp [List.getD, List.getElem?_eraseIdx, h]
/-- an entry put in -/
def insA (A : List (Int × Int)) (i : Nat) (e : Int × Int) : List (Int × Int) := A.take i ++ e :: A.drop i
theorem insA_len (A : List (Int × Int)) (i : Nat) (e : Int × Int) : (insA A i e).length = A.length + 1 := by
  unfold insA; simp; omega
theorem eK_drop (A : List (Int × Int)) (i j : Nat) : eK (A.drop i) j = eK A (i + j) := by unfold eK; simp [List.getD]
theorem eP_drop (A : List (Int × Int)) (i j : Nat) : eP (A.drop i) j = eP A (i + j) := by unfold eP; simp [List.getD]
theorem ent_cons (e : Int × Int) (L : List (Int × Int)) (j : Nat) : eK (e :: L) (j + 1) = eK L j ∧ eP (e :: L) (j + 1) = eP L j := by unfold eK eP; simp [List.getD]
theorem ent_zero (e : Int × Int) (L : List (Int × Int)) : eK (e :: L) 0 = e.1 ∧ eP (e :: L) 0 = e.2 := by unfold eK eP; simp [List.getD]
theorem insA_ent {A : List (Int × Int)} {i : Nat} (hi : i ≤ A.length) (e : Int × Int) (j : Nat) :
    (j < i → eK (insA A i e) j = eK A j ∧ eP (insA A i e) j = eP A j) ∧ (j = i → eK (insA A i e) j = e.1 ∧ eP (insA A i e) j = e.2) ∧ (i ≤ j → eK (insA A i e) (j + 1) = eK A j ∧ eP (insA A i e) (j + 1) = eP A j) := by
  have hl : (A.take i).length = i := by simp; omega
  unfold insA
  refine ⟨fun h => ?_, fun h => ?_, fun h => ?_⟩
  · rw [eK_app, eP_app, if_pos (by omega), if_pos (by omega), eK_take, eP_take, if_pos h, if_pos h]; exact ⟨rfl, rfl⟩
  · subst h
    rw [eK_app, eP_app, if_neg (by omega), if_neg (by omega), hl, Nat.sub_self]
    exact ent_zero _ _
  · rw [eK_app, eP_app, if_neg (by omega), if_neg (by omega), hl, show j + 1 - i = (j - i) + 1 by omega, (ent_cons _ _ _).1, (ent_cons _ _ _).2, eK_drop, eP_drop, show i + (j - i) = j by omega]
    exact ⟨rfl, rfl⟩

section
variable {m : Nd} {A : List (Int × Int)} {i : Nat}
theorem mv_key (h : Gap m A i) (x : Int) : Gap (m.withK i x) A i :=
  ⟨h.le, h.at_, fun j hj => ⟨(withK_ne m x (by omega)).trans (h.low j hj).1, (h.low j hj).2⟩, h.gap.trans (ahead_withK m i i x).symm, fun j h1 h2 => ⟨(withK_ne m x (by omega)).trans (h.high j h1 h2).1, (h.high j h1 h2).2⟩, h.fin⟩
theorem mv_up (h : Gap m A i) (hi : i < A.length) (hk : m.k i = eK A i) {x : Int} (hx : x = eP A i) : Gap (m.withP i x) A (i + 1) := by
  have hh := (h.high i (Nat.le_refl _) hi)
  refine ⟨h.le, by omega, fun j hj => ?_, ?_, fun j h1 h2 => ?_, fun hf => ?_⟩
  · by_cases hji : j = i
    · subst hji; exact ⟨hk, (withP_eq m j x).trans hx⟩
    · exact ⟨(h.low j (by omega)).1, (withP_ne m x hji).trans (h.low j (by omega)).2⟩
  · show (m.withP i x).p (i + 1) = (m.withP i x).p i
    rw [withP_ne m x (by omega), withP_eq, hh.2, hx]
  · exact ⟨(h.high j (by omega) h2).1, (withP_ne m x (by omega)).trans (h.high j (by omega) h2).2⟩
  · exact (withP_ne m x (by omega)).trans (h.fin hf)
theorem mv_down (h : Gap m A (i + 1)) (hk : m.k (i + 1) = eK A i) {x : Int} (hx : x = m.ahead i) : Gap (m.withP i x) A i := by
  have ha := h.at_
  refine ⟨h.le, by omega, fun j hj => ?_, ?_, fun j h1 h2 => ?_, fun hf => ?_⟩
  · exact ⟨(h.low j (by omega)).1, (withP_ne m x (by omega)).trans (h.low j (by omega)).2⟩
  · rw [withP_eq, ahead_withP m i i x (Nat.le_refl _)]; exact hx
  · by_cases hji : j = i
    · subst hji
      refine ⟨hk, (withP_ne m x (by omega)).trans ?_⟩
      rw [h.gap]
      exact (h.low j (by omega)).2
    · exact ⟨(h.high j (by omega) h2).1, (withP_ne m x (by omega)).trans (h.high j (by omega) h2).2⟩
  · exact (withP_ne m x (by omega)).trans (h.fin hf)
theorem mv_open (h : Full m A) (hi : i < A.length) {x : Int} (hx : x = m.ahead i) : Gap (m.withP i x) (A.eraseIdx i) i := by
  have hl : (A.eraseIdx i).length + 1 = A.length := by rw [List.length_eraseIdx, if_pos hi]; omega
  have h8 := h.le
  refine ⟨by omega, by omega, fun j hj => ?_, ?_, fun j h1 h2 => ?_, fun hf => ?_⟩
  · rw [eK_erase, eP_erase, if_pos hj, if_pos hj]
    exact ⟨(h.ent j (by omega)).1, (withP_ne m x (by omega)).trans (h.ent j (by omega)).2⟩
  · rw [withP_eq, ahead_withP m i i x (Nat.le_refl _)]; exact hx
  · rw [eK_erase, eP_erase, if_neg (by omega), if_neg (by omega)]
    exact ⟨(h.ent (j + 1) (by omega)).1, (withP_ne m x (by omega)).trans (h.ent (j + 1) (by omega)).2⟩
  · rw [hl] at hf ⊢
    exact (withP_ne m x (by omega)).trans (h.fin hf)
theorem mv_shut (h : Gap m A i) (hi : i = A.length) : Full (m.withP i 0) A := by
  subst hi
  have h8 := h.le
  exact ⟨by omega, fun j hj => ⟨(h.low j hj).1, (withP_ne m 0 (by omega)).trans (h.low j hj).2⟩, fun _ => withP_eq m _ 0⟩
theorem mv_begin (h : Full m A) (h8 : A.length < 8) (hz : A.length + 1 < 8 → m.p (A.length + 1) = 0) (hi : i = A.length) {x : Int} (hx : x = m.ahead i) : Gap (m.withP i x) A i := by
  subst hi
  refine ⟨by omega, Nat.le_refl _, fun j hj => ⟨(h.ent j hj).1, (withP_ne m x (by omega)).trans (h.ent j hj).2⟩, ?_, fun j h1 h2 => by omega, fun hf => (withP_ne m x (by omega)).trans (hz hf)⟩
  rw [withP_eq, ahead_withP m _ _ x (Nat.le_refl _)]; exact hx
theorem mv_nought (h : Full m A) (hi : i = A.length + 1) : Full (m.withP i 0) A :=
  ⟨h.le, fun j hj => ⟨(h.ent j hj).1, (withP_ne m 0 (by omega)).trans (h.ent j hj).2⟩, fun hf => (withP_ne m 0 (by omega)).trans (h.fin hf)⟩
theorem mv_put (h : Gap m A i) {e : Int × Int} (hk : m.k i = e.1) : Full (m.withP i e.2) (insA A i e) := by
  have hl := insA_len A i e
  have h8 := h.le
  have hE := fun j => insA_ent h.at_ e j
  refine ⟨by omega, fun j hj => ?_, fun hf => ?_⟩
  · rcases Nat.lt_trichotomy j i with hji | hji | hji
    · rw [((hE j).1 hji).1, ((hE j).1 hji).2]
      exact ⟨(h.low j hji).1, (withP_ne m _ (by omega)).trans (h.low j hji).2⟩
    · rw [((hE j).2.1 hji).1, ((hE j).2.1 hji).2]
      subst hji
      exact ⟨hk, withP_eq m _ _⟩
    · obtain ⟨q, rfl⟩ : ∃ q, j = q + 1 := ⟨j - 1, by omega⟩
      rw [((hE q).2.2 (by omega)).1, ((hE q).2.2 (by omega)).2]
      exact ⟨(h.high q (by omega) (by omega)).1, (withP_ne m _ (by omega)).trans (h.high q (by omega) (by omega)).2⟩
  · rw [hl] at hf ⊢
    have ha := h.at_
    exact (withP_ne m _ (by omega)).trans (h.fin hf)
theorem eK_set (A : List (Int × Int)) (i : Nat) (e : Int × Int) (j : Nat) (hi : i < A.length) : eK (A.set i e) j = (if j = i then e.1 else eK A j) ∧ eP (A.set i e) j = (if j = i then e.2 else eP A j) := by
  unfold eK eP
  by_cases h : j = i
  · subst h; simp [List.getD, hi]
  · rw [if_neg h, if_neg h]; simp [List.getD, List.getElem?_set_ne (fun e => h e.symm)]
theorem mv_swap (h : Full m A) (hi : i < A.length) (x : Int) : Full (m.withP i x) (A.set i (eK A i, x)) := by
  refine ⟨by rw [List.length_set]; exact h.le, fun j hj => ?_, fun hf => ?_⟩
  · rw [List.length_set] at hj
    rw [(eK_set A i _ j hi).1, (eK_set A i _ j hi).2]
    by_cases hji : j = i
    · subst hji; rw [if_pos rfl, if_pos rfl]; exact ⟨(h.ent j hj).1, withP_eq m _ _⟩
    · rw [if_neg hji, if_neg hji]; exact ⟨(h.ent j hj).1, (withP_ne m x hji).trans (h.ent j hj).2⟩
  · rw [List.length_set] at hf ⊢
    exact (withP_ne m x (by omega)).trans (h.fin hf)
theorem mv_cut (h : Full m A) (hi : i < A.length) : Full (m.withP i 0) (A.take i) := by
  have hl : (A.take i).length = i := by simp; omega
  have h8 := h.le
  refine ⟨by omega, fun j hj => ?_, fun hf => ?_⟩
  · rw [hl] at hj
    rw [eK_take, eP_take, if_pos hj, if_pos hj]
    exact ⟨(h.ent j (by omega)).1, (withP_ne m 0 (by omega)).trans (h.ent j (by omega)).2⟩
  · rw [hl]; exact withP_eq m _ _
end

/-! ### what a node that may be has -/
theorem may_parts {m : Nd} (h : m.mayB 0 false = true) : 0 ≤ m.lv ∧ m.lv ≤ 15 ∧ m.fi ≠ 0 ∧ m.len ≤ m.valid.length + 1 ∧ riseB m.lv m.lo m.fi m.valid = true := by
  unfold Nd.mayB at h
  simp only [Bool.and_eq_true, Bool.not_eq_true', Bool.or_eq_false_iff, decide_eq_false_iff_not, decide_eq_true_eq, beq_eq_false_iff_ne] at h
  exact ⟨by omega, by omega, h.1.1.2, h.2.1, h.2.2⟩
theorem may_fine {m : Nd} (h : m.mayB 0 false = true) : Fine m m.valid := by
  obtain ⟨a, b, c, _, d⟩ := may_parts h
  refine ⟨⟨a, b⟩, c, rises_of d, fun e he => ?_⟩
  unfold Nd.valid at he
  obtain ⟨j, hj, rfl⟩ := List.mem_map.1 he
  exact m.p_lt j (plN_lt m j hj)
theorem rep_full {m : Nd} (h : m.mayB 0 false = true) (hi : m.invalid < 0) : Full m m.valid := by
  have hall : ∀ j, j < m.len → m.ok j = true := by
    rw [inval_eq] at hi
    rcases firstF_spec (fun i => !m.ok i) m.len 0 with ⟨_, ha⟩ | ⟨j, e, _⟩
    · intro j hj; have := ha j (by omega) (by omega); simpa using this
    · unfold Nd.inval at hi; omega
  have hp : plN m = List.range m.len := by
    unfold plN
    rw [List.filter_eq_self]
    intro j hj
    exact hall j (List.mem_range.1 hj)
  have hv := valid_of hp
  have hl : m.valid.length = m.len := by rw [hv]; simp
  refine ⟨by rw [hl]; exact m.len_le, fun j hj => ?_, fun hf => ?_⟩
  · rw [hl] at hj
    rw [hv]
    simp [eK, eP, List.getD, hj]
  · rw [hl] at hf ⊢; exact m.p_len hf
theorem rep_gap {m : Nd} (h : m.mayB 0 false = true) (hi : 0 ≤ m.invalid) : ∃ i : Nat, m.invalid = i ∧ Gap m m.valid i := by
  obtain ⟨i, ei, hil⟩ := inval_lt m hi
  refine ⟨i, ei, ?_⟩
  have hno : m.ok i = false := by
    rw [inval_eq] at ei
    rcases firstF_spec (fun i => !m.ok i) m.len 0 with ⟨e, _⟩ | ⟨j, e, _, _, h2, _⟩
    · unfold Nd.inval at ei; omega
    · have : j = i := by unfold Nd.inval at ei; omega
      subst this; simpa using h2
  obtain ⟨_, _, _, hlen, _⟩ := may_parts h
  have hvl : m.valid.length = (plN m).length := by simp [Nd.valid]
  obtain ⟨n, hn⟩ : ∃ n, m.len = n + 1 := ⟨m.len - 1, by omega⟩
  have hsub : (plN m).Sublist ((List.range m.len).filter (fun j => j != i)) := by
    have e : plN m = ((List.range m.len).filter (fun j => j != i)).filter m.ok := by
      rw [List.filter_filter]
      unfold plN
      refine List.filter_congr (fun j hj => ?_)
      show m.ok j = (m.ok j && (j != i))
      by_cases hji : j = i
      · subst hji; rw [hno]; rfl
      · rw [show (j != i) = true from bne_iff_ne.2 hji, Bool.and_true]
    rw [e]; exact List.filter_sublist
  have hg : (List.range m.len).filter (fun j => j != i) = List.range i ++ List.range' (i + 1) (n - i) := by rw [hn]; exact range_gap n i (by omega)
  have hp : plN m = List.range i ++ List.range' (i + 1) (n - i) := by
    rw [← hg]
    refine hsub.eq_of_length ?_
    have h1 := hsub.length_le
    rw [hg] at h1 ⊢
    simp at h1 ⊢
    omega
  have hv := valid_of hp
  have hvn : m.valid.length = n := by rw [hv]; simp; omega
  have h8 := m.len_le
  refine ⟨by omega, by omega, fun j hj => ?_, ?_, fun j h1 h2 => ?_, fun hf => ?_⟩
  · rw [hv, List.map_append, eK_app, eP_app, if_pos (by simpa using hj), if_pos (by simpa using hj)]
    simp [eK, eP, List.getD, hj]
  · unfold Nd.ok at hno
    simpa using hno
  · rw [hvn] at h2
    have hx : (List.range' (i + 1) (n - i))[j - i]? = some (j + 1) := by
      rw [List.getElem?_range' (by omega)]; congr 1; omega
    rw [hv, List.map_append, eK_app, eP_app, if_neg (by simpa using h1), if_neg (by simpa using h1)]
    simp [eK, eP, List.getD, hx]
  · rw [hvn] at hf ⊢; rw [← hn]; exact m.p_len (by omega)
end Go.Proofs.Ytgmbnoimlffgcaa
namespace Go.Proofs.Ytgmbnoimlffgcaa
open Go.RowKit

theorem insert_v (base : Int) (n : Nd) (key ptr : Int) (w : World) :
    Calls Try.prog 59 #[.int .u64 base, .agg (ndCells n), .int .u64 key, .int .u64 ptr] w fun e w' => MadeP (insP base n key ptr) (insE base n key ptr) w e w' := by
  have none_ : ∀ c, c ≠ 0 → insE base n key ptr = c → insP base n key ptr = [] := fun c hc h => by unfold insP; rw [h, if_neg hc]
  by_cases h2 : mayE base n = 2
  · have hE : insE base n key ptr = 2 := by unfold insE; rw [if_pos (.inl h2)]
    rw [none_ 2 (by decide) hE, hE]
    exact insert_arg base n key ptr w h2
  by_cases hf : freshB n ptr = false
  · have hE : insE base n key ptr = 2 := by unfold insE; rw [if_pos (.inr hf)]
    rw [none_ 2 (by decide) hE, hE]
    exact insert_old base n key ptr w h2 hf
  have hft : freshB n ptr = true := by simpa using hf
  have h2f : ¬ (mayE base n = 2 ∨ freshB n ptr = false) := fun h => h.elim h2 hf
  by_cases h0 : mayE base n = 0
  · by_cases hb : badKey n key = true
    · have hE : insE base n key ptr = 2 := by unfold insE; rw [if_neg h2f, if_neg (by omega), if_pos hb]
      rw [none_ 2 (by decide) hE, hE]
      unfold badKey at hb
      by_cases b1 : decide (0 ≤ n.find key) = true
      · exact insert_bad1 base n key ptr w h0 hft b1
      · have b1' : decide (0 ≤ n.find key) = false := by simpa using b1
        by_cases b2 : decide (key < n.lo) = true
        · exact insert_bad2 base n key ptr w h0 hft b1' b2
        · have b2' : decide (key < n.lo) = false := by simpa using b2
          rw [b1', b2', Bool.false_or, Bool.false_or, Bool.and_eq_true] at hb
          exact insert_bad3 base n key ptr w h0 hft b1' b2' hb.1 hb.2
    · have hbf : badKey n key = false := by simpa using hb
      by_cases h8 : n.len = 8
      · have hE : insE base n key ptr = 4 := by unfold insE; rw [if_neg h2f, if_neg (by omega), if_neg hb, if_pos h8]
        rw [none_ 4 (by decide) hE, hE]
        exact insert_full base n key ptr w h0 hft hbf h8
      · have hE : insE base n key ptr = 0 := by unfold insE; rw [if_neg h2f, if_neg (by omega), if_neg hb, if_neg h8]
        have hP : insP base n key ptr = insL base n key ptr (n.last key + 1).toNat := by unfold insP; rw [if_pos hE]
        rw [hP, hE]
        exact insert_ok base n key ptr w h0 hft hbf (by have := n.len_le; omega)
  · have hE : insE base n key ptr = mayE base n := by unfold insE; rw [if_neg h2f, if_pos h0]
    rw [none_ (mayE base n) h0 hE, hE]
    exact insert_state base n key ptr w h2 h0 hft
end Go.Proofs.Ytgmbnoimlffgcaa
namespace Go.Proofs.Ytgmbnoimlffgcaa
open Go.RowKit

section
variable {P : Program}
end
theorem wp_load_nd {o : Oper} {a : Act} {w : World} {K : Act → World → Prop} {Q : Exit → Act → World → Prop} (x : Operand) (ho : o.op = .load 40 x)
    (g : Nat) (n : Nd) (hx : a.eval x = .pointer (some ⟨g, 0, none⟩)) (hb : Blk w g (ndCells n) 40) (h : K (a.put o.dst (.agg (ndCells n))) w) : Oper.wp Try.prog o a w K Q :=
  wp_ld_part 40 x ho g 0 hx (ndCells n) _ (ndLoad hb) Try.underlying40 rfl (info27 n) h
theorem wp_store_nd {o : Oper} {a : Act} {w : World} {K : Act → World → Prop} {Q : Exit → Act → World → Prop} (x y : Operand) (ho : o.op = .store 40 x y)
    (g : Nat) (m n : Nd) (hx : a.eval x = .pointer (some ⟨g, 0, none⟩)) (hy : a.eval y = .agg (ndCells m)) (hg : Blk w g (ndCells n) 40)
    (h : K (a.put o.dst undef) (w.setRow g (ndCells m))) : Oper.wp Try.prog o a w K Q :=
  wp_store_row 40 x y ho g (ndCells m) hx hy 40 (ndCells n) hg (info27 m) (by rw [ndCells_size, ndCells_size]) (ndCells_one m) h
end Go.Proofs.Ytgmbnoimlffgcaa
namespace Go.Proofs.Ytgmbnoimlffgcaa
open Go.RowKit
set_option linter.unusedVariables false

def repE (base : Int) (n : Nd) : Int := if mayE base n = 2 then 2 else if mayE base n = 0 then 7 else 0
def repL (base : Int) (n : Nd) (p : Nat) : List (Int × Int) :=
  [(base + 24, cOne n)] ++ gapL base n p (n.len - 1 - p) ++ [(base + 64 + 16 * ((n.len - 1 : Nat) : Int) + 8, 0)] ++ [(base + 24, cTwo n)]
def repP (base : Int) (n : Nd) : List (Int × Int) := if repE base n = 0 then repL base n n.invalid.toNat else []
theorem mayE_val (base : Int) (n : Nd) : mayE base n = 0 ∨ mayE base n = 2 ∨ (mayE base n = 7 ∧ Stands base ∧ n.mayB 0 false = true ∧ 0 ≤ n.invalid) := by
  unfold mayE
  split
  · rename_i h
    split
    · rename_i h2; exact .inr (.inr ⟨rfl, h.1, h.2, h2⟩)
    · exact .inl rfl
  · exact .inr (.inl rfl)

end Go.Proofs.Ytgmbnoimlffgcaa
namespace Go.Proofs.Ytgmbnoimlffgcaa
open Go.RowKit
set_option linter.unusedVariables false

def madeL (base : Int) (n : Nd) (kd key ptr : Int) : List (Int × Int) :=
  if kd = 0 then insP base n key ptr else if kd = 1 then delP base n key else if kd = 2 then repP base n else if kd = 3 then swapP base n key ptr else if kd = 4 then cutP base n key else linkP base n ptr
def madeC (base : Int) (n : Nd) (kd key ptr : Int) : Int :=
  if kd = 0 then insE base n key ptr else if kd = 1 then delE base n key else if kd = 2 then repE base n else if kd = 3 then swapE base n key ptr else if kd = 4 then cutE base n key else mayE base n
theorem MadeP.keep {l : List (Int × Int)} {c : Int} {w w1 w' : World} {e : Ending} (h : MadeP l c w1 e w') (hB : Below w.heap.size w w1) : MadeP l c w e w' := by
  obtain ⟨a, m, cc, h1, h2, h3, h4⟩ := h
  exact ⟨a, m, cc, h1, h2, own_mono h3 hB.size, hB.trans (h4.mono hB.size)⟩
end Go.Proofs.Ytgmbnoimlffgcaa
namespace Go.Proofs.Ytgmbnoimlffgcaa
open Go.RowKit
set_option linter.unusedVariables false

/-- stores behind each of which the node may be, and has these entries -/
def Stay (base : Int) (v : List (Int × Int)) : Nd → List (Int × Int) → Nd → Prop
  | m, [], m' => m' = m
  | m, s :: r, m' => ∃ q, putA base m s.1 s.2 = some q ∧ q.mayB 0 false = true ∧ q.valid = v ∧ Stay base v q r m'
theorem Stay.app {base : Int} {v : List (Int × Int)} : ∀ {L1 L2 : List (Int × Int)} {m m1 m2 : Nd}, Stay base v m L1 m1 → Stay base v m1 L2 m2 → Stay base v m (L1 ++ L2) m2
  | [], L2, m, m1, m2, h1, h2 => by cases h1; exact h2
  | s :: r, L2, m, m1, m2, ⟨q, a, b, c, d⟩, h2 => ⟨q, a, b, c, Stay.app d h2⟩
theorem Stay.one {base : Int} {v : List (Int × Int)} {m q : Nd} {s : Int × Int} (h : putA base m s.1 s.2 = some q) (h1 : q.mayB 0 false = true) (h2 : q.valid = v) : Stay base v m [s] q := ⟨q, h, h1, h2, rfl⟩
theorem putA_ptr' (base : Int) (n : Nd) (i : Nat) (x : Int) (h : i < 8) : putA base n (base + 64 + 16 * (i : Int) + 8) x = some (n.withP i x) := by
  rw [show base + 64 + 16 * (i : Int) + 8 = base + 72 + 16 * (i : Int) by omega]
  exact putA_ptr base n i x h
section
variable {base : Int} {m : Nd} {A : List (Int × Int)} {i : Nat}
theorem Fine.env {n : Nd} (h : Fine n A) (h1 : m.lv = n.lv) (h2 : m.lo = n.lo) (h3 : m.fi = n.fi) : Fine m A := ⟨by rw [h1]; exact h.lv, by rw [h3]; exact h.fi, by rw [h1, h2, h3]; exact h.rises, h.nz⟩
theorem Fine.withP (h : Fine m A) (i : Nat) (x : Int) : Fine (m.withP i x) A := ⟨h.lv, h.fi, h.rises, h.nz⟩
theorem Fine.withK (h : Fine m A) (i : Nat) (x : Int) : Fine (m.withK i x) A := ⟨h.lv, h.fi, h.rises, h.nz⟩
theorem Fine.ct (h : Fine m A) (x : Int) : Fine { m with ct := x } A := ⟨h.lv, h.fi, h.rises, h.nz⟩
theorem Fine.nx (h : Fine m A) (x : Int) : Fine { m with nx := x } A := ⟨h.lv, h.fi, h.rises, h.nz⟩
theorem Full.ct (h : Full m A) (x : Int) : Full { m with ct := x } A := ⟨h.le, h.ent, h.fin⟩
theorem Full.nx (h : Full m A) (x : Int) : Full { m with nx := x } A := ⟨h.le, h.ent, h.fin⟩
theorem Gap.ct (h : Gap m A i) (x : Int) : Gap { m with ct := x } A i := by
  refine ⟨h.le, h.at_, h.low, ?_, h.high, h.fin⟩
  have := h.gap
  cases i <;> exact this
theorem Full.stay_ct (h : Full m A) (hf : Fine m A) (x : Int) : Stay base A m [(base + 24, x)] { m with ct := x } :=
  .one (putA_24 base m x) ((h.ct x).may (hf.ct x)) ((h.ct x).valid (hf.ct x))
theorem Gap.stay_ct (h : Gap m A i) (hf : Fine m A) (x : Int) : Stay base A m [(base + 24, x)] { m with ct := x } :=
  .one (putA_24 base m x) ((h.ct x).may (hf.ct x)) ((h.ct x).valid (hf.ct x))
/-- a gap moved up -/
theorem gap_run {n : Nd} {p : Nat} (hn : ∀ t, p ≤ t → t < A.length → n.k (t + 1) = eK A t ∧ n.p (t + 1) = eP A t) : ∀ (j : Nat) (m : Nd), p + j ≤ A.length → Gap m A p → Fine m A → ∃ m', Stay base A m (gapL base n p j) m' ∧ Gap m' A (p + j) ∧ Fine m' A
  | 0, m, _, h, hf => ⟨m, rfl, h, hf⟩
  | j + 1, m, hj, h, hf => by
    obtain ⟨m1, h1, g1, f1⟩ := gap_run hn j m (by omega) h hf
    have h8 := g1.le
    obtain ⟨e1, e2⟩ := hn (p + j) (by omega) (by omega)
    have g2 := mv_key g1 (n.k (p + j + 1))
    have f2 := f1.withK (p + j) (n.k (p + j + 1))
    have g3 := mv_up g2 (by omega) ((withK_eq m1 (p + j) _).trans e1) e2
    have f3 := f2.withP (p + j) (n.p (p + j + 1))
    refine ⟨_, ?_, g3, f3⟩
    rw [gapL]
    refine h1.app (Stay.app (L1 := [_]) (L2 := [_]) (Stay.one ?_ (g2.may f2) (g2.valid f2)) (Stay.one ?_ (g3.may f3) (g3.valid f3)))
    · exact putA_key base m1 (p + j) _ (by omega)
    · exact putA_ptr' base _ (p + j) _ (by omega)
/-- .. and shut -/
theorem shut_run {n : Nd} {p q : Nat} (hn : ∀ t, p ≤ t → t < A.length → n.k (t + 1) = eK A t ∧ n.p (t + 1) = eP A t) (hq : q = A.length) (h : Gap m A p) (hf : Fine m A) (c : Int) :
    ∃ m', Stay base A m (gapL base n p (q - p) ++ [(base + 64 + 16 * (q : Int) + 8, 0)] ++ [(base + 24, c)]) m' ∧ Full m' A ∧ Fine m' A := by
  subst hq
  have ha := h.at_
  obtain ⟨m1, h1, g1, f1⟩ := gap_run (base := base) hn (A.length - p) m (by omega) h hf
  have h8 := g1.le
  rw [show p + (A.length - p) = A.length by omega] at g1
  have g2 := mv_shut g1 rfl
  have f2 := f1.withP A.length 0
  exact ⟨_, (h1.app (.one (putA_ptr' base m1 A.length 0 (by omega)) (g2.may f2) (g2.valid f2))).app (g2.stay_ct f2 c), g2.ct c, f2.ct c⟩
/-- ready to lay the pointer of the place many - j -/
def Ready (n : Nd) (A : List (Int × Int)) (j : Nat) (m : Nd) : Prop :=
  (j = 0 ∧ Full m A ∧ (A.length + 1 < 8 → m.p (A.length + 1) = 0)) ∨ (0 < j ∧ Gap m A (A.length - j + 1) ∧ m.k (A.length - j + 1) = eK A (A.length - j))
theorem Ready.ptr {n : Nd} {j : Nat} (h : Ready n A j m) (hj : j ≤ A.length) (h8 : A.length < 8) {x : Int} (hx : x = m.ahead (A.length - j)) : Gap (m.withP (A.length - j) x) A (A.length - j) := by
  rcases h with ⟨rfl, h1, h2⟩ | ⟨h0, h1, h2⟩
  · exact mv_begin h1 h8 h2 (by omega) hx
  · exact mv_down h1 h2 hx
theorem Ready.low {n : Nd} {j : Nat} (h : Ready n A j m) (hj : j ≤ A.length) (t : Nat) (ht : t < A.length - j) : m.p t = eP A t := by
  rcases h with ⟨rfl, h1, h2⟩ | ⟨h0, h1, h2⟩
  · exact (h1.ent t (by omega)).2
  · exact (h1.low t (by omega)).2
theorem shift_run {n : Nd} (hn : Full n A) (h8 : A.length < 8) : ∀ (j : Nat) (m : Nd), j ≤ A.length → Ready n A 0 m → Fine m A → ∃ m', Stay base A m (shiftL base n A.length j) m' ∧ Ready n A j m' ∧ Fine m' A ∧ m'.lv = m.lv ∧ m'.lo = m.lo ∧ m'.fi = m.fi
  | 0, m, _, h, hf => ⟨m, rfl, h, hf, rfl, rfl, rfl⟩
  | j + 1, m, hj, h, hf => by
    obtain ⟨m1, h1, r1, f1, e1⟩ := shift_run hn h8 j m (by omega) h hf
    obtain ⟨i, hi⟩ : ∃ i, A.length - j = i + 1 := ⟨A.length - j - 1, by omega⟩
    have hx : n.p i = m1.ahead (A.length - j) := by
      rw [hi]
      show n.p i = m1.p i
      rw [r1.low (by omega) i (by omega), (hn.ent i (by omega)).2]
    have g2 := r1.ptr (by omega) h8 hx
    have f2 := f1.withP (A.length - j) (n.p i)
    have g3 := mv_key g2 (n.k i)
    have f3 := f2.withK (A.length - j) (n.k i)
    refine ⟨_, ?_, .inr ⟨by omega, ?_, ?_⟩, f3, e1⟩
    · rw [shiftL, show A.length - j - 1 = i by omega]
      refine h1.app (Stay.app (L1 := [_]) (L2 := [_]) (Stay.one ?_ (g2.may f2) (g2.valid f2)) (Stay.one ?_ (g3.may f3) (g3.valid f3)))
      · exact putA_ptr' base m1 _ _ (by omega)
      · exact putA_key base _ _ _ (by omega)
    · rw [show A.length - (j + 1) + 1 = A.length - j by omega]; exact g3
    · rw [show A.length - (j + 1) + 1 = A.length - j by omega, withK_eq, show A.length - (j + 1) = i by omega]
      exact (hn.ent i (by omega)).1
end
end Go.Proofs.Ytgmbnoimlffgcaa
