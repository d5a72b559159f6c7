/-
  THE RUN OF EACH CHANGE: where its effect is; what was, what is to be. (Plain.)
-/
import Derived.Test.YtgmbnoimlffgcaaPcN
namespace Go.Proofs.Ytgmbnoimlffgcaa
open Go.RowKit
set_option linter.unusedVariables false

/-! ### a node's entries behind a change, as the law has them -/
def behF (kd key ptr : Int) (st : List (Int × Int) × Bool) (e : Int × Int) : List (Int × Int) × Bool :=
  let st1 := if (st.2 && decide (key < e.1)) = true then (st.1 ++ [(key, ptr)], false) else st
  if kd = 1 ∧ e.1 = key then st1 else if kd = 3 ∧ e.1 = key then (st1.1 ++ [(key, ptr)], st1.2) else if kd = 4 ∧ key ≤ e.1 then st1 else (st1.1 ++ [e], st1.2)
def behL (kd key ptr : Int) (l : List (Int × Int)) : List (Int × Int) :=
  let st := l.foldl (behF kd key ptr) ([], decide (kd = 0))
  if st.2 = true then st.1 ++ [(key, ptr)] else st.1
def behE (kd key ptr : Int) (e : Int × Int) : List (Int × Int) := if kd = 1 ∧ e.1 = key then [] else if kd = 3 ∧ e.1 = key then [(key, ptr)] else if kd = 4 ∧ key ≤ e.1 then [] else [e]
theorem beh_other {kd key ptr : Int} : ∀ (l acc : List (Int × Int)), l.foldl (behF kd key ptr) (acc, false) = (acc ++ l.flatMap (behE kd key ptr), false)
  | [], acc => by simp
  | e :: r, acc => by
    rw [List.foldl_cons, List.flatMap_cons]
    have : behF kd key ptr (acc, false) e = (acc ++ behE kd key ptr e, false) := by
      unfold behF behE
      simp only [Bool.false_and, Bool.false_eq_true, if_false]
      split
      · simp
      split
      · rfl
      split
      · simp
      · rfl
    rw [this, beh_other r, List.append_assoc]
theorem behL_other {kd key ptr : Int} (h : kd ≠ 0) (l : List (Int × Int)) : behL kd key ptr l = l.flatMap (behE kd key ptr) := by
  unfold behL
  rw [decide_eq_false h, beh_other]
  simp
theorem flat_id {f : Int × Int → List (Int × Int)} : ∀ (l : List (Int × Int)), (∀ e ∈ l, f e = [e]) → l.flatMap f = l
  | [], _ => rfl
  | e :: r, h => by rw [List.flatMap_cons, h e (by simp), flat_id r (fun x hx => h x (by simp [hx]))]; rfl
theorem flat_nil {f : Int × Int → List (Int × Int)} : ∀ (l : List (Int × Int)), (∀ e ∈ l, f e = []) → l.flatMap f = []
  | [], _ => rfl
  | e :: r, h => by rw [List.flatMap_cons, h e (by simp), flat_nil r (fun x hx => h x (by simp [hx]))]; rfl
theorem beh_low {key ptr : Int} : ∀ (l acc : List (Int × Int)), (∀ e ∈ l, e.1 ≤ key) → l.foldl (behF 0 key ptr) (acc, true) = (acc ++ l, true)
  | [], acc, _ => by simp
  | e :: r, acc, h => by
    rw [List.foldl_cons]
    have he := h e (by simp)
    have : behF 0 key ptr (acc, true) e = (acc ++ [e], true) := by
      unfold behF
      rw [decide_eq_false (by omega : ¬ key < e.1)]
      simp
    rw [this, beh_low r _ (fun x hx => h x (by simp [hx]))]
    simp
theorem beh_id0 {key ptr : Int} (l acc : List (Int × Int)) : l.foldl (behF 0 key ptr) (acc, false) = (acc ++ l, false) := by
  rw [beh_other, flat_id l (fun e _ => by unfold behE; simp)]
theorem behL_ins {key ptr : Int} (X Y : List (Int × Int)) (hx : ∀ e ∈ X, e.1 ≤ key) (hy : ∀ e ∈ Y, key < e.1) : behL 0 key ptr (X ++ Y) = X ++ (key, ptr) :: Y := by
  unfold behL
  rw [List.foldl_append, show decide ((0 : Int) = 0) = true from rfl, beh_low X [] hx, List.nil_append]
  cases Y with
  | nil => simp
  | cons e r =>
    rw [List.foldl_cons]
    have he := hy e (by simp)
    have : behF 0 key ptr (X, true) e = (X ++ [(key, ptr)] ++ [e], false) := by
      unfold behF
      rw [decide_eq_true he]
      simp
    rw [this, beh_id0]
    simp
/-- a list about one of its entries -/
theorem split_at {A : List (Int × Int)} {i : Nat} (h : i < A.length) : A = A.take i ++ (eK A i, eP A i) :: A.drop (i + 1) := by
  rw [← ent_get h, ← List.drop_eq_getElem_cons h, List.take_append_drop]
theorem take_mem {A : List (Int × Int)} {i : Nat} {e : Int × Int} (h : e ∈ A.take i) : ∃ j, j < i ∧ j < A.length ∧ eK A j = e.1 ∧ eP A j = e.2 := by
  obtain ⟨j, hj, e1, e2⟩ := mem_ent h
  have hj' : j < i ∧ j < A.length := by simp at hj; omega
  rw [eK_take, if_pos hj'.1] at e1
  rw [eP_take, if_pos hj'.1] at e2
  exact ⟨j, hj'.1, hj'.2, e1, e2⟩
theorem drop_mem {A : List (Int × Int)} {i : Nat} {e : Int × Int} (h : e ∈ A.drop i) : ∃ j, i ≤ j ∧ j < A.length ∧ eK A j = e.1 ∧ eP A j = e.2 := by
  obtain ⟨j, hj, e1, e2⟩ := mem_ent h
  rw [eK_drop] at e1
  rw [eP_drop] at e2
  have : j < A.length - i := by simpa using hj
  exact ⟨i + j, by omega, by omega, e1, e2⟩
section
variable {m : Nd} {A : List (Int × Int)} {i : Nat}
theorem behL_del (hf : Fine m A) (hi : i < A.length) {key : Int} (ptr : Int) (hk : eK A i = key) : behL 1 key ptr A = A.eraseIdx i := by
  rw [behL_other (by decide)]
  conv => lhs; rw [split_at hi]
  rw [List.flatMap_append, List.flatMap_cons, List.eraseIdx_eq_take_drop_succ]
  rw [flat_id, flat_id]
  · unfold behE; rw [if_pos ⟨rfl, hk⟩]; simp
  · intro e he
    obtain ⟨j, h1, h2, h3, _⟩ := drop_mem he
    have := hf.key (show i < j by omega) h2
    unfold behE
    rw [if_neg (by rw [← h3]; omega), if_neg (by rw [← h3]; omega), if_neg (by omega)]
  · intro e he
    obtain ⟨j, h1, h2, h3, _⟩ := take_mem he
    have := hf.key h1 hi
    unfold behE
    rw [if_neg (by rw [← h3]; omega), if_neg (by rw [← h3]; omega), if_neg (by omega)]
theorem behL_swap (hf : Fine m A) (hi : i < A.length) {key ptr : Int} (hk : eK A i = key) : behL 3 key ptr A = A.set i (key, ptr) := by
  rw [behL_other (by decide)]
  conv => lhs; rw [split_at hi]
  rw [List.flatMap_append, List.flatMap_cons, List.set_eq_take_append_cons_drop, if_pos hi]
  rw [flat_id, flat_id]
  · unfold behE; rw [if_neg (by omega), if_pos ⟨rfl, hk⟩]; simp
  · intro e he
    obtain ⟨j, h1, h2, h3, _⟩ := drop_mem he
    have := hf.key (show i < j by omega) h2
    unfold behE
    rw [if_neg (by omega), if_neg (by rw [← h3]; omega), if_neg (by omega)]
  · intro e he
    obtain ⟨j, h1, h2, h3, _⟩ := take_mem he
    have := hf.key h1 hi
    unfold behE
    rw [if_neg (by omega), if_neg (by rw [← h3]; omega), if_neg (by omega)]
theorem behL_cut (hf : Fine m A) (hi : i < A.length) {key : Int} (ptr : Int) (hk : key ≤ eK A i) (hl : ∀ j, j < i → eK A j < key) : behL 4 key ptr A = A.take i := by
  rw [behL_other (by decide)]
  conv => lhs; rw [← List.take_append_drop i A]
  rw [List.flatMap_append, flat_id, flat_nil]
  · simp
  · intro e he
    obtain ⟨j, h1, h2, h3, _⟩ := drop_mem he
    have : eK A i ≤ eK A j := by
      by_cases hij : i = j
      · subst hij; exact Int.le_refl _
      · exact Int.le_of_lt (hf.key (by omega) h2)
    unfold behE
    rw [if_neg (by omega), if_neg (by omega), if_pos ⟨rfl, by rw [← h3]; omega⟩]
  · intro e he
    obtain ⟨j, h1, h2, h3, _⟩ := take_mem he
    have := hl j h1
    unfold behE
    rw [if_neg (by omega), if_neg (by omega), if_neg (by rw [← h3]; omega)]
theorem behL_same {kd : Int} (h : kd = 2 ∨ kd = 5) (key ptr : Int) (A : List (Int × Int)) : behL kd key ptr A = A := by
  rw [behL_other (by omega), flat_id]
  intro e _
  unfold behE
  rw [if_neg (by omega), if_neg (by omega), if_neg (by omega)]
end
end Go.Proofs.Ytgmbnoimlffgcaa
namespace Go.Proofs.Ytgmbnoimlffgcaa
open Go.RowKit
set_option linter.unusedVariables false

/-- a change's run: its effect at a store, or none -/
def Traj (base : Int) (n : Nd) (was now : List (Int × Int)) (L : List (Int × Int)) : Option Nat → Prop
  | none => ∃ m3, Stay base was n L m3 ∧ was = now ∧ Full m3 now ∧ Fine m3 now
  | some t => ∃ L1 s L2 m1 m2 m3, L = L1 ++ s :: L2 ∧ L1.length = t ∧ Stay base was n L1 m1 ∧ putA base m1 s.1 s.2 = some m2 ∧ m2.mayB 0 false = true ∧ m2.valid = now ∧ was ≠ now ∧ Stay base now m2 L2 m3 ∧ Full m3 now ∧ Fine m3 now
theorem lastF_spec9 (t : Nat → Bool) : ∀ m, (∀ i, i < m → t i = true → (i : Int) ≤ lastF t m) ∧ (0 ≤ lastF t m → ∃ j : Nat, lastF t m = j ∧ j < m ∧ t j = true)
  | 0 => ⟨fun i hi => by omega, fun h => by simp [lastF] at h⟩
  | m + 1 => by
    obtain ⟨h1, h2⟩ := lastF_spec9 t m
    unfold lastF
    by_cases hm : t m = true
    · rw [if_pos hm]
      exact ⟨fun i hi _ => by omega, fun _ => ⟨m, rfl, by omega, hm⟩⟩
    · rw [if_neg hm]
      refine ⟨fun i hi ht => ?_, fun h => ?_⟩
      · rcases Nat.lt_succ_iff_lt_or_eq.1 hi with h | h
        · exact h1 i h ht
        · subst h; exact absurd ht hm
      · obtain ⟨j, e, hj, ht⟩ := h2 h
        exact ⟨j, e, by omega, ht⟩
section
variable {base : Int} {n : Nd} {A : List (Int × Int)}
theorem last_split (h : Full n A) (hf : Fine n A) (key : Int) : ∃ at_ : Nat, (n.last key + 1).toNat = at_ ∧ at_ ≤ A.length ∧ (∀ j, j < at_ → eK A j ≤ key) ∧ ∀ j, at_ ≤ j → j < A.length → key < eK A j := by
  obtain ⟨s1, s2⟩ := lastF_spec9 (fun i => n.ok i && decide (n.k i ≤ key)) n.len
  have hl := h.len hf
  have hg := last_ge n key
  refine ⟨_, rfl, by omega, fun j hj => ?_, fun j h1 h2 => ?_⟩
  · obtain ⟨q, e, hq, ht⟩ := s2 (by unfold Nd.last at hj; omega)
    simp only [Bool.and_eq_true, decide_eq_true_eq] at ht
    have e' : n.last key = q := e
    rw [(h.ent q (by omega)).1] at ht
    by_cases hjq : j = q
    · subst hjq; exact ht.2
    · have := hf.key (show j < q by omega) (by omega)
      omega
  · have hno : ¬ eK A j ≤ key := fun hle => by
      have := s1 j (by omega) (by simp only [Bool.and_eq_true, decide_eq_true_eq]; exact ⟨h.ok hf j h2, by rw [(h.ent j h2).1]; exact hle⟩)
      have e' : (j : Int) ≤ n.last key := this
      omega
    omega
theorem find_split (h : Full n A) (hf : Fine n A) (key : Int) : (n.find key < 0 ∧ ∀ j, j < A.length → eK A j ≠ key) ∨ ∃ i : Nat, n.find key = i ∧ i < A.length ∧ eK A i = key := by
  have hl := h.len hf
  rcases firstF_spec (fun i => n.ok i && (n.k i == key)) n.len 0 with ⟨e, ha⟩ | ⟨j, e, _, h2, h3, _⟩
  · refine .inl ⟨by unfold Nd.find; omega, fun j hj hk => ?_⟩
    have := ha j (by omega) (by omega)
    simp only [h.ok hf j hj, Bool.true_and, beq_eq_false_iff_ne] at this
    exact this ((h.ent j hj).1.trans hk)
  · simp only [Bool.and_eq_true, beq_iff_eq] at h3
    have hj : j < A.length := by omega
    exact .inr ⟨j, e, hj, by rw [← (h.ent j hj).1]; exact h3.2⟩
theorem fresh_split (h : Full n A) (hf : Fine n A) {p : Int} (hp : freshB n p = true) : p ≠ 0 ∧ p ≠ n.fi ∧ ∀ e ∈ A, e.2 ≠ p := by
  unfold freshB at hp
  simp only [Bool.and_eq_true, bne_iff_ne, Bool.not_eq_true'] at hp
  refine ⟨hp.1.1, hp.1.2, fun e he => ?_⟩
  obtain ⟨j, hj, _, e2⟩ := mem_ent he
  have := List.any_eq_false.1 hp.2 j (List.mem_range.2 (by rw [h.len hf]; exact hj))
  rw [(h.ent j hj).2, e2] at this
  simp at this
  exact fun q => this q.symm
theorem Fine.sub {B : List (Int × Int)} (h : Fine n A) (hs : B.Sublist A) : Fine n B := ⟨h.lv, h.fi, h.rises.sub hs, fun e he => h.nz e (hs.subset he)⟩

theorem traj_link (h : Full n A) (hf : Fine n A) (c1 c2 x : Int) : Traj base n A A [(base + 24, c1), (base + 16, x), (base + 24, c2)] none := by
  have h1 := h.ct c1
  have f1 := hf.ct c1
  have h2 := h1.nx x
  have f2 := f1.nx x
  exact ⟨_, (h.stay_ct hf c1).app (L2 := [_, _]) (Stay.app (L1 := [_]) (.one (putA_16 base _ x) (h2.may f2) (h2.valid f2)) (h2.stay_ct f2 c2)), rfl, h2.ct c2, f2.ct c2⟩
theorem traj_one {B : List (Int × Int)} {m2 : Nd} {s : Int × Int} (h : Full n A) (hf : Fine n A) (c1 c2 : Int) (hp : putA base { n with ct := c1 } s.1 s.2 = some m2) (h2 : Full m2 B) (f2 : Fine m2 B) (hne : A ≠ B) :
    Traj base n A B [(base + 24, c1), s, (base + 24, c2)] (some 1) :=
  ⟨[(base + 24, c1)], s, [(base + 24, c2)], _, m2, _, rfl, rfl, h.stay_ct hf c1, hp, h2.may f2, h2.valid f2, hne, h2.stay_ct f2 c2, h2.ct c2, f2.ct c2⟩
theorem traj_swap (h : Full n A) (hf : Fine n A) (c1 c2 : Int) {i : Nat} (hi : i < A.length) {p : Int} (hp : freshB n p = true) : Traj base n A (A.set i (eK A i, p)) [(base + 24, c1), (base + 64 + 16 * (i : Int) + 8, p), (base + 24, c2)] (some 1) := by
  obtain ⟨p0, p1, p2⟩ := fresh_split h hf hp
  have h8 := h.le
  have h2 := mv_swap (h.ct c1) hi p
  have hset : A.set i (eK A i, p) = A.take i ++ (eK A i, p) :: A.drop (i + 1) := by rw [List.set_eq_take_append_cons_drop, if_pos hi]
  have hA := split_at hi
  have hr := hf.rises
  have hsub : (A.take i ++ A.drop (i + 1)).Sublist A := by
    conv => rhs; rw [hA]
    exact List.Sublist.append_left (List.sublist_cons_self _ _) _
  have f2 : Fine (({ n with ct := c1 } : Nd).withP i p) (A.set i (eK A i, p)) := by
    refine ⟨hf.lv, hf.fi, ?_, ?_⟩
    · rw [hset]
      refine Rises.mid (hr.sub hsub) ⟨(hr.1 _ (ent_mem hi)).1, (hr.1 _ (ent_mem hi)).2.1, p1⟩ (fun a ha => ?_) (fun b hb => ?_)
      · obtain ⟨j, h1, h2, h3, h4⟩ := take_mem ha
        exact ⟨by rw [← h3]; exact hf.key h1 hi, p2 a (List.mem_of_mem_take ha)⟩
      · obtain ⟨j, h1, h2, h3, h4⟩ := drop_mem hb
        exact ⟨by rw [← h3]; exact hf.key (by omega) h2, fun e => p2 b (List.mem_of_mem_drop hb) e.symm⟩
    · intro e he
      rcases List.mem_or_eq_of_mem_set he with h | rfl
      · exact hf.nz e h
      · exact p0
  refine traj_one h hf c1 c2 (putA_ptr' base _ i p (by omega)) h2 f2 (fun e => ?_)
  have := congrArg (fun l => eP l i) e
  simp only [(eK_set A i _ i hi).2, if_true] at this
  exact p2 _ (ent_mem hi) this
theorem traj_cut (h : Full n A) (hf : Fine n A) (c1 c2 : Int) {i : Nat} (hi : i < A.length) : Traj base n A (A.take i) [(base + 24, c1), (base + 64 + 16 * (i : Int) + 8, 0), (base + 24, c2)] (some 1) := by
  have h8 := h.le
  have h2 := mv_cut (h.ct c1) hi
  have f2 : Fine (({ n with ct := c1 } : Nd).withP i 0) (A.take i) := (hf.sub (List.take_sublist _ _) : Fine n (A.take i)).ct c1 |>.withP i 0
  refine traj_one h hf c1 c2 (putA_ptr' base _ i 0 (by omega)) h2 f2 (fun e => ?_)
  have := congrArg List.length e
  simp at this
  omega
theorem traj_del (h : Full n A) (hf : Fine n A) (c1 c2 : Int) {i q : Nat} (hi : i < A.length) (hq : A.length = q + 1) :
    Traj base n A (A.eraseIdx i) ([(base + 24, c1)] ++ [(base + 64 + 16 * (i : Int) + 8, n.ahead i)] ++ gapL base n i (q - i) ++ [(base + 64 + 16 * (q : Int) + 8, 0)] ++ [(base + 24, c2)]) (some 1) := by
  have h8 := h.le
  have g2 := mv_open (h.ct c1) hi (x := n.ahead i) (by cases i <;> rfl)
  have f2 : Fine (({ n with ct := c1 } : Nd).withP i (n.ahead i)) (A.eraseIdx i) := (hf.sub (List.eraseIdx_sublist _ _) : Fine n (A.eraseIdx i)).ct c1 |>.withP i _
  have hl : (A.eraseIdx i).length = q := by rw [List.length_eraseIdx, if_pos hi]; omega
  obtain ⟨m3, s3, h3, f3⟩ := shut_run (base := base) (n := n) (p := i) (q := q) (c := c2) (fun t h1 h2 => by
    rw [eK_erase, eP_erase, if_neg (by omega), if_neg (by omega)]
    exact h.ent (t + 1) (by omega)) hl.symm g2 f2
  refine ⟨[(base + 24, c1)], (base + 64 + 16 * (i : Int) + 8, n.ahead i), gapL base n i (q - i) ++ [(base + 64 + 16 * (q : Int) + 8, 0)] ++ [(base + 24, c2)], _, _, m3, by simp, rfl, h.stay_ct hf c1, putA_ptr' base _ i _ (by omega), g2.may f2, g2.valid f2, fun e => ?_, s3, h3, f3⟩
  have := congrArg List.length e
  omega
theorem traj_rep {p q : Nat} (h : Gap n A p) (hf : Fine n A) (c1 c2 : Int) (hq : q = A.length) :
    Traj base n A A ([(base + 24, c1)] ++ gapL base n p (q - p) ++ [(base + 64 + 16 * (q : Int) + 8, 0)] ++ [(base + 24, c2)]) none := by
  obtain ⟨m3, s3, h3, f3⟩ := shut_run (base := base) (n := n) (p := p) (q := q) (c := c2) (fun t h1 h2 => h.high t h1 h2) hq (h.ct c1) (hf.ct c1)
  exact ⟨m3, by
    have := (h.stay_ct hf c1 (base := base)).app s3
    simpa using this, rfl, h3, f3⟩
theorem traj_ins (h : Full n A) (hf : Fine n A) (h8 : A.length < 8) (c1 c2 key ptr : Int) {at_ : Nat} (hat : at_ ≤ A.length) (h1 : ∀ j, j < at_ → eK A j < key) (h2 : ∀ j, at_ ≤ j → j < A.length → key < eK A j) (hlo : n.lo ≤ key ∧ (0 < n.lv → key ≠ n.lo)) (hp : freshB n ptr = true) (z : List (Int × Int))
    (hz : z = if A.length + 1 < 8 then [(base + 64 + 16 * ((A.length + 1 : Nat) : Int) + 8, 0)] else []) :
    Traj base n A (insA A at_ (key, ptr)) ([(base + 24, c1)] ++ z ++ shiftL base n A.length (A.length - at_) ++ [(base + 64 + 16 * (at_ : Int) + 8, n.ahead at_), (base + 64 + 16 * (at_ : Int), key), (base + 64 + 16 * (at_ : Int) + 8, ptr)] ++ [(base + 24, c2)])
      (some (([(base + 24, c1)] ++ z ++ shiftL base n A.length (A.length - at_)).length + 2)) := by
  obtain ⟨p0, p1, p2⟩ := fresh_split h hf hp
  -- the nought behind the entries
  obtain ⟨m1, s1, r1, f1, e1⟩ : ∃ m1, Stay base A { n with ct := c1 } z m1 ∧ Ready n A 0 m1 ∧ Fine m1 A ∧ m1.lv = n.lv ∧ m1.lo = n.lo ∧ m1.fi = n.fi := by
    by_cases h7 : A.length + 1 < 8
    · rw [if_pos h7] at hz
      have hh := mv_nought (h.ct c1) (i := A.length + 1) rfl
      have hff := (hf.ct c1).withP (A.length + 1) 0
      rw [hz]
      exact ⟨_, .one (putA_ptr' base _ _ 0 (by omega)) (hh.may hff) (hh.valid hff), .inl ⟨rfl, hh, fun _ => withP_eq _ _ _⟩, hff, rfl, rfl, rfl⟩
    · rw [if_neg h7] at hz
      rw [hz]
      exact ⟨_, rfl, .inl ⟨rfl, h.ct c1, fun hx => absurd hx h7⟩, hf.ct c1, rfl, rfl, rfl⟩
  obtain ⟨m2, s2, r2, f2, e2⟩ := shift_run (base := base) h h8 (A.length - at_) m1 (by omega) r1 f1
  have hla : A.length - (A.length - at_) = at_ := by omega
  have hx : n.ahead at_ = m2.ahead (A.length - (A.length - at_)) := by
    rw [hla]
    cases at_ with
    | zero => show n.fi = m2.fi; rw [e2.2.2, e1.2.2]
    | succ t => show n.p t = m2.p t; rw [r2.low (by omega) t (by omega), (h.ent t (by omega)).2]
  have g3 := r2.ptr (by omega) h8 hx
  have f3 := f2.withP (A.length - (A.length - at_)) (n.ahead at_)
  rw [hla] at g3 f3
  have g4 := mv_key g3 key
  have f4 := f3.withK at_ key
  have h5 := mv_put g4 (e := (key, ptr)) (withK_eq _ _ _)
  have f5 : Fine (((m2.withP at_ (n.ahead at_)).withK at_ key).withP at_ ptr) (insA A at_ (key, ptr)) := by
    have f5' : Fine n (insA A at_ (key, ptr)) := by
      refine ⟨hf.lv, hf.fi, ?_, ?_⟩
      · unfold insA
        refine Rises.mid (by rw [List.take_append_drop]; exact hf.rises) ⟨hlo.1, hlo.2, p1⟩ (fun a ha => ?_) (fun b hb => ?_)
        · obtain ⟨j, q1, q2, q3, q4⟩ := take_mem ha
          exact ⟨by rw [← q3]; exact h1 j q1, p2 a (List.mem_of_mem_take ha)⟩
        · obtain ⟨j, q1, q2, q3, q4⟩ := drop_mem hb
          exact ⟨by rw [← q3]; exact h2 j q1 q2, fun e => p2 b (List.mem_of_mem_drop hb) e.symm⟩
      · intro e he
        unfold insA at he
        rcases List.mem_append.1 he with hx | hx
        · exact hf.nz e (List.mem_of_mem_take hx)
        · rcases List.mem_cons.1 hx with rfl | hx
          · exact p0
          · exact hf.nz e (List.mem_of_mem_drop hx)
    exact f5'.env (e2.1.trans e1.1) (e2.2.1.trans e1.2.1) (e2.2.2.trans e1.2.2)
  refine ⟨[(base + 24, c1)] ++ z ++ shiftL base n A.length (A.length - at_) ++ [(base + 64 + 16 * (at_ : Int) + 8, n.ahead at_), (base + 64 + 16 * (at_ : Int), key)], (base + 64 + 16 * (at_ : Int) + 8, ptr), [(base + 24, c2)], _, _, _, by simp, by rw [List.length_append]; rfl, ?_, putA_ptr' base _ at_ ptr (by omega), h5.may f5, h5.valid f5, fun e => ?_, h5.stay_ct f5 c2, h5.ct c2, f5.ct c2⟩
  · refine (((h.stay_ct hf c1).app s1).app s2).app (Stay.app (L1 := [_]) (L2 := [_]) (.one (putA_ptr' base _ at_ _ (by omega)) (g3.may f3) (g3.valid f3)) (.one (putA_key base _ at_ key (by omega)) (g4.may f4) (g4.valid f4)))
  · have := congrArg List.length e
    rw [insA_len] at this
    omega
end
end Go.Proofs.Ytgmbnoimlffgcaa
