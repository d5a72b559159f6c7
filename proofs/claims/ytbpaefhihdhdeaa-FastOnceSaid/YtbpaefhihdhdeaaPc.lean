/-
  THE RUN OF A CHANGE's STORES: gaps closed, room made. (Plain.)
-/
import Derived.Test.YtbpaefhihdhdeaaPb
import Derived.Test.YtbpaefhihdhdeaaAr
import Derived.Test.YtbpaefhihdhdeaaMd
namespace Go.Proofs.Ytbpaefhihdhdeaa
open Go.RowKit
set_option linter.unusedVariables false

/-- stores behind each of which the node may be, and has these entries -/
def Stay (base : Int) (v : List (Int × Int)) : Nd → List (Int × Int) → Nd → Prop
  | m, [], m' => m' = m
  | m, s :: r, m' => ∃ q, putA base m s.1 s.2 = some q ∧ q.mayB 0 false = true ∧ q.valid = v ∧ Stay base v q r m'
theorem Stay.app {base : Int} {v : List (Int × Int)} : ∀ {L1 L2 : List (Int × Int)} {m m1 m2 : Nd}, Stay base v m L1 m1 → Stay base v m1 L2 m2 → Stay base v m (L1 ++ L2) m2
  | [], L2, m, m1, m2, h1, h2 => by cases h1; exact h2
  | s :: r, L2, m, m1, m2, ⟨q, a, b, c, d⟩, h2 => ⟨q, a, b, c, Stay.app d h2⟩
theorem Stay.one {base : Int} {v : List (Int × Int)} {m q : Nd} {s : Int × Int} (h : putA base m s.1 s.2 = some q) (h1 : q.mayB 0 false = true) (h2 : q.valid = v) : Stay base v m [s] q := ⟨q, h, h1, h2, rfl⟩
theorem putA_ptr' (base : Int) (n : Nd) (i : Nat) (x : Int) (h : i < 8) : putA base n (base + 64 + 16 * (i : Int) + 8) x = some (n.withP i x) := by
  rw [show base + 64 + 16 * (i : Int) + 8 = base + 72 + 16 * (i : Int) by omega]
  exact putA_ptr base n i x h
section
variable {base : Int} {m : Nd} {A : List (Int × Int)} {i : Nat}
theorem Fine.env {n : Nd} (h : Fine n A) (h1 : m.lv = n.lv) (h2 : m.lo = n.lo) (h3 : m.fi = n.fi) : Fine m A := ⟨by rw [h1]; exact h.lv, by rw [h3]; exact h.fi, by rw [h1, h2, h3]; exact h.rises, h.nz⟩
theorem Fine.withP (h : Fine m A) (i : Nat) (x : Int) : Fine (m.withP i x) A := ⟨h.lv, h.fi, h.rises, h.nz⟩
theorem Fine.withK (h : Fine m A) (i : Nat) (x : Int) : Fine (m.withK i x) A := ⟨h.lv, h.fi, h.rises, h.nz⟩
theorem Fine.ct (h : Fine m A) (x : Int) : Fine { m with ct := x } A := ⟨h.lv, h.fi, h.rises, h.nz⟩
theorem Fine.nx (h : Fine m A) (x : Int) : Fine { m with nx := x } A := ⟨h.lv, h.fi, h.rises, h.nz⟩
theorem Full.ct (h : Full m A) (x : Int) : Full { m with ct := x } A := ⟨h.le, h.ent, h.fin⟩
theorem Full.nx (h : Full m A) (x : Int) : Full { m with nx := x } A := ⟨h.le, h.ent, h.fin⟩
theorem Gap.ct (h : Gap m A i) (x : Int) : Gap { m with ct := x } A i := by
  refine ⟨h.le, h.at_, h.low, ?_, h.high, h.fin⟩
  have := h.gap
  cases i <;> exact this
theorem Full.stay_ct (h : Full m A) (hf : Fine m A) (x : Int) : Stay base A m [(base + 24, x)] { m with ct := x } :=
  .one (putA_24 base m x) ((h.ct x).may (hf.ct x)) ((h.ct x).valid (hf.ct x))
theorem Gap.stay_ct (h : Gap m A i) (hf : Fine m A) (x : Int) : Stay base A m [(base + 24, x)] { m with ct := x } :=
  .one (putA_24 base m x) ((h.ct x).may (hf.ct x)) ((h.ct x).valid (hf.ct x))
/-- a gap moved up -/
theorem gap_run {n : Nd} {p : Nat} (hn : ∀ t, p ≤ t → t < A.length → n.k (t + 1) = eK A t ∧ n.p (t + 1) = eP A t) : ∀ (j : Nat) (m : Nd), p + j ≤ A.length → Gap m A p → Fine m A → ∃ m', Stay base A m (gapL base n p j) m' ∧ Gap m' A (p + j) ∧ Fine m' A
  | 0, m, _, h, hf => ⟨m, rfl, h, hf⟩
  | j + 1, m, hj, h, hf => by
    obtain ⟨m1, h1, g1, f1⟩ := gap_run hn j m (by omega) h hf
    have h8 := g1.le
    obtain ⟨e1, e2⟩ := hn (p + j) (by omega) (by omega)
    have g2 := mv_key g1 (n.k (p + j + 1))
    have f2 := f1.withK (p + j) (n.k (p + j + 1))
    have g3 := mv_up g2 (by omega) ((withK_eq m1 (p + j) _).trans e1) e2
    have f3 := f2.withP (p + j) (n.p (p + j + 1))
    refine ⟨_, ?_, g3, f3⟩
    rw [gapL]
    refine h1.app (Stay.app (L1 := [_]) (L2 := [_]) (Stay.one ?_ (g2.may f2) (g2.valid f2)) (Stay.one ?_ (g3.may f3) (g3.valid f3)))
    · exact putA_key base m1 (p + j) _ (by omega)
    · exact putA_ptr' base _ (p + j) _ (by omega)
/-- .. and shut -/
theorem shut_run {n : Nd} {p q : Nat} (hn : ∀ t, p ≤ t → t < A.length → n.k (t + 1) = eK A t ∧ n.p (t + 1) = eP A t) (hq : q = A.length) (h : Gap m A p) (hf : Fine m A) (c : Int) :
    ∃ m', Stay base A m (gapL base n p (q - p) ++ [(base + 64 + 16 * (q : Int) + 8, 0)] ++ [(base + 24, c)]) m' ∧ Full m' A ∧ Fine m' A := by
  subst hq
  have ha := h.at_
  obtain ⟨m1, h1, g1, f1⟩ := gap_run (base := base) hn (A.length - p) m (by omega) h hf
  have h8 := g1.le
  rw [show p + (A.length - p) = A.length by omega] at g1
  have g2 := mv_shut g1 rfl
  have f2 := f1.withP A.length 0
  exact ⟨_, (h1.app (.one (putA_ptr' base m1 A.length 0 (by omega)) (g2.may f2) (g2.valid f2))).app (g2.stay_ct f2 c), g2.ct c, f2.ct c⟩
/-- ready to lay the pointer of the place many - j -/
def Ready (n : Nd) (A : List (Int × Int)) (j : Nat) (m : Nd) : Prop :=
  (j = 0 ∧ Full m A ∧ (A.length + 1 < 8 → m.p (A.length + 1) = 0)) ∨ (0 < j ∧ Gap m A (A.length - j + 1) ∧ m.k (A.length - j + 1) = eK A (A.length - j))
theorem Ready.ptr {n : Nd} {j : Nat} (h : Ready n A j m) (hj : j ≤ A.length) (h8 : A.length < 8) {x : Int} (hx : x = m.ahead (A.length - j)) : Gap (m.withP (A.length - j) x) A (A.length - j) := by
  rcases h with ⟨rfl, h1, h2⟩ | ⟨h0, h1, h2⟩
  · exact mv_begin h1 h8 h2 (by omega) hx
  · exact mv_down h1 h2 hx
theorem Ready.low {n : Nd} {j : Nat} (h : Ready n A j m) (hj : j ≤ A.length) (t : Nat) (ht : t < A.length - j) : m.p t = eP A t := by
  rcases h with ⟨rfl, h1, h2⟩ | ⟨h0, h1, h2⟩
  · exact (h1.ent t (by omega)).2
  · exact (h1.low t (by omega)).2
theorem shift_run {n : Nd} (hn : Full n A) (h8 : A.length < 8) : ∀ (j : Nat) (m : Nd), j ≤ A.length → Ready n A 0 m → Fine m A → ∃ m', Stay base A m (shiftL base n A.length j) m' ∧ Ready n A j m' ∧ Fine m' A ∧ m'.lv = m.lv ∧ m'.lo = m.lo ∧ m'.fi = m.fi
  | 0, m, _, h, hf => ⟨m, rfl, h, hf, rfl, rfl, rfl⟩
  | j + 1, m, hj, h, hf => by
    obtain ⟨m1, h1, r1, f1, e1⟩ := shift_run hn h8 j m (by omega) h hf
    obtain ⟨i, hi⟩ : ∃ i, A.length - j = i + 1 := ⟨A.length - j - 1, by omega⟩
    have hx : n.p i = m1.ahead (A.length - j) := by
      rw [hi]
      show n.p i = m1.p i
      rw [r1.low (by omega) i (by omega), (hn.ent i (by omega)).2]
    have g2 := r1.ptr (by omega) h8 hx
    have f2 := f1.withP (A.length - j) (n.p i)
    have g3 := mv_key g2 (n.k i)
    have f3 := f2.withK (A.length - j) (n.k i)
    refine ⟨_, ?_, .inr ⟨by omega, ?_, ?_⟩, f3, e1⟩
    · rw [shiftL, show A.length - j - 1 = i by omega]
      refine h1.app (Stay.app (L1 := [_]) (L2 := [_]) (Stay.one ?_ (g2.may f2) (g2.valid f2)) (Stay.one ?_ (g3.may f3) (g3.valid f3)))
      · exact putA_ptr' base m1 _ _ (by omega)
      · exact putA_key base _ _ _ (by omega)
    · rw [show A.length - (j + 1) + 1 = A.length - j by omega]; exact g3
    · rw [show A.length - (j + 1) + 1 = A.length - j by omega, withK_eq, show A.length - (j + 1) = i by omega]
      exact (hn.ent i (by omega)).1
end
end Go.Proofs.Ytbpaefhihdhdeaa
