/-
  A memory that goes on from a world; leveelaw11.laid: a contract.
-/
import Derived.Test.YtgmbnoimlffgcaaSnh
namespace Go.Proofs.Ytgmbnoimlffgcaa
open Go.RowKit
set_option linter.unusedVariables false

/-! ### which words are read -/
def pthB (W : Nat → Int) (i : Nat) : Bool := decide (i ≤ 2) || decide (i = 4) || (decide (8 ≤ i) && decide (i < 24) && (List.range i).all (fun j => decide (j < 9) || decide (j % 2 = 0) || decide (W j ≠ 0)))
theorem pthB_iff (W : Nat → Int) (i : Nat) : pthB W i = true ↔ (i ≤ 2 ∨ i = 4 ∨ (8 ≤ i ∧ i < 24 ∧ ∀ j, j < i → 9 ≤ j → j % 2 = 1 → W j ≠ 0)) := by
  unfold pthB
  simp only [Bool.or_eq_true, Bool.and_eq_true, decide_eq_true_eq, List.all_eq_true, List.mem_range]
  constructor
  · rintro ((h | h) | ⟨⟨h1, h2⟩, h3⟩)
    · exact .inl h
    · exact .inr (.inl h)
    · refine .inr (.inr ⟨h1, h2, fun j hj h9 ho => ?_⟩)
      rcases h3 j hj with (h | h) | h
      · omega
      · omega
      · exact h
  · rintro (h | h | ⟨h1, h2, h3⟩)
    · exact .inl (.inl h)
    · exact .inl (.inr h)
    · refine .inr ⟨⟨h1, h2⟩, fun j hj => ?_⟩
      by_cases h9 : j < 9
      · exact .inl (.inl h9)
      · by_cases ho : j % 2 = 0
        · exact .inl (.inr ho)
        · exact .inr (h3 j hj (by omega) (by omega))
theorem pth_next {W : Nat → Int} {k : Nat} (hk : pthB W k = true) (hq : 0 ≤ aftP k (W k)) : ∃ q : Nat, aftP k (W k) = (q : Int) ∧ q < 24 ∧ k < q ∧ pthB W q = true ∧ ∀ i, (pthB W i = true ∧ i < q) ↔ ((pthB W i = true ∧ i < k) ∨ i = k) := by
  have h := (pthB_iff W k).1 hk
  unfold aftP at hq ⊢
  by_cases c1 : k = 2
  · subst c1
    refine ⟨4, rfl, by decide, by decide, (pthB_iff W 4).2 (.inr (.inl rfl)), fun i => ?_⟩
    constructor
    · rintro ⟨h1, h2⟩
      rcases (pthB_iff W i).1 h1 with h | h | h
      · by_cases e : i = 2; exact .inr e; exact .inl ⟨h1, by omega⟩
      · omega
      · omega
    · rintro (⟨h1, h2⟩ | rfl)
      · exact ⟨h1, by omega⟩
      · exact ⟨hk, by omega⟩
  rw [if_neg c1] at hq ⊢
  by_cases c2 : k = 4
  · subst c2
    refine ⟨8, rfl, by decide, by decide, (pthB_iff W 8).2 (.inr (.inr ⟨by omega, by omega, fun j hj h9 => by omega⟩)), fun i => ?_⟩
    constructor
    · rintro ⟨h1, h2⟩
      rcases (pthB_iff W i).1 h1 with h | h | h
      · exact .inl ⟨h1, by omega⟩
      · exact .inr h
      · omega
    · rintro (⟨h1, h2⟩ | rfl)
      · exact ⟨h1, by omega⟩
      · exact ⟨hk, by omega⟩
  rw [if_neg c2] at hq ⊢
  by_cases c3 : k < 2
  · rw [if_pos c3] at hq ⊢
    refine ⟨k + 1, by omega, by omega, by omega, (pthB_iff W _).2 (.inl (by omega)), fun i => ?_⟩
    constructor
    · rintro ⟨h1, h2⟩
      by_cases e : i = k; exact .inr e; exact .inl ⟨h1, by omega⟩
    · rintro (⟨h1, h2⟩ | rfl)
      · exact ⟨h1, by omega⟩
      · exact ⟨hk, by omega⟩
  rw [if_neg c3] at hq ⊢
  by_cases c4 : k % 2 = 1 ∧ (W k = 0 ∨ k = 23)
  · rw [if_pos c4] at hq; omega
  rw [if_neg c4] at hq ⊢
  have h8 : 8 ≤ k ∧ k < 24 ∧ ∀ j, j < k → 9 ≤ j → j % 2 = 1 → W j ≠ 0 := by
    rcases h with h | h | h
    · omega
    · omega
    · exact h
  have hk23 : k ≠ 23 := fun e => c4 ⟨by omega, .inr e⟩
  refine ⟨k + 1, by omega, by omega, by omega, (pthB_iff W _).2 (.inr (.inr ⟨by omega, by omega, fun j hj h9 ho => ?_⟩)), fun i => ?_⟩
  · by_cases e : j = k
    · subst e; exact fun h0 => c4 ⟨ho, .inl h0⟩
    · exact h8.2.2 j (by omega) h9 ho
  · constructor
    · rintro ⟨h1, h2⟩
      by_cases e : i = k; exact .inr e; exact .inl ⟨h1, by omega⟩
    · rintro (⟨h1, h2⟩ | rfl)
      · exact ⟨h1, by omega⟩
      · exact ⟨hk, by omega⟩
theorem pth_last {W : Nat → Int} {k : Nat} (hk : pthB W k = true) (hk24 : k < 24) (hq : ¬ 0 ≤ aftP k (W k)) : 8 ≤ k ∧ ∀ i, (pthB W i = true ∧ i < 24) ↔ ((pthB W i = true ∧ i < k) ∨ i = k) := by
  have h := (pthB_iff W k).1 hk
  unfold aftP at hq
  by_cases c1 : k = 2
  · rw [if_pos c1] at hq; omega
  rw [if_neg c1] at hq
  by_cases c2 : k = 4
  · rw [if_pos c2] at hq; omega
  rw [if_neg c2] at hq
  by_cases c3 : k < 2
  · rw [if_pos c3] at hq; omega
  rw [if_neg c3] at hq
  by_cases c4 : k % 2 = 1 ∧ (W k = 0 ∨ k = 23)
  · refine ⟨by omega, fun i => ?_⟩
    constructor
    · rintro ⟨h1, h2⟩
      by_cases e : i = k
      · exact .inr e
      · refine .inl ⟨h1, ?_⟩
        rcases (pthB_iff W i).1 h1 with h | h | h
        · omega
        · omega
        · rcases Nat.lt_or_ge i k with hlt | hge
          · exact hlt
          · rcases c4.2 with h0 | h0
            · exact absurd h0 (h.2.2 k (by omega) (by omega) c4.1)
            · omega
    · rintro (⟨h1, h2⟩ | rfl)
      · exact ⟨h1, by omega⟩
      · exact ⟨hk, hk24⟩
  · rw [if_neg c4] at hq; omega
/-- what has been read of words, up to a place -/
def rdW (W : Nat → Int) (k : Nat) : Nat → Int := fun i => if i = 3 ∨ (pthB W i = true ∧ i < k) then W i else 0
theorem pth_not3 (W : Nat → Int) : pthB W 3 = false := by
  cases h : pthB W 3
  · rfl
  · have := (pthB_iff W 3).1 h; omega
theorem rdW_set {W : Nat → Int} {k q : Nat} (h : ∀ i, (pthB W i = true ∧ i < q) ↔ ((pthB W i = true ∧ i < k) ∨ i = k)) : wset (rdW W k) k (W k) = rdW W q := by
  funext i
  unfold wset rdW
  by_cases e : i = k
  · subst e
    rw [if_pos rfl, if_pos (.inr ((h i).2 (.inr rfl)))]
  · rw [if_neg e]
    by_cases c : i = 3 ∨ (pthB W i = true ∧ i < k)
    · rw [if_pos c, if_pos (by rcases c with c | c; exact .inl c; exact .inr ((h i).2 (.inl c)))]
    · rw [if_neg c, if_neg (fun c2 => c (by rcases c2 with c2 | c2; exact .inl c2; rcases (h i).1 c2 with c3 | c3; exact .inr c3; exact absurd c3 e))]
theorem rdW_at {W : Nat → Int} {k i : Nat} (hp : pthB W i = true) (hi : i < k) : rdW W k i = W i := if_pos (.inr ⟨hp, hi⟩)
theorem rdW_3 (W : Nat → Int) (k : Nat) : rdW W k 3 = W 3 := if_pos (.inl rfl)
def idxK (k : Nat) : Nat := if k ≤ 2 then k else if k = 4 then 3 else k - 4
theorem idx_next {W : Nat → Int} {k q : Nat} (hk : pthB W k = true) (hq : aftP k (W k) = (q : Int)) : idxK q = idxK k + 1 := by
  have h := (pthB_iff W k).1 hk
  unfold aftP at hq
  unfold idxK
  by_cases c1 : k = 2
  · subst c1; rw [if_pos rfl] at hq; obtain rfl : q = 4 := by omega
    decide
  rw [if_neg c1] at hq
  by_cases c2 : k = 4
  · subst c2; rw [if_pos rfl] at hq; obtain rfl : q = 8 := by omega
    decide
  rw [if_neg c2] at hq
  by_cases c3 : k < 2
  · rw [if_pos c3] at hq; obtain rfl : q = k + 1 := by omega
    rw [if_pos (by omega), if_pos (by omega)]
  rw [if_neg c3] at hq
  by_cases c4 : k % 2 = 1 ∧ (W k = 0 ∨ k = 23)
  · rw [if_pos c4] at hq; omega
  · rw [if_neg c4] at hq; obtain rfl : q = k + 1 := by omega
    rw [if_neg (by omega), if_neg (by omega), if_neg (by omega), if_neg (by omega)]
    omega
theorem idx_le {k : Nat} (h : k < 24) : idxK k ≤ 19 := by unfold idxK; split; omega; split; omega; omega

/-! ### where it stands -/
def wdM (vw : List Int) (a : Int) (i : Nat) : Int := ldW vw (wrdA a i)
def erM (vw : List Int) (a : Int) (i : Nat) : Int := atE vw.length (wrdA a i)
structure SnB (mv : Option Addr) (a : Int) (s : Sn) : Prop where
  mv : s.mv = mv
  at_ : s.at_ = a
  over : s.over = false
structure SnR (vw : List Int) (a : Int) (s : Sn) (sb kn : Nat) : Prop where
  step : s.step = phV sb 68
  k : s.k = (kn : Int)
  lt : kn < 24
  p : pthB (wdM vw a) kn = true
  has : s.has = false
  e3 : erM vw a 3 = 0
/-- behind i steps -/
def SnI (sb : Nat) (mv : Option Addr) (vw : List Int) (a : Int) (i : Nat) (s : Sn) : Prop :=
  SnB mv a s ∧ (
    (i = 0 ∧ s.step = phV sb 53 ∧ s.a = (fun _ => 0) ∧ s.b = (fun _ => 0) ∧ s.k = 0 ∧ s.last = false ∧ s.has = false) ∨
    (∃ kn, SnR vw a s sb kn ∧ s.last = false ∧ s.a = rdW (wdM vw a) kn ∧ s.b = rdW (wdM vw a) 0 ∧ (∀ j, pthB (wdM vw a) j = true → j < kn → erM vw a j = 0) ∧ i ≤ 1 + idxK kn) ∨
    (∃ kn, SnR vw a s sb kn ∧ s.last = true ∧ s.a = rdW (wdM vw a) 24 ∧ s.b = rdW (wdM vw a) kn ∧ (∀ j, pthB (wdM vw a) j = true → j < 24 → erM vw a j = 0) ∧ i ≤ 21 + idxK kn) ∨
    (s.step = phV sb 87 ∧ s.a = rdW (wdM vw a) 24 ∧ s.b = rdW (wdM vw a) 24 ∧ s.has = false ∧ erM vw a 3 = 0 ∧ (∀ j, pthB (wdM vw a) j = true → j < 24 → erM vw a j = 0) ∧ wdM vw a 2 ≠ 0 ∧ i ≤ 41) ∨
    (s.step = phV sb 88 ∧ s.a = rdW (wdM vw a) 24 ∧ s.b = rdW (wdM vw a) 24 ∧ s.has = decide (wdM vw a 2 ≠ 0) ∧ (wdM vw a 2 ≠ 0 → s.high = ldW vw (wrdA (wdM vw a 2) 1) ∧ atE vw.length (wrdA (wdM vw a 2) 1) = 0) ∧ erM vw a 3 = 0 ∧ (∀ j, pthB (wdM vw a) j = true → j < 24 → erM vw a j = 0) ∧ i ≤ 42))
/-- at the end -/
structure SnD (sb : Nat) (vw : List Int) (a : Int) (er : Int) (s : Sn) : Prop where
  over : s.over = true
  e : s.e = er
  step : ∃ f, s.step = phV sb f
  res : (er = 3 ∧ (erM vw a 3 = 3 ∨ (∃ j, pthB (wdM vw a) j = true ∧ j < 24 ∧ erM vw a j = 3) ∨ (wdM vw a 2 ≠ 0 ∧ atE vw.length (wrdA (wdM vw a 2) 1) = 3))) ∨
    (er = (ofV (rdW (wdM vw a) 24)).2 ∧ s.found = (ofV (rdW (wdM vw a) 24)).1 ∧ s.has = decide (wdM vw a 2 ≠ 0) ∧ (wdM vw a 2 ≠ 0 → s.high = ldW vw (wrdA (wdM vw a 2) 1)))
def StepR (sb : Nat) (mv : Option Addr) (vw : List Int) (a : Int) (i : Nat) (d : Bool) (er : Int) (s : Sn) : Prop := (d = false ∧ er = 0 ∧ SnI sb mv vw a (i + 1) s) ∨ (d = true ∧ SnD sb vw a er s)
theorem rdW_zero (W : Nat → Int) : wset (fun _ => 0) 3 (W 3) = rdW W 0 := by
  funext i
  unfold wset rdW
  by_cases e : i = 3
  · subst e; rw [if_pos rfl, if_pos (.inl rfl)]
  · rw [if_neg e, if_neg (by rintro (h | ⟨_, h⟩); exact e h; omega)]
theorem rdW_u64 {vw : List Int} (hu : U64s vw) (a : Int) (k i : Nat) : 0 ≤ rdW (wdM vw a) k i ∧ rdW (wdM vw a) k i ≤ 18446744073709551615 := by
  unfold rdW
  split
  · exact ldW_u64 hu _
  · decide
theorem eqWd_self (f : Nat → Int) : eqWd f f = true := by
  unfold eqWd
  rw [List.all_eq_true]
  intro i _
  exact beq_self_eq_true _
section
variable {sb : Nat} {mv : Option Addr} {vw : List Int} {a : Int} {i : Nat} {s : Sn}
/-- counts -/
theorem stepr_ct (hB : SnB mv a s) (hi : i = 0) (ha : s.a = (fun _ => 0)) (hb : s.b = (fun _ => 0)) (hk : s.k = 0) (hl : s.last = false) (hh : s.has = false) :
    StepR sb mv vw a i (false || erM vw a 3 != 0) (erM vw a 3) (snOver (snCounts sb vw s) false (erM vw a 3)) := by
  rcases atE_or vw.length (wrdA a 3) with e | e
  · have e0 : erM vw a 3 = 0 := e
    refine .inl ⟨by rw [e0]; decide, e0, ⟨hB.mv, hB.at_, by rw [e0]; rfl⟩, .inr (.inl ⟨0, ⟨rfl, hk, by decide, (pthB_iff _ 0).2 (.inl (by decide)), hh, e0⟩, hl, ?_, ?_, fun j _ h => absurd h (by omega), by subst hi; decide⟩)⟩
    · show wset s.a 3 (ldW vw (wrdA s.at_ 3)) = _
      rw [ha, hB.at_]; exact rdW_zero (wdM vw a)
    · show wset s.b 3 (ldW vw (wrdA s.at_ 3)) = _
      rw [hb, hB.at_]; exact rdW_zero (wdM vw a)
  · have e0 : erM vw a 3 = 3 := e
    exact .inr ⟨by rw [e0]; decide, ⟨by rw [e0]; rfl, rfl, ⟨_, rfl⟩, .inl ⟨e0, .inl e0⟩⟩⟩
/-- reads: the first time -/
theorem stepr_rd1 {kn : Nat} (hB : SnB mv a s) (hR : SnR vw a s sb kn) (hl : s.last = false) (ha : s.a = rdW (wdM vw a) kn) (hb : s.b = rdW (wdM vw a) 0) (hE : ∀ j, pthB (wdM vw a) j = true → j < kn → erM vw a j = 0) (hi : i ≤ 1 + idxK kn) :
    StepR sb mv vw a i (false || erM vw a kn != 0) (erM vw a kn) (snOver (snReads sb vw s kn) false (erM vw a kn)) := by
  have hx := idx_le hR.lt
  rcases atE_or vw.length (wrdA a kn) with e | e
  · have e0 : erM vw a kn = 0 := e
    have hsr : snReads sb vw s kn = snGo sb { s with a := wset s.a kn (wdM vw a kn) } kn (wdM vw a kn) := by
      unfold snReads
      rw [hB.at_, if_pos e, hl, if_neg (by decide)]; rfl
    rw [hsr]
    unfold snGo
    by_cases hq : 0 ≤ aftP kn (wdM vw a kn)
    · obtain ⟨q, hqe, hq24, hkq, hqp, hqs⟩ := pth_next hR.p hq
      rw [if_pos hq, hqe]
      refine .inl ⟨by rw [e0]; decide, e0, ⟨hB.mv, hB.at_, by rw [e0]; rfl⟩, .inr (.inl ⟨q, ⟨hR.step, rfl, hq24, hqp, hR.has, hR.e3⟩, hl, ?_, hb, fun j hj hjq => ?_, by rw [idx_next hR.p hqe]; omega⟩)⟩
      · show wset s.a kn (wdM vw a kn) = _
        rw [ha]; exact rdW_set hqs
      · rcases (hqs j).1 ⟨hj, hjq⟩ with h | h
        · exact hE j h.1 h.2
        · rw [h]; exact e0
    · obtain ⟨h8, hqs⟩ := pth_last hR.p hR.lt hq
      rw [if_neg hq, if_pos hl]
      refine .inl ⟨by rw [e0]; decide, e0, ⟨hB.mv, hB.at_, by rw [e0]; rfl⟩, .inr (.inr (.inl ⟨0, ⟨hR.step, rfl, by decide, (pthB_iff _ 0).2 (.inl (by decide)), hR.has, hR.e3⟩, rfl, ?_, hb, fun j hj hjq => ?_, by show i + 1 ≤ 21 + 0; omega⟩))⟩
      · show wset s.a kn (wdM vw a kn) = _
        rw [ha]; exact rdW_set hqs
      · rcases (hqs j).1 ⟨hj, hjq⟩ with h | h
        · exact hE j h.1 h.2
        · rw [h]; exact e0
  · have e0 : erM vw a kn = 3 := e
    have hsr : snReads sb vw s kn = s := by
      unfold snReads
      rw [hB.at_, if_neg (by rw [e]; decide)]
    rw [hsr]
    exact .inr ⟨by rw [e0]; decide, ⟨by rw [e0]; rfl, rfl, ⟨_, hR.step⟩, .inl ⟨e0, .inr (.inl ⟨kn, hR.p, hR.lt, e0⟩)⟩⟩⟩
/-- reads: the second time -/
theorem stepr_rd2 {kn : Nat} (hB : SnB mv a s) (hR : SnR vw a s sb kn) (hl : s.last = true) (ha : s.a = rdW (wdM vw a) 24) (hb : s.b = rdW (wdM vw a) kn) (hE : ∀ j, pthB (wdM vw a) j = true → j < 24 → erM vw a j = 0) (hi : i ≤ 21 + idxK kn) :
    StepR sb mv vw a i (false || erM vw a kn != 0) (erM vw a kn) (snOver (snReads sb vw s kn) false (erM vw a kn)) := by
  have hx := idx_le hR.lt
  have e0 : erM vw a kn = 0 := hE kn hR.p hR.lt
  have hsr : snReads sb vw s kn = snGo sb { s with b := wset s.b kn (wdM vw a kn) } kn (wdM vw a kn) := by
    unfold snReads
    have hak : s.a kn = wdM vw a kn := by rw [ha]; exact rdW_at hR.p hR.lt
    rw [hB.at_, if_pos (show atE vw.length (wrdA a kn) = 0 from e0), hl, if_pos rfl, hak, if_neg (fun h => h rfl)]; rfl
  have ha2 : s.a 2 = wdM vw a 2 := by rw [ha]; exact rdW_at ((pthB_iff _ 2).2 (.inl (by decide))) (by decide)
  rw [hsr]
  unfold snGo
  by_cases hq : 0 ≤ aftP kn (wdM vw a kn)
  · obtain ⟨q, hqe, hq24, hkq, hqp, hqs⟩ := pth_next hR.p hq
    rw [if_pos hq, hqe]
    refine .inl ⟨by rw [e0]; decide, e0, ⟨hB.mv, hB.at_, by rw [e0]; rfl⟩, .inr (.inr (.inl ⟨q, ⟨hR.step, rfl, hq24, hqp, hR.has, hR.e3⟩, hl, ha, ?_, hE, by rw [idx_next hR.p hqe]; omega⟩))⟩
    show wset s.b kn (wdM vw a kn) = _
    rw [hb]; exact rdW_set hqs
  · obtain ⟨h8, hqs⟩ := pth_last hR.p hR.lt hq
    rw [if_neg hq, if_neg (by rw [hl]; decide)]
    have hbn : wset s.b kn (wdM vw a kn) = rdW (wdM vw a) 24 := by rw [hb]; exact rdW_set hqs
    by_cases hz : wdM vw a 2 = 0
    · rw [if_neg (by show ¬ s.a 2 ≠ 0; rw [ha2]; exact fun h => h hz)]
      refine .inl ⟨by rw [e0]; decide, e0, ⟨hB.mv, hB.at_, by rw [e0]; rfl⟩, .inr (.inr (.inr (.inr ⟨rfl, ha, hbn, ?_, fun h => absurd hz h, hR.e3, hE, by omega⟩)))⟩
      show s.has = _
      rw [hR.has, decide_eq_false (fun h => h hz)]
    · rw [if_pos (by show s.a 2 ≠ 0; rw [ha2]; exact hz)]
      exact .inl ⟨by rw [e0]; decide, e0, ⟨hB.mv, hB.at_, by rw [e0]; rfl⟩, .inr (.inr (.inr (.inl ⟨rfl, ha, hbn, hR.has, hR.e3, hE, hz, by omega⟩)))⟩
/-- bound -/
theorem stepr_bd (hB : SnB mv a s) (ha : s.a = rdW (wdM vw a) 24) (hb : s.b = rdW (wdM vw a) 24) (he3 : erM vw a 3 = 0) (hE : ∀ j, pthB (wdM vw a) j = true → j < 24 → erM vw a j = 0) (hz : wdM vw a 2 ≠ 0) (hi : i ≤ 41) :
    StepR sb mv vw a i (false || atE vw.length (wrdA (s.a 2) 1) != 0) (atE vw.length (wrdA (s.a 2) 1)) (snOver (snBound sb vw s) false (atE vw.length (wrdA (s.a 2) 1))) := by
  have ha2 : s.a 2 = wdM vw a 2 := by rw [ha]; exact rdW_at ((pthB_iff _ 2).2 (.inl (by decide))) (by decide)
  have hbh : (snBound sb vw s).high = ldW vw (wrdA (wdM vw a 2) 1) := by rw [← ha2]; rfl
  rw [ha2]
  rcases atE_or vw.length (wrdA (wdM vw a 2) 1) with e | e
  · rw [e]
    exact .inl ⟨by decide, rfl, ⟨hB.mv, hB.at_, rfl⟩, .inr (.inr (.inr (.inr ⟨rfl, ha, hb, by rw [decide_eq_true hz]; rfl, fun _ => ⟨hbh, e⟩, he3, hE, by omega⟩)))⟩
  · rw [e]
    exact .inr ⟨by decide, ⟨rfl, rfl, ⟨_, rfl⟩, .inl ⟨rfl, .inr (.inr ⟨hz, e⟩)⟩⟩⟩
/-- again -/
theorem stepr_ag (hB : SnB mv a s) (hst : s.step = phV sb 88) (ha : s.a = rdW (wdM vw a) 24) (hb : s.b = rdW (wdM vw a) 24) (hh : s.has = decide (wdM vw a 2 ≠ 0)) (hhi : wdM vw a 2 ≠ 0 → s.high = ldW vw (wrdA (wdM vw a 2) 1)) (he3 : erM vw a 3 = 0) :
    StepR sb mv vw a i ((snAgain sb vw s).1 || (snAgain sb vw s).2.1 != 0) (snAgain sb vw s).2.1 (snOver (snAgain sb vw s).2.2 (snAgain sb vw s).1 (snAgain sb vw s).2.1) := by
  have hag : agBad vw s = false := by
    unfold agBad
    rw [hB.at_, ha, hb, rdW_3, eqWd_self]
    show (wdM vw a 3 != wdM vw a 3 || !true) = false
    rw [bne_self_eq_false]; rfl
  have hsa : snAgain sb vw s = (true, (ofV (rdW (wdM vw a) 24)).2, { s with found := (ofV (rdW (wdM vw a) 24)).1 }) := by
    unfold snAgain
    rw [hB.at_, if_pos (show atE vw.length (wrdA a 3) = 0 from he3), hag, if_neg (by decide), ha]
  rw [hsa]
  exact .inr ⟨by simp, ⟨by simp [snOver], rfl, ⟨_, hst⟩, .inr ⟨rfl, rfl, hh, hhi⟩⟩⟩
end
set_option maxRecDepth 100000 in
/-- one step -/
theorem step_i (w : World) (s : Sn) (sb mb : Nat) (S : Nat → Prop) (vw is : List Int) (mk : Int → Nat → Int) (F : Int → List (Int × Int)) (lo st fl fe a : Int) (i : Nat)
    (hb : Blk w sb (snCells s) 62) (hm : MemP w mb S vw is mk F lo st fl fe) (hS : ¬ S sb) (hI : SnI sb (some ⟨mb, 0, none⟩) vw a i s) (hu : U64s vw) :
    Calls Try.prog 11 #[.pointer (some ⟨sb, 0, none⟩)] w fun e w' => ∃ d er s' lo', StepR sb (some ⟨mb, 0, none⟩) vw a i d er s' ∧ SnP w sb mb S vw is mk F st fl fe d er s' lo' e w' ∧ (lo' = lo ∨ lo' = IntKind.u64.wrap (lo + 1)) := by
  have hlo : ∀ x, ldN vw.length x lo = lo ∨ ldN vw.length x lo = IntKind.u64.wrap (lo + 1) := fun x => by unfold ldN; split; exact .inr rfl; exact .inl rfl
  obtain ⟨hB, h | ⟨kn, hR, h⟩ | ⟨kn, hR, h⟩ | h | h⟩ := hI
  · obtain ⟨hi, hst, ha, hb', hk, hl, hh⟩ := h
    refine (step_counts w s sb mb S vw is mk F lo st fl fe _ _ _ _ hb hm hS hB.mv hst hB.over (counts_v w s sb mb S vw is mk F lo st fl fe hb hm hS hB.mv)).mono (fun e w' hP => ⟨_, _, _, _, ?_, hP, hlo _⟩)
    rw [hB.at_]
    exact stepr_ct hB hi ha hb' hk hl hh
  · obtain ⟨hl, ha, hb', hE, hi⟩ := h
    refine (step_reads w s sb mb S vw is mk F lo st fl fe _ _ _ _ hb hm hS hB.mv hR.step hB.over (reads_v w s kn sb mb S vw is mk F lo st fl fe hb hm hS hB.mv hR.k hR.lt)).mono (fun e w' hP => ⟨_, _, _, _, ?_, hP, hlo _⟩)
    rw [hB.at_]
    exact stepr_rd1 hB hR hl ha hb' hE hi
  · obtain ⟨hl, ha, hb', hE, hi⟩ := h
    refine (step_reads w s sb mb S vw is mk F lo st fl fe _ _ _ _ hb hm hS hB.mv hR.step hB.over (reads_v w s kn sb mb S vw is mk F lo st fl fe hb hm hS hB.mv hR.k hR.lt)).mono (fun e w' hP => ⟨_, _, _, _, ?_, hP, hlo _⟩)
    rw [hB.at_]
    exact stepr_rd2 hB hR hl ha hb' hE hi
  · obtain ⟨hst, ha, hb', hh, he3, hE, hz, hi⟩ := h
    exact (step_bound w s sb mb S vw is mk F lo st fl fe _ _ _ _ hb hm hS hB.mv hst hB.over (bound_v w s sb mb S vw is mk F lo st fl fe hb hm hS hB.mv)).mono (fun e w' hP => ⟨_, _, _, _, stepr_bd hB ha hb' he3 hE hz hi, hP, hlo _⟩)
  · obtain ⟨hst, ha, hb', hh, hhi, he3, hE, hi⟩ := h
    exact (step_again w s sb mb S vw is mk F lo st fl fe _ _ _ _ hb hm hS hB.mv hst hB.over (again_v w s sb mb S vw is mk F lo st fl fe hb hm hS hB.mv (by rw [ha]; exact rdW_u64 hu a 24 0))).mono (fun e w' hP => ⟨_, _, _, _, stepr_ag hB hst ha hb' hh (fun h => (hhi h).1) he3, hP, hlo _⟩)
end Go.Proofs.Ytgmbnoimlffgcaa
namespace Go.Proofs.Ytgmbnoimlffgcaa
open Go.RowKit
attribute [local go_sem] Oper.semAt_some
set_option linter.unusedVariables false

def putW (a : Int) (f : Nat → Int) (k : Nat) : List (Int × Int) := (List.range k).map (fun (i : Nat) => (a + 8 * (i : Int), f i))
theorem putW_len (a : Int) (f : Nat → Int) (k : Nat) : (putW a f k).length = k := by simp [putW]
theorem putW_succ (a : Int) (f : Nat → Int) (k : Nat) : putW a f (k + 1) = putW a f k ++ [(a + 8 * (k : Int), f k)] := by simp [putW, List.range_succ]
set_option maxRecDepth 100000 in
set_option maxHeartbeats 6400000 in
theorem rput_v (a : Int) (h0 : 0 ≤ a) (h1 : a ≤ 1000000) (n : Nd) (hw : (Lit.int .i64 n.lv).wf = true) (w : World) :
    Calls Try.prog 39 #[.int .u64 a, .agg (ndCells n)] w fun e w' => ∃ v, e = .returned v ∧ w'.ownsRow w.heap.size 32 2 v 24 (ecells (putW a (wordsF n) 24)) ∧ Below w.heap.size w w' := by
  obtain ⟨i0, hi, hz0, hz1, hz2⟩ := info_parts Try.infoPut
  have HW0 := Lib.hid (show Blk (w.alloc (.cells (ndCells n) 40)) w.heap.size (ndCells n) 40 ∧ Below w.heap.size w (w.alloc (.cells (ndCells n) 40)) from ⟨Blk.new w _ _, (Below.refl _ w).alloc (Nat.le_refl _) _⟩)
  have HRw := Lib.hid (fun W => rwords_lv n hw W)
  obtain ⟨f, hf⟩ : ∃ f, wordsF n = f := ⟨_, rfl⟩
  rw [hf] at HRw ⊢
  clear hf hw
  have HL := Lib.hid (show ∀ j v, (ndCells n)[j]? = some v → (w.alloc (.cells (ndCells n) 40)).cell? ⟨w.heap.size, 0 + j, none⟩ = some v from ndLoad HW0.out.1)
  go_enter Try.func39, Try.ntmps39
  go_wp2_with ((with_reducible refine wpList_load_part (o := ⟨some 8, .load 40 (.tmp 3), _, _, _, _⟩) ?hg 40 (.tmp 3) ?ho w.heap.size 0 ?hx (ndCells n) ?dd ?hc ?hu ?hd ?hi ?_); (case hg => rfl); (case ho => rfl); (case hx => rfl); (case hc => exact HL.out); (case hu => exact Try.underlying40); (case hd => rfl); (case hi => exact info27 n))
  generalize w.alloc (.cells (ndCells n) 40) = w0 at *
  refine (HRw.out w0).mono ?_
  rintro e w1 ⟨rfl, hB1⟩
  have HB1 := Lib.hid (HW0.out.2.trans (hB1.mono HW0.out.2.size))
  clear hB1 HL HW0 HRw
  have HF2 := Lib.hid (show Blk ((w1.alloc (.cells (wdCells (fun _ => 0)) 45)).setRow w1.heap.size (wdCells f)) w1.heap.size (wdCells f) 45 ∧ Below w.heap.size w ((w1.alloc (.cells (wdCells (fun _ => 0)) 45)).setRow w1.heap.size (wdCells f)) from
    ⟨(Blk.new w1 _ _).row _, below_setRow (HB1.out.alloc HB1.out.size _) HB1.out.size _⟩)
  obtain ⟨W2, hW2⟩ : ∃ W2, (w1.alloc (.cells (wdCells (fun _ => 0)) 45)).setRow w1.heap.size (wdCells f) = W2 := ⟨_, rfl⟩
  obtain ⟨wb, hwb⟩ : ∃ wb, w1.heap.size = wb := ⟨_, rfl⟩
  have HW2 := Lib.hid hW2
  have HWb := Lib.hid hwb
  rw [hW2, hwb] at HF2
  rw [hwb] at HW2
  clear hW2 hwb
  go_upto_region 3 with (first
    | ((with_reducible refine wpList_alloc_wdAt (o := ⟨some 6, _, _, _, _, _⟩) rfl rfl wb ?hz ?_); (case hz => exact HWb.out))
    | ((with_reducible refine wpList_store_wd (o := ⟨none, .store 45 (.tmp 6) (.tmp 9), _, _, _, _⟩) ?hg (.tmp 6) (.tmp 9) ?ho wb f (fun _ => 0) ?hx ?hy ?hb ?_); (case hg => rfl); (case ho => rfl); (case hx => exact ev_tmp (by simp [Act.put])); (case hy => exact ev_tmp (by simp [Act.put])); (case hb => rw [← HWb.out]; exact Blk.new w1 _ _); rw [HW2.out]; simp [Act.put]))
  go_wp2_with (fail)
  have hwlt := HF2.out.1.lt
  have Hcell := Lib.hid (show ∀ k, k < 24 → W2.cell? ⟨wb, k, none⟩ = some (.int .u64 (f k)) from fun k hk => (HF2.out.1.cell k).trans (wdCells_get f k hk))
  go_loopw [5, 7] (fun ov iv wr => ∃ k : Nat, k ≤ 24 ∧ iv = .int .i64 k ∧ wr.ownsRow W2.heap.size 32 2 ov (putW a f k).length (ecells (putW a f k)) ∧ Below W2.heap.size W2 wr) (fun _ iv _ => 24 - (intOf iv).toNat)
  case atStart => exact ⟨0, by omega, rfl, World.ownsRow_nil _ _ _ _, Below.refl _ _⟩
  case round =>
    obtain ⟨k, hk, rfl, hown, hBr⟩ := hrel
    by_cases hlt : k < 24
    · have hck := (hBr.cell (p := ⟨wb, k, none⟩) hwlt).trans (Hcell.out k hlt)
      have hlt2 : (k : Int) < 24 := by omega
      have hw1 : IntKind.i64.wrap (8 * (k : Int)) = 8 * (k : Int) := IntWalk.i64_in _ (by omega)
      have hw2 : IntKind.u64.wrap (8 * (k : Int)) = 8 * (k : Int) := IntWalk.u64_in _ (by omega)
      have hw3 : IntKind.u64.wrap (a + 8 * (k : Int)) = a + 8 * (k : Int) := IntWalk.u64_in _ (by omega)
      have HS := Lib.hid (putW_succ a f k)
      have hpl := putW_len a f k
      have HP := Lib.hid hpl
      obtain ⟨x, hx⟩ : ∃ x, f k = x := ⟨_, rfl⟩
      rw [hx] at hck HS
      have hsz := hBr.size
      clear hpl hx
      go_wp2_with (at_builtin; refine wpList_append_own _ rfl _ _ 22 rfl W2.heap.size 32 i0 (.agg #[.int .u64 0, .int .u64 0]) 2 16 Try.underlying22 hi hz0 hz1 hz2 rfl (by decide) _ _ _ rfl (hown.alloc _) ⟨wr.heap.size, 0, none⟩ 1 1 [.int .u64 (a + 8 * (k : Int)), .int .u64 x] rfl rfl (cells_two_new _ _ _ _) (by simp [Value.oneCell']) (by rw [HP.out]; unfold maxLen; omega) (by rw [HP.out]; omega) (by simp; omega) ?_)
      intro v' w6 hown' hgrow hnil
      have HO6 := Lib.hid hown'
      have HB6 := Lib.hid ((hBr.alloc hsz (.cells #[.int .u64 (a + 8 * (k : Int)), .int .u64 x] 32)).grown hgrow (by simp; omega) (fun r e => own_base hown _ e))
      clear hown' hgrow hnil hown hBr
      go_wp2_with (fail)
      go_roundw
      case rel => exact ⟨k + 1, by omega, by go_num, by rw [HS.out, List.length_append, ecells_snoc]; exact HO6.out, HB6.out⟩
      case measure => simp [intOf]; omega
    · have hk2 : k = 24 := by omega
      subst hk2
      rw [putW_len] at hown
      have HO := Lib.hid hown
      have HBr := Lib.hid hBr
      clear hown hBr hlt
      go_wp2_with (fail)
      go_ret
      exact ⟨_, rfl, own_mono HO.out HF2.out.2.size, HF2.out.2.trans (HBr.out.mono HF2.out.2.size)⟩
end Go.Proofs.Ytgmbnoimlffgcaa
namespace Go.Proofs.Ytgmbnoimlffgcaa
open Go.RowKit
attribute [local go_sem] Oper.semAt_some
set_option linter.unusedVariables false

/-- a memory, as it is seen -/
def MemV (w : World) (mb : Nat) (S : Nat → Prop) (vs : List Int) (lo st fl fe : Int) : Prop := ∃ is mk F, MemP w mb S vs is mk F lo st fl fe
/-- .. as it goes on from a world -/
structure MemE (w3 : World) (S0 : Nat → Prop) (mb : Nat) (vs : List Int) (lo st fl fe : Int) (wr : World) : Prop where
  m : ∃ S, MemV wr mb S vs lo st fl fe ∧ ∀ i, S i → S0 i ∨ w3.heap.size ≤ i
  k : Keeps S0 w3 wr
def SE (w3 : World) (S0 : Nat → Prop) : Nat → Prop := fun i => S0 i ∨ w3.heap.size ≤ i
section
variable {w w3 wr wr' : World} {S0 S : Nat → Prop} {mb : Nat} {vs : List Int} {lo st fl fe : Int}
theorem MemE.start (h : MemV w mb S vs lo st fl fe) : MemE w S mb vs lo st fl fe w := ⟨⟨S, h, fun i hi => .inl hi⟩, Keeps.refl _ _⟩
theorem MemE.below (h : MemE w3 S0 mb vs lo st fl fe wr) (hB : Below wr.heap.size wr wr') : MemE w3 S0 mb vs lo st fl fe wr' := by
  obtain ⟨⟨S, ⟨is, mk, F, hm⟩, hs⟩, hk⟩ := h
  exact ⟨⟨S, ⟨is, mk, F, hm.below hB⟩, hs⟩, hk.trans ((Keeps.of_below' hB).mono (fun _ _ h => h.elim))⟩
theorem MemE.kept {T : Nat → Prop} (h : MemE w3 S0 mb vs lo st fl fe wr) (hk : Keeps T wr wr') (hT : ∀ i, T i → ¬ S0 i ∧ w3.heap.size ≤ i ∧ ∀ S, MemV wr mb S vs lo st fl fe → ¬ S i) : MemE w3 S0 mb vs lo st fl fe wr' := by
  obtain ⟨⟨S, hm, hs⟩, hk0⟩ := h
  have hm' := hm
  obtain ⟨is, mk, F, hm⟩ := hm
  exact ⟨⟨S, ⟨is, mk, F, hm.kept hk (fun i hi ht => (hT i ht).2.2 S hm' hi)⟩, hs⟩, hk0.trans' hk (fun i hi ht => by have := (hT i ht).2.1; omega)⟩
theorem MemE.step {st' fl' fe' lo' : Int} {vs' : List Int} (h : MemE w3 S0 mb vs lo st fl fe wr) (S : Nat → Prop) (hs : ∀ i, S i → S0 i ∨ w3.heap.size ≤ i) {is : List Int} {mk : Int → Nat → Int} {F : Int → List (Int × Int)}
    (hG : MemG wr mb S vs' is mk F lo' st' fl' fe' wr') : MemE w3 S0 mb vs' lo' st' fl' fe' wr' ∧ Keeps (SE w3 S0) wr wr' := by
  obtain ⟨S', hm, hs', hk⟩ := hG
  have h3 := h.k.size
  refine ⟨⟨⟨S', ⟨is, mk, F, hm⟩, fun i hi => ?_⟩, h.k.trans' hk (fun i hi ht => ?_)⟩, hk.mono (fun i _ hi => hs i hi)⟩
  · rcases hs' i hi with h | h
    · exact hs i h
    · exact .inr (by omega)
  · rcases hs i ht with h | h
    · exact h
    · omega
theorem MemE.store (h : MemE w3 S0 mb vs lo st fl fe wr) (a x : Int) (h0 : 0 ≤ a) (h1 : a ≤ 18446744073709551615) (he : atE vs.length a = 0) (hs : st ≤ 1000000) :
    Calls Try.prog 9 #[.pointer (some ⟨mb, 0, none⟩), .int .u64 a, .int .u64 x] wr fun e w' => e = .returned (.int .i64 0) ∧ MemE w3 S0 mb (vs.set (a / 8).toNat x) lo (st + 1) fl fe w' ∧ Keeps (SE w3 S0) wr w' := by
  have h' := h
  obtain ⟨⟨S, ⟨is, mk, F, hm⟩, hS⟩, hk⟩ := h
  refine (store_m hm a x h0 h1 he hs).mono ?_
  rintro e w' ⟨rfl, hG⟩
  exact ⟨rfl, h'.step S hS hG⟩
theorem MemE.flush (h : MemE w3 S0 mb vs lo st fl fe wr) (c : Nat) (hc : c ≤ 64) (a : Int) (h0 : 0 ≤ a) (h1 : a ≤ 18446744073709551615) (he : atE vs.length a = 0) (hs : st ≤ 1000000) (hf : fl ≤ 1000000) :
    Calls Try.prog 40 #[.pointer (some ⟨mb, 0, none⟩), .int .i64 c, .int .u64 a] wr fun e w' => e = .returned (.int .i64 0) ∧ MemE w3 S0 mb vs lo st (fl + 1) fe w' ∧ Keeps (SE w3 S0) wr w' := by
  have h' := h
  obtain ⟨⟨S, ⟨is, mk, F, hm⟩, hS⟩, hk⟩ := h
  refine (flush_m hm c hc a h0 h1 he hs hf).mono ?_
  rintro e w' ⟨rfl, hG⟩
  exact ⟨rfl, h'.step S hS hG⟩
theorem MemE.fence (h : MemE w3 S0 mb vs lo st fl fe wr) (c : Nat) (hc : c ≤ 64) (hs : st ≤ 1000000) (hf : fe ≤ 1000000) :
    Calls Try.prog 41 #[.pointer (some ⟨mb, 0, none⟩), .int .i64 c] wr fun e w' => e = .returned (.int .i64 0) ∧ MemE w3 S0 mb vs lo st fl (fe + 1) w' ∧ Keeps (SE w3 S0) wr w' := by
  have h' := h
  obtain ⟨⟨S, ⟨is, mk, F, hm⟩, hS⟩, hk⟩ := h
  refine (fence_m hm c hc hs hf).mono ?_
  rintro e w' ⟨rfl, mk', is', _, _, _, _, hG⟩
  exact ⟨rfl, h'.step S hS hG⟩
theorem MemE.load (h : MemE w3 S0 mb vs lo st fl fe wr) (a : Int) (h0 : 0 ≤ a) (h1 : a ≤ 18446744073709551615) :
    Calls Try.prog 14 #[.pointer (some ⟨mb, 0, none⟩), .int .u64 a] wr fun e w' => e = .returned (.tuple #[.int .u64 (ldW vs a), .int .i64 (atE vs.length a)]) ∧ MemE w3 S0 mb vs (ldN vs.length a lo) st fl fe w' ∧ Keeps (SE w3 S0) wr w' := by
  have h' := h
  obtain ⟨⟨S, ⟨is, mk, F, hm⟩, hS⟩, hk⟩ := h
  refine (load_w hm a h0 h1).mono ?_
  rintro e w' ⟨rfl, hm', hk'⟩
  exact ⟨rfl, h'.step S hS ⟨S, hm', fun i hi => .inl hi, hk'⟩⟩
end
/-- the worlds of a drawn region with one store -/
structure Ld8 (w3 : World) (S0 : Nat → Prop) (mb : Nat) (wr : World) (vs : List Int) (st : Int) (L : Nat → Bool) (W : World) : Prop where
  n : L 11 = false → W = wr.drew
  y : L 11 = true → MemE w3 S0 mb vs 0 st 0 0 W
  k : Keeps (SE w3 S0) wr W
/-- what a row of stores makes of a view -/
theorem lastIm_u64 : ∀ (l : List (Int × Int)) {vs : List Int}, U64s vs → (∀ p ∈ l, 0 ≤ p.2 ∧ p.2 ≤ 18446744073709551615) → U64s (lastIm vs l)
  | [], _, h, _ => h
  | p :: l, vs, h, hp => by
    rw [lastIm_cons]
    refine lastIm_u64 l (fun x hx => ?_) (fun q hq => hp q (List.mem_cons_of_mem _ hq))
    rcases List.mem_or_eq_of_mem_set hx with hx | hx
    · exact h x hx
    · rw [hx]; exact hp p List.mem_cons_self
theorem lastIm_putW (f : Nat → Int) (b : Nat) (vs : List Int) : ∀ (n : Nat), b + n ≤ vs.length → ∀ i, (lastIm vs (putW (8 * (b : Int)) f n)).getD i 0 = if b ≤ i ∧ i < b + n then f (i - b) else vs.getD i 0
  | 0, _, i => by rw [if_neg (by omega)]; rfl
  | n + 1, h, i => by
    rw [putW_succ]
    have hcat : ∀ (l1 l2 : List (Int × Int)) (is : List Int), lastIm is (l1 ++ l2) = lastIm (lastIm is l1) l2 := fun l1 l2 is => by unfold lastIm; rw [List.foldl_append]
    rw [hcat, lastIm_cons]
    show ((lastIm vs (putW (8 * (b : Int)) f n)).set ((8 * (b : Int) + 8 * (n : Int)) / 8).toNat (f n)).getD i 0 = _
    rw [show ((8 * (b : Int) + 8 * (n : Int)) / 8).toNat = b + n by omega, getD_set_eq, lastIm_len, lastIm_putW f b vs n (by omega) i]
    by_cases e : b + n = i
    · subst e
      rw [if_pos ⟨rfl, by omega⟩, if_pos (by omega), show b + n - b = n by omega]
    · rw [if_neg (by omega)]
      by_cases c : b ≤ i ∧ i < b + n
      · rw [if_pos c, if_pos (by omega)]
      · rw [if_neg c, if_neg (by omega)]
end Go.Proofs.Ytgmbnoimlffgcaa
