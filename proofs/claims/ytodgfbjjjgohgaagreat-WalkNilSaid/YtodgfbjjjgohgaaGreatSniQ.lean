/-
  A snapshot of a memory that nobody changes: where it stands behind so many steps; one step.
-/
import Derived.Test.YtodgfbjjjgohgaaGreatSnhQ
namespace Go.Proofs.YtodgfbjjjgohgaaGreat
open Go.RowKit
set_option linter.unusedVariables false

/-! ### which words are read -/
def pthB (W : Nat → Int) (i : Nat) : Bool := decide (i ≤ 2) || decide (i = 4) || (decide (8 ≤ i) && decide (i < 24) && (List.range i).all (fun j => decide (j < 9) || decide (j % 2 = 0) || decide (W j ≠ 0)))
theorem pthB_iff (W : Nat → Int) (i : Nat) : pthB W i = true ↔ (i ≤ 2 ∨ i = 4 ∨ (8 ≤ i ∧ i < 24 ∧ ∀ j, j < i → 9 ≤ j → j % 2 = 1 → W j ≠ 0)) := by
  unfold pthB
  simp only [Bool.or_eq_true, Bool.and_eq_true, decide_eq_true_eq, List.all_eq_true, List.mem_range]
  constructor
  · rintro ((h | h) | ⟨⟨h1, h2⟩, h3⟩)
    · exact .inl h
    · exact .inr (.inl h)
    · refine .inr (.inr ⟨h1, h2, fun j hj h9 ho => ?_⟩)
      rcases h3 j hj with (h | h) | h
      · omega
      · omega
      · exact h
  · rintro (h | h | ⟨h1, h2, h3⟩)
    · exact .inl (.inl h)
    · exact .inl (.inr h)
    · refine .inr ⟨⟨h1, h2⟩, fun j hj => ?_⟩
      by_cases h9 : j < 9
      · exact .inl (.inl h9)
      · by_cases ho : j % 2 = 0
        · exact .inl (.inr ho)
        · exact .inr (h3 j hj (by omega) (by omega))
theorem pth_next {W : Nat → Int} {k : Nat} (hk : pthB W k = true) (hq : 0 ≤ aftP k (W k)) : ∃ q : Nat, aftP k (W k) = (q : Int) ∧ q < 24 ∧ k < q ∧ pthB W q = true ∧ ∀ i, (pthB W i = true ∧ i < q) ↔ ((pthB W i = true ∧ i < k) ∨ i = k) := by
  have h := (pthB_iff W k).1 hk
  unfold aftP at hq ⊢
  by_cases c1 : k = 2
  · subst c1
    refine ⟨4, rfl, by decide, by decide, (pthB_iff W 4).2 (.inr (.inl rfl)), fun i => ?_⟩
    constructor
    · rintro ⟨h1, h2⟩
      rcases (pthB_iff W i).1 h1 with h | h | h
      · by_cases e : i = 2; exact .inr e; exact .inl ⟨h1, by omega⟩
      · omega
      · omega
    · rintro (⟨h1, h2⟩ | rfl)
      · exact ⟨h1, by omega⟩
      · exact ⟨hk, by omega⟩
  rw [if_neg c1] at hq ⊢
  by_cases c2 : k = 4
  · subst c2
    refine ⟨8, rfl, by decide, by decide, (pthB_iff W 8).2 (.inr (.inr ⟨by omega, by omega, fun j hj h9 => by omega⟩)), fun i => ?_⟩
    constructor
    · rintro ⟨h1, h2⟩
      rcases (pthB_iff W i).1 h1 with h | h | h
      · exact .inl ⟨h1, by omega⟩
      · exact .inr h
      · omega
    · rintro (⟨h1, h2⟩ | rfl)
      · exact ⟨h1, by omega⟩
      · exact ⟨hk, by omega⟩
  rw [if_neg c2] at hq ⊢
  by_cases c3 : k < 2
  · rw [if_pos c3] at hq ⊢
    refine ⟨k + 1, by omega, by omega, by omega, (pthB_iff W _).2 (.inl (by omega)), fun i => ?_⟩
    constructor
    · rintro ⟨h1, h2⟩
      by_cases e : i = k; exact .inr e; exact .inl ⟨h1, by omega⟩
    · rintro (⟨h1, h2⟩ | rfl)
      · exact ⟨h1, by omega⟩
      · exact ⟨hk, by omega⟩
  rw [if_neg c3] at hq ⊢
  by_cases c4 : k % 2 = 1 ∧ (W k = 0 ∨ k = 23)
  · rw [if_pos c4] at hq; omega
  rw [if_neg c4] at hq ⊢
  have h8 : 8 ≤ k ∧ k < 24 ∧ ∀ j, j < k → 9 ≤ j → j % 2 = 1 → W j ≠ 0 := by
    rcases h with h | h | h
    · omega
    · omega
    · exact h
  have hk23 : k ≠ 23 := fun e => c4 ⟨by omega, .inr e⟩
  refine ⟨k + 1, by omega, by omega, by omega, (pthB_iff W _).2 (.inr (.inr ⟨by omega, by omega, fun j hj h9 ho => ?_⟩)), fun i => ?_⟩
  · by_cases e : j = k
    · subst e; exact fun h0 => c4 ⟨ho, .inl h0⟩
    · exact h8.2.2 j (by omega) h9 ho
  · constructor
    · rintro ⟨h1, h2⟩
      by_cases e : i = k; exact .inr e; exact .inl ⟨h1, by omega⟩
    · rintro (⟨h1, h2⟩ | rfl)
      · exact ⟨h1, by omega⟩
      · exact ⟨hk, by omega⟩
theorem pth_last {W : Nat → Int} {k : Nat} (hk : pthB W k = true) (hk24 : k < 24) (hq : ¬ 0 ≤ aftP k (W k)) : 8 ≤ k ∧ ∀ i, (pthB W i = true ∧ i < 24) ↔ ((pthB W i = true ∧ i < k) ∨ i = k) := by
  have h := (pthB_iff W k).1 hk
  unfold aftP at hq
  by_cases c1 : k = 2
  · rw [if_pos c1] at hq; omega
  rw [if_neg c1] at hq
  by_cases c2 : k = 4
  · rw [if_pos c2] at hq; omega
  rw [if_neg c2] at hq
  by_cases c3 : k < 2
  · rw [if_pos c3] at hq; omega
  rw [if_neg c3] at hq
  by_cases c4 : k % 2 = 1 ∧ (W k = 0 ∨ k = 23)
  · refine ⟨by omega, fun i => ?_⟩
    constructor
    · rintro ⟨h1, h2⟩
      by_cases e : i = k
      · exact .inr e
      · refine .inl ⟨h1, ?_⟩
        rcases (pthB_iff W i).1 h1 with h | h | h
        · omega
        · omega
        · rcases Nat.lt_or_ge i k with hlt | hge
          · exact hlt
          · rcases c4.2 with h0 | h0
            · exact absurd h0 (h.2.2 k (by omega) (by omega) c4.1)
            · omega
    · rintro (⟨h1, h2⟩ | rfl)
      · exact ⟨h1, by omega⟩
      · exact ⟨hk, hk24⟩
  · rw [if_neg c4] at hq; omega
/-- what has been read of words, up to a place -/
def rdW (W : Nat → Int) (k : Nat) : Nat → Int := fun i => if i = 3 ∨ (pthB W i = true ∧ i < k) then W i else 0
theorem rdW_set {W : Nat → Int} {k q : Nat} (h : ∀ i, (pthB W i = true ∧ i < q) ↔ ((pthB W i = true ∧ i < k) ∨ i = k)) : wset (rdW W k) k (W k) = rdW W q := by
  funext i
  unfold wset rdW
  by_cases e : i = k
  · subst e
    rw [if_pos rfl, if_pos (.inr ((h i).2 (.inr rfl)))]
  · rw [if_neg e]
    by_cases c : i = 3 ∨ (pthB W i = true ∧ i < k)
    · rw [if_pos c, if_pos (by rcases c with c | c; exact .inl c; exact .inr ((h i).2 (.inl c)))]
    · rw [if_neg c, if_neg (fun c2 => c (by rcases c2 with c2 | c2; exact .inl c2; rcases (h i).1 c2 with c3 | c3; exact .inr c3; exact absurd c3 e))]
theorem rdW_at {W : Nat → Int} {k i : Nat} (hp : pthB W i = true) (hi : i < k) : rdW W k i = W i := if_pos (.inr ⟨hp, hi⟩)
theorem rdW_3 (W : Nat → Int) (k : Nat) : rdW W k 3 = W 3 := if_pos (.inl rfl)
def idxK (k : Nat) : Nat := if k ≤ 2 then k else if k = 4 then 3 else k - 4
theorem idx_next {W : Nat → Int} {k q : Nat} (hk : pthB W k = true) (hq : aftP k (W k) = (q : Int)) : idxK q = idxK k + 1 := by
  have h := (pthB_iff W k).1 hk
  unfold aftP at hq
  unfold idxK
  by_cases c1 : k = 2
  · subst c1; rw [if_pos rfl] at hq; obtain rfl : q = 4 := by omega
    decide
  rw [if_neg c1] at hq
  by_cases c2 : k = 4
  · subst c2; rw [if_pos rfl] at hq; obtain rfl : q = 8 := by omega
    decide
  rw [if_neg c2] at hq
  by_cases c3 : k < 2
  · rw [if_pos c3] at hq; obtain rfl : q = k + 1 := by omega
    rw [if_pos (by omega), if_pos (by omega)]
  rw [if_neg c3] at hq
  by_cases c4 : k % 2 = 1 ∧ (W k = 0 ∨ k = 23)
  · rw [if_pos c4] at hq; omega
  · rw [if_neg c4] at hq; obtain rfl : q = k + 1 := by omega
    rw [if_neg (by omega), if_neg (by omega), if_neg (by omega), if_neg (by omega)]
    omega
theorem idx_le {k : Nat} (h : k < 24) : idxK k ≤ 19 := by unfold idxK; split; omega; split; omega; omega

/-! ### where it stands -/
def wdM (vw : List Int) (a : Int) (i : Nat) : Int := ldW vw (wrdA a i)
def erM (vw : List Int) (a : Int) (i : Nat) : Int := atE vw.length (wrdA a i)
structure SnB (mv : Option Addr) (a : Int) (s : Sn) : Prop where
  mv : s.mv = mv
  at_ : s.at_ = a
  over : s.over = false
structure SnR (vw : List Int) (a : Int) (s : Sn) (sb kn : Nat) : Prop where
  step : s.step = phV sb 92
  k : s.k = (kn : Int)
  lt : kn < 24
  p : pthB (wdM vw a) kn = true
  has : s.has = false
  e3 : erM vw a 3 = 0
/-- behind i steps -/
def SnI (sb : Nat) (mv : Option Addr) (vw : List Int) (a : Int) (i : Nat) (s : Sn) : Prop :=
  SnB mv a s ∧ (
    (i = 0 ∧ s.step = phV sb 88 ∧ s.a = (fun _ => 0) ∧ s.b = (fun _ => 0) ∧ s.k = 0 ∧ s.last = false ∧ s.has = false) ∨
    (∃ kn, SnR vw a s sb kn ∧ s.last = false ∧ s.a = rdW (wdM vw a) kn ∧ s.b = rdW (wdM vw a) 0 ∧ (∀ j, pthB (wdM vw a) j = true → j < kn → erM vw a j = 0) ∧ i ≤ 1 + idxK kn) ∨
    (∃ kn, SnR vw a s sb kn ∧ s.last = true ∧ s.a = rdW (wdM vw a) 24 ∧ s.b = rdW (wdM vw a) kn ∧ (∀ j, pthB (wdM vw a) j = true → j < 24 → erM vw a j = 0) ∧ i ≤ 21 + idxK kn) ∨
    (s.step = phV sb 95 ∧ s.a = rdW (wdM vw a) 24 ∧ s.b = rdW (wdM vw a) 24 ∧ s.has = false ∧ erM vw a 3 = 0 ∧ (∀ j, pthB (wdM vw a) j = true → j < 24 → erM vw a j = 0) ∧ wdM vw a 2 ≠ 0 ∧ i ≤ 41) ∨
    (s.step = phV sb 96 ∧ s.a = rdW (wdM vw a) 24 ∧ s.b = rdW (wdM vw a) 24 ∧ s.has = decide (wdM vw a 2 ≠ 0) ∧ (wdM vw a 2 ≠ 0 → s.high = ldW vw (wrdA (wdM vw a 2) 1) ∧ atE vw.length (wrdA (wdM vw a 2) 1) = 0) ∧ erM vw a 3 = 0 ∧ (∀ j, pthB (wdM vw a) j = true → j < 24 → erM vw a j = 0) ∧ i ≤ 42))
/-- at the end -/
structure SnD (sb : Nat) (vw : List Int) (a : Int) (er : Int) (s : Sn) : Prop where
  over : s.over = true
  e : s.e = er
  step : ∃ f, s.step = phV sb f
  res : (er = 3 ∧ (erM vw a 3 = 3 ∨ (∃ j, pthB (wdM vw a) j = true ∧ j < 24 ∧ erM vw a j = 3) ∨ (wdM vw a 2 ≠ 0 ∧ atE vw.length (wrdA (wdM vw a 2) 1) = 3))) ∨
    (er = (ofV (rdW (wdM vw a) 24)).2 ∧ s.found = (ofV (rdW (wdM vw a) 24)).1 ∧ s.has = decide (wdM vw a 2 ≠ 0) ∧ (wdM vw a 2 ≠ 0 → s.high = ldW vw (wrdA (wdM vw a 2) 1)))
def StepR (sb : Nat) (mv : Option Addr) (vw : List Int) (a : Int) (i : Nat) (d : Bool) (er : Int) (s : Sn) : Prop := (d = false ∧ er = 0 ∧ SnI sb mv vw a (i + 1) s) ∨ (d = true ∧ SnD sb vw a er s)
theorem rdW_zero (W : Nat → Int) : wset (fun _ => 0) 3 (W 3) = rdW W 0 := by
  funext i
  unfold wset rdW
  by_cases e : i = 3
  · subst e; rw [if_pos rfl, if_pos (.inl rfl)]
  · rw [if_neg e, if_neg (by rintro (h | ⟨_, h⟩); exact e h; omega)]
theorem rdW_u64 {vw : List Int} (hu : U64s vw) (a : Int) (k i : Nat) : 0 ≤ rdW (wdM vw a) k i ∧ rdW (wdM vw a) k i ≤ 18446744073709551615 := by
  unfold rdW
  split
  · exact ldW_u64 hu _
  · decide
theorem eqWd_self (f : Nat → Int) : eqWd f f = true := by
  unfold eqWd
  rw [List.all_eq_true]
  intro i _
  exact beq_self_eq_true _
section
variable {sb : Nat} {mv : Option Addr} {vw : List Int} {a : Int} {i : Nat} {s : Sn}
/-- counts -/
theorem stepr_ct (hB : SnB mv a s) (hi : i = 0) (ha : s.a = (fun _ => 0)) (hb : s.b = (fun _ => 0)) (hk : s.k = 0) (hl : s.last = false) (hh : s.has = false) :
    StepR sb mv vw a i (false || erM vw a 3 != 0) (erM vw a 3) (snOver (snCounts sb vw s) false (erM vw a 3)) := by
  rcases atE_or vw.length (wrdA a 3) with e | e
  · have e0 : erM vw a 3 = 0 := e
    refine .inl ⟨by rw [e0]; decide, e0, ⟨hB.mv, hB.at_, by rw [e0]; rfl⟩, .inr (.inl ⟨0, ⟨rfl, hk, by decide, (pthB_iff _ 0).2 (.inl (by decide)), hh, e0⟩, hl, ?_, ?_, fun j _ h => absurd h (by omega), by subst hi; decide⟩)⟩
    · show wset s.a 3 (ldW vw (wrdA s.at_ 3)) = _
      rw [ha, hB.at_]; exact rdW_zero (wdM vw a)
    · show wset s.b 3 (ldW vw (wrdA s.at_ 3)) = _
      rw [hb, hB.at_]; exact rdW_zero (wdM vw a)
  · have e0 : erM vw a 3 = 3 := e
    exact .inr ⟨by rw [e0]; decide, ⟨by rw [e0]; rfl, rfl, ⟨_, rfl⟩, .inl ⟨e0, .inl e0⟩⟩⟩
/-- reads: the first time -/
theorem stepr_rd1 {kn : Nat} (hB : SnB mv a s) (hR : SnR vw a s sb kn) (hl : s.last = false) (ha : s.a = rdW (wdM vw a) kn) (hb : s.b = rdW (wdM vw a) 0) (hE : ∀ j, pthB (wdM vw a) j = true → j < kn → erM vw a j = 0) (hi : i ≤ 1 + idxK kn) :
    StepR sb mv vw a i (false || erM vw a kn != 0) (erM vw a kn) (snOver (snReads sb vw s kn) false (erM vw a kn)) := by
  have hx := idx_le hR.lt
  rcases atE_or vw.length (wrdA a kn) with e | e
  · have e0 : erM vw a kn = 0 := e
    have hsr : snReads sb vw s kn = snGo sb { s with a := wset s.a kn (wdM vw a kn) } kn (wdM vw a kn) := by
      unfold snReads
      rw [hB.at_, if_pos e, hl, if_neg (by decide)]; rfl
    rw [hsr]
    unfold snGo
    by_cases hq : 0 ≤ aftP kn (wdM vw a kn)
    · obtain ⟨q, hqe, hq24, hkq, hqp, hqs⟩ := pth_next hR.p hq
      rw [if_pos hq, hqe]
      refine .inl ⟨by rw [e0]; decide, e0, ⟨hB.mv, hB.at_, by rw [e0]; rfl⟩, .inr (.inl ⟨q, ⟨hR.step, rfl, hq24, hqp, hR.has, hR.e3⟩, hl, ?_, hb, fun j hj hjq => ?_, by rw [idx_next hR.p hqe]; omega⟩)⟩
      · show wset s.a kn (wdM vw a kn) = _
        rw [ha]; exact rdW_set hqs
      · rcases (hqs j).1 ⟨hj, hjq⟩ with h | h
        · exact hE j h.1 h.2
        · rw [h]; exact e0
    · obtain ⟨h8, hqs⟩ := pth_last hR.p hR.lt hq
      rw [if_neg hq, if_pos hl]
      refine .inl ⟨by rw [e0]; decide, e0, ⟨hB.mv, hB.at_, by rw [e0]; rfl⟩, .inr (.inr (.inl ⟨0, ⟨hR.step, rfl, by decide, (pthB_iff _ 0).2 (.inl (by decide)), hR.has, hR.e3⟩, rfl, ?_, hb, fun j hj hjq => ?_, by show i + 1 ≤ 21 + 0; omega⟩))⟩
      · show wset s.a kn (wdM vw a kn) = _
        rw [ha]; exact rdW_set hqs
      · rcases (hqs j).1 ⟨hj, hjq⟩ with h | h
        · exact hE j h.1 h.2
        · rw [h]; exact e0
  · have e0 : erM vw a kn = 3 := e
    have hsr : snReads sb vw s kn = s := by
      unfold snReads
      rw [hB.at_, if_neg (by rw [e]; decide)]
    rw [hsr]
    exact .inr ⟨by rw [e0]; decide, ⟨by rw [e0]; rfl, rfl, ⟨_, hR.step⟩, .inl ⟨e0, .inr (.inl ⟨kn, hR.p, hR.lt, e0⟩)⟩⟩⟩
/-- reads: the second time -/
theorem stepr_rd2 {kn : Nat} (hB : SnB mv a s) (hR : SnR vw a s sb kn) (hl : s.last = true) (ha : s.a = rdW (wdM vw a) 24) (hb : s.b = rdW (wdM vw a) kn) (hE : ∀ j, pthB (wdM vw a) j = true → j < 24 → erM vw a j = 0) (hi : i ≤ 21 + idxK kn) :
    StepR sb mv vw a i (false || erM vw a kn != 0) (erM vw a kn) (snOver (snReads sb vw s kn) false (erM vw a kn)) := by
  have hx := idx_le hR.lt
  have e0 : erM vw a kn = 0 := hE kn hR.p hR.lt
  have hsr : snReads sb vw s kn = snGo sb { s with b := wset s.b kn (wdM vw a kn) } kn (wdM vw a kn) := by
    unfold snReads
    have hak : s.a kn = wdM vw a kn := by rw [ha]; exact rdW_at hR.p hR.lt
    rw [hB.at_, if_pos (show atE vw.length (wrdA a kn) = 0 from e0), hl, if_pos rfl, hak, if_neg (fun h => h rfl)]; rfl
  have ha2 : s.a 2 = wdM vw a 2 := by rw [ha]; exact rdW_at ((pthB_iff _ 2).2 (.inl (by decide))) (by decide)
  rw [hsr]
  unfold snGo
  by_cases hq : 0 ≤ aftP kn (wdM vw a kn)
  · obtain ⟨q, hqe, hq24, hkq, hqp, hqs⟩ := pth_next hR.p hq
    rw [if_pos hq, hqe]
    refine .inl ⟨by rw [e0]; decide, e0, ⟨hB.mv, hB.at_, by rw [e0]; rfl⟩, .inr (.inr (.inl ⟨q, ⟨hR.step, rfl, hq24, hqp, hR.has, hR.e3⟩, hl, ha, ?_, hE, by rw [idx_next hR.p hqe]; omega⟩))⟩
    show wset s.b kn (wdM vw a kn) = _
    rw [hb]; exact rdW_set hqs
  · obtain ⟨h8, hqs⟩ := pth_last hR.p hR.lt hq
    rw [if_neg hq, if_neg (by rw [hl]; decide)]
    have hbn : wset s.b kn (wdM vw a kn) = rdW (wdM vw a) 24 := by rw [hb]; exact rdW_set hqs
    by_cases hz : wdM vw a 2 = 0
    · rw [if_neg (by show ¬ s.a 2 ≠ 0; rw [ha2]; exact fun h => h hz)]
      refine .inl ⟨by rw [e0]; decide, e0, ⟨hB.mv, hB.at_, by rw [e0]; rfl⟩, .inr (.inr (.inr (.inr ⟨rfl, ha, hbn, ?_, fun h => absurd hz h, hR.e3, hE, by omega⟩)))⟩
      show s.has = _
      rw [hR.has, decide_eq_false (fun h => h hz)]
    · rw [if_pos (by show s.a 2 ≠ 0; rw [ha2]; exact hz)]
      exact .inl ⟨by rw [e0]; decide, e0, ⟨hB.mv, hB.at_, by rw [e0]; rfl⟩, .inr (.inr (.inr (.inl ⟨rfl, ha, hbn, hR.has, hR.e3, hE, hz, by omega⟩)))⟩
/-- bound -/
theorem stepr_bd (hB : SnB mv a s) (ha : s.a = rdW (wdM vw a) 24) (hb : s.b = rdW (wdM vw a) 24) (he3 : erM vw a 3 = 0) (hE : ∀ j, pthB (wdM vw a) j = true → j < 24 → erM vw a j = 0) (hz : wdM vw a 2 ≠ 0) (hi : i ≤ 41) :
    StepR sb mv vw a i (false || atE vw.length (wrdA (s.a 2) 1) != 0) (atE vw.length (wrdA (s.a 2) 1)) (snOver (snBound sb vw s) false (atE vw.length (wrdA (s.a 2) 1))) := by
  have ha2 : s.a 2 = wdM vw a 2 := by rw [ha]; exact rdW_at ((pthB_iff _ 2).2 (.inl (by decide))) (by decide)
  have hbh : (snBound sb vw s).high = ldW vw (wrdA (wdM vw a 2) 1) := by rw [← ha2]; rfl
  rw [ha2]
  rcases atE_or vw.length (wrdA (wdM vw a 2) 1) with e | e
  · rw [e]
    exact .inl ⟨by decide, rfl, ⟨hB.mv, hB.at_, rfl⟩, .inr (.inr (.inr (.inr ⟨rfl, ha, hb, by rw [decide_eq_true hz]; rfl, fun _ => ⟨hbh, e⟩, he3, hE, by omega⟩)))⟩
  · rw [e]
    exact .inr ⟨by decide, ⟨rfl, rfl, ⟨_, rfl⟩, .inl ⟨rfl, .inr (.inr ⟨hz, e⟩)⟩⟩⟩
/-- again -/
theorem stepr_ag (hB : SnB mv a s) (hst : s.step = phV sb 96) (ha : s.a = rdW (wdM vw a) 24) (hb : s.b = rdW (wdM vw a) 24) (hh : s.has = decide (wdM vw a 2 ≠ 0)) (hhi : wdM vw a 2 ≠ 0 → s.high = ldW vw (wrdA (wdM vw a 2) 1)) (he3 : erM vw a 3 = 0) :
    StepR sb mv vw a i ((snAgain sb vw s).1 || (snAgain sb vw s).2.1 != 0) (snAgain sb vw s).2.1 (snOver (snAgain sb vw s).2.2 (snAgain sb vw s).1 (snAgain sb vw s).2.1) := by
  have hag : agBad vw s = false := by
    unfold agBad
    rw [hB.at_, ha, hb, rdW_3, eqWd_self]
    show (wdM vw a 3 != wdM vw a 3 || !true) = false
    rw [bne_self_eq_false]; rfl
  have hsa : snAgain sb vw s = (true, (ofV (rdW (wdM vw a) 24)).2, { s with found := (ofV (rdW (wdM vw a) 24)).1 }) := by
    unfold snAgain
    rw [hB.at_, if_pos (show atE vw.length (wrdA a 3) = 0 from he3), hag, if_neg (by decide), ha]
  rw [hsa]
  exact .inr ⟨by simp, ⟨by simp [snOver], rfl, ⟨_, hst⟩, .inr ⟨rfl, rfl, hh, hhi⟩⟩⟩
end
end Go.Proofs.YtodgfbjjjgohgaaGreat
