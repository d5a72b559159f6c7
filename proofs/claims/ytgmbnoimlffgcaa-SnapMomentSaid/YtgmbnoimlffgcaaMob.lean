/-
  A SNAPSHOT OF A MEMORY THAT SOMEBODY CHANGES: where it stands; one step; what it is at the end. (Plain, but for the words' places.)
-/
import Derived.Test.YtgmbnoimlffgcaaMoa
import Derived.Test.YtgmbnoimlffgcaaSno
namespace Go.Proofs.Ytgmbnoimlffgcaa
open Go.RowKit
set_option linter.unusedVariables false

/-! ### words as they were at each time -/
structure Crs (Wt : Nat → Nat → Int) (N : Nat) : Prop where
  back : ∀ i k j, i ≤ k → k ≤ j → j ≤ N → Wt i 3 = Wt j 3 → ∀ q, q < 24 → Wt i q = Wt j q → Wt k q = Wt i q
  nx : ∀ t, Wt t 2 = 0 ∨ Wt t 2 = 1280
/-- a memory that holds them -/
structure Holds (Wt : Nat → Nat → Int) (low : Int) (τ : Nat) (vw : List Int) : Prop where
  len : vw.length = 512
  at_ : ∀ i, i < 24 → vw.getD (136 + i) 0 = Wt τ i
  low : vw.getD 161 0 = low
theorem Holds.wd {Wt : Nat → Nat → Int} {low : Int} {τ : Nat} {vw : List Int} (h : Holds Wt low τ vw) {i : Nat} (hi : i < 24) : wdM vw 1088 i = Wt τ i ∧ erM vw 1088 i = 0 := by
  obtain ⟨a, b⟩ := wdM_at h.len i hi
  exact ⟨a.trans (h.at_ i hi), b⟩
theorem Holds.bd {Wt : Nat → Nat → Int} {low : Int} {τ : Nat} {vw : List Int} (h : Holds Wt low τ vw) : atE vw.length (wrdA 1280 1) = 0 ∧ ldW vw (wrdA 1280 1) = low := by
  have e1 : wrdA 1280 1 = 1288 := by decide
  have e2 : atE vw.length 1288 = 0 := by rw [h.len]; decide
  rw [e1]
  refine ⟨e2, ?_⟩
  unfold ldW
  rw [e2, if_pos rfl]
  exact h.low

theorem pthB_below {W V : Nat → Int} {i : Nat} (h : ∀ j, j < i → W j = V j) : pthB W i = pthB V i := by
  rw [Bool.eq_iff_iff, pthB_iff, pthB_iff]
  constructor
  · rintro (h1 | h1 | ⟨h1, h2, h3⟩)
    · exact .inl h1
    · exact .inr (.inl h1)
    · exact .inr (.inr ⟨h1, h2, fun j hj h9 ho => by rw [← h j hj]; exact h3 j hj h9 ho⟩)
  · rintro (h1 | h1 | ⟨h1, h2, h3⟩)
    · exact .inl h1
    · exact .inr (.inl h1)
    · exact .inr (.inr ⟨h1, h2, fun j hj h9 ho => by rw [h j hj]; exact h3 j hj h9 ho⟩)
theorem rdW_below {W V : Nat → Int} {k : Nat} (h3 : W 3 = V 3) (h : ∀ j, j < k → W j = V j) : rdW W k = rdW V k := by
  funext i
  unfold rdW
  by_cases e : i = 3
  · subst e; rw [if_pos (.inl rfl), if_pos (.inl rfl), h3]
  · by_cases hi : i < k
    · rw [pthB_below (fun j hj => h j (by omega)), h i hi]
    · rw [if_neg (by rintro (h1 | ⟨_, h1⟩); exact e h1; exact hi h1), if_neg (by rintro (h1 | ⟨_, h1⟩); exact e h1; exact hi h1)]
/-- words that agree on the path are read alike -/
theorem rdW_path {W V : Nat → Int} (h3 : W 3 = V 3) (h : ∀ j, j < 24 → pthB W j = true → W j = V j) : rdW W 24 = rdW V 24 := by
  have hp : ∀ i, i ≤ 24 → pthB W i = pthB V i := by
    intro i hi
    rw [Bool.eq_iff_iff, pthB_iff, pthB_iff]
    constructor
    · rintro (h1 | h1 | ⟨h1, h2, h4⟩)
      · exact .inl h1
      · exact .inr (.inl h1)
      · refine .inr (.inr ⟨h1, h2, fun j hj h9 ho => ?_⟩)
        rw [← h j (by omega) ((pthB_iff W j).2 (.inr (.inr ⟨by omega, by omega, fun u hu => h4 u (by omega)⟩)))]
        exact h4 j hj h9 ho
    · rintro (h1 | h1 | ⟨h1, h2, h4⟩)
      · exact .inl h1
      · exact .inr (.inl h1)
      · refine .inr (.inr ⟨h1, h2, ?_⟩)
        intro j
        induction j using Nat.strongRecOn with
        | ind j ih =>
          intro hj h9 ho
          rw [h j (by omega) ((pthB_iff W j).2 (.inr (.inr ⟨by omega, by omega, fun u hu h9u hou => ih u hu (by omega) h9u hou⟩)))]
          exact h4 j hj h9 ho
  funext i
  unfold rdW
  by_cases e : i = 3
  · subst e; rw [if_pos (.inl rfl), if_pos (.inl rfl), h3]
  by_cases hi : i < 24
  · rw [hp i (by omega)]
    by_cases hv : pthB V i = true
    · rw [if_pos (.inr ⟨hv, hi⟩), if_pos (.inr ⟨hv, hi⟩)]
      exact h i hi (by rw [hp i (by omega)]; exact hv)
    · rw [if_neg (by rintro (h1 | ⟨h1, _⟩); exact e h1; exact hv h1), if_neg (by rintro (h1 | ⟨h1, _⟩); exact e h1; exact hv h1)]
  · rw [if_neg (by rintro (h1 | ⟨_, h1⟩); exact e h1; exact hi h1), if_neg (by rintro (h1 | ⟨_, h1⟩); exact e h1; exact hi h1)]

/-! ### where it stands -/
/-- words on the path, below a place, as they were at times between two -/
def Got (Wt : Nat → Nat → Int) (A : Nat → Int) (kn c T : Nat) : Prop := ∀ j, j < kn → pthB A j = true → ∃ t, c ≤ t ∧ t ≤ T ∧ A j = Wt t j
theorem Got.le {Wt : Nat → Nat → Int} {A : Nat → Int} {kn c T T' : Nat} (h : Got Wt A kn c T) (hT : T ≤ T') : Got Wt A kn c T' := fun j hj hp => by
  obtain ⟨t, a, b, e⟩ := h j hj hp
  exact ⟨t, a, by omega, e⟩
structure MsR (A : Nat → Int) (s : Sn) (sb kn : Nat) : Prop where
  step : s.step = phV sb 68
  k : s.k = (kn : Int)
  lt : kn < 24
  p : pthB A kn = true
  has : s.has = false
structure MsC (Wt : Nat → Nat → Int) (τ0 τ c : Nat) (A : Nat → Int) : Prop where
  le0 : τ0 ≤ c
  le : c ≤ τ
  ct : A 3 = Wt c 3
def MsI (Wt : Nat → Nat → Int) (low : Int) (τ0 τ : Nat) (q : Prop) (sb : Nat) (mv : Option Addr) (i : Nat) (s : Sn) : Prop :=
  SnB mv 1088 s ∧ (
    (s.step = phV sb 53 ∧ s.a = (fun _ => 0) ∧ s.b = (fun _ => 0) ∧ s.k = 0 ∧ s.last = false ∧ s.has = false ∧ (q → i = 0)) ∨
    (∃ kn c A, MsR A s sb kn ∧ MsC Wt τ0 τ c A ∧ s.last = false ∧ s.a = rdW A kn ∧ s.b = rdW A 0 ∧ Got Wt A kn c τ ∧ (q → i ≤ 1 + idxK kn)) ∨
    (∃ kn c T A, MsR A s sb kn ∧ MsC Wt τ0 T c A ∧ T ≤ τ ∧ s.last = true ∧ s.a = rdW A 24 ∧ s.b = rdW A kn ∧ Got Wt A 24 c T ∧ Got Wt A kn T τ ∧ (q → i ≤ 21 + idxK kn)) ∨
    (∃ c T A, s.step = phV sb 87 ∧ MsC Wt τ0 T c A ∧ T ≤ τ ∧ s.a = rdW A 24 ∧ s.b = rdW A 24 ∧ Got Wt A 24 c T ∧ Got Wt A 24 T τ ∧ s.has = false ∧ A 2 ≠ 0 ∧ (q → i ≤ 41)) ∨
    (∃ c T A, s.step = phV sb 88 ∧ MsC Wt τ0 T c A ∧ T ≤ τ ∧ s.a = rdW A 24 ∧ s.b = rdW A 24 ∧ Got Wt A 24 c T ∧ Got Wt A 24 T τ ∧ s.has = decide (A 2 ≠ 0) ∧ (A 2 ≠ 0 → s.high = low) ∧ (q → i ≤ 42)))
/-- at the end -/
structure MsD (Wt : Nat → Nat → Int) (low : Int) (τ0 τ : Nat) (sb : Nat) (er : Int) (s : Sn) : Prop where
  over : s.over = true
  e : s.e = er
  step : ∃ f, s.step = phV sb f
  res : ∃ T, τ0 ≤ T ∧ T ≤ τ ∧ er = (ofV (rdW (Wt T) 24)).2 ∧ s.found = (ofV (rdW (Wt T) 24)).1 ∧ s.has = decide (Wt T 2 ≠ 0) ∧ (Wt T 2 ≠ 0 → s.high = low)
def StepM (Wt : Nat → Nat → Int) (low : Int) (τ0 τ : Nat) (q : Prop) (sb : Nat) (mv : Option Addr) (i : Nat) (d : Bool) (er : Int) (s : Sn) : Prop := (d = false ∧ er = 0 ∧ MsI Wt low τ0 τ q sb mv (i + 1) s) ∨ (d = true ∧ MsD Wt low τ0 τ sb er s)
section
variable {Wt : Nat → Nat → Int} {N : Nat} {low : Int} {τ0 τ : Nat} {q : Prop} {sb : Nat} {mv : Option Addr} {i : Nat} {s : Sn} {vw : List Int}
theorem MsI.new (hτ : τ0 ≤ τ) : MsI Wt low τ0 τ q sb mv 0 (snNew sb mv 1088) := ⟨⟨rfl, rfl, rfl⟩, .inl ⟨rfl, rfl, rfl, rfl, rfl, rfl, fun _ => rfl⟩⟩
/-- a step of the writer between -/
theorem MsI.turn (h : MsI Wt low τ0 τ q sb mv i s) (hq : ¬ q) {τ' : Nat} (hτ : τ ≤ τ') : MsI Wt low τ0 τ' q sb mv (i + 1) s := by
  obtain ⟨hB, h | ⟨kn, c, A, hR, hC, h1, h2, h3, h4, _⟩ | ⟨kn, c, T, A, hR, hC, hT, h1, h2, h3, h4, h5, _⟩ | ⟨c, T, A, h0, hC, hT, h1, h2, h3, h4, h5, h6, _⟩ | ⟨c, T, A, h0, hC, hT, h1, h2, h3, h4, h5, h6, _⟩⟩ := h
  · obtain ⟨a1, a2, a3, a4, a5, a6, _⟩ := h
    exact ⟨hB, .inl ⟨a1, a2, a3, a4, a5, a6, fun h => absurd h hq⟩⟩
  · exact ⟨hB, .inr (.inl ⟨kn, c, A, hR, ⟨hC.le0, by have := hC.le; omega, hC.ct⟩, h1, h2, h3, h4.le hτ, fun h => absurd h hq⟩)⟩
  · exact ⟨hB, .inr (.inr (.inl ⟨kn, c, T, A, hR, hC, by omega, h1, h2, h3, h4, h5.le hτ, fun h => absurd h hq⟩))⟩
  · exact ⟨hB, .inr (.inr (.inr (.inl ⟨c, T, A, h0, hC, by omega, h1, h2, h3, h4.le hτ, h5, h6, fun h => absurd h hq⟩)))⟩
  · exact ⟨hB, .inr (.inr (.inr (.inr ⟨c, T, A, h0, hC, by omega, h1, h2, h3, h4.le hτ, h5, h6, fun h => absurd h hq⟩)))⟩
/-- counts -/
theorem stepm_ct (hH : Holds Wt low τ vw) (hτ : τ0 ≤ τ) (hB : SnB mv 1088 s) (ha : s.a = (fun _ => 0)) (hb : s.b = (fun _ => 0)) (hk : s.k = 0) (hl : s.last = false) (hh : s.has = false) (hi : q → i = 0) :
    StepM Wt low τ0 τ q sb mv i (false || erM vw 1088 3 != 0) (erM vw 1088 3) (snOver (snCounts sb vw s) false (erM vw 1088 3)) := by
  obtain ⟨e1, e0⟩ := hH.wd (show 3 < 24 by decide)
  refine .inl ⟨by rw [e0]; decide, e0, ⟨hB.mv, hB.at_, by rw [e0]; rfl⟩, .inr (.inl ⟨0, τ, Wt τ, ⟨rfl, hk, by decide, (pthB_iff _ 0).2 (.inl (by decide)), hh⟩, ⟨hτ, Nat.le_refl _, rfl⟩, hl, ?_, ?_, fun j h => absurd h (by omega), fun h => by rw [hi h]; decide⟩)⟩
  · show wset s.a 3 (ldW vw (wrdA s.at_ 3)) = _
    rw [ha, hB.at_, show ldW vw (wrdA 1088 3) = Wt τ 3 from e1]; exact rdW_zero (Wt τ)
  · show wset s.b 3 (ldW vw (wrdA s.at_ 3)) = _
    rw [hb, hB.at_, show ldW vw (wrdA 1088 3) = Wt τ 3 from e1]; exact rdW_zero (Wt τ)
/-- reads: the first time -/
theorem stepm_rd1 {kn c : Nat} {A : Nat → Int} (hH : Holds Wt low τ vw) (hB : SnB mv 1088 s) (hR : MsR A s sb kn) (hC : MsC Wt τ0 τ c A) (hl : s.last = false) (ha : s.a = rdW A kn) (hb : s.b = rdW A 0) (hG : Got Wt A kn c τ) (hi : q → i ≤ 1 + idxK kn) :
    StepM Wt low τ0 τ q sb mv i (false || erM vw 1088 kn != 0) (erM vw 1088 kn) (snOver (snReads sb vw s kn) false (erM vw 1088 kn)) := by
  have hx := idx_le hR.lt
  obtain ⟨ev, e0⟩ := hH.wd hR.lt
  have hk3 : kn ≠ 3 := fun e => by have := hR.p; rw [e, pth_not3] at this; cases this
  obtain ⟨B, hBd⟩ : ∃ B, B = wset A kn (Wt τ kn) := ⟨_, rfl⟩
  have hBn : ∀ j, j ≠ kn → B j = A j := fun j hj => by rw [hBd]; unfold wset; rw [if_neg hj]
  have hBk : B kn = Wt τ kn := by rw [hBd]; unfold wset; rw [if_pos rfl]
  have hB3 : B 3 = A 3 := hBn 3 (fun h => hk3 h.symm)
  have hBp : pthB B kn = true := by rw [pthB_below (fun j hj => hBn j (by omega))]; exact hR.p
  have ha' : s.a = rdW B kn := by rw [ha]; exact (rdW_below hB3 (fun j hj => hBn j (by omega))).symm
  have hb' : s.b = rdW B 0 := by rw [hb]; exact (rdW_below hB3 (fun j hj => by omega)).symm
  have hCB : MsC Wt τ0 τ c B := ⟨hC.le0, hC.le, hB3.trans hC.ct⟩
  have hG' : ∀ k', (∀ j, (pthB B j = true ∧ j < k') → ((pthB B j = true ∧ j < kn) ∨ j = kn)) → Got Wt B k' c τ := fun k' hs j hj hp => by
    rcases hs j ⟨hp, hj⟩ with ⟨h1, h2⟩ | h
    · rw [hBn j (by omega)]
      exact hG j h2 (by rw [← pthB_below (fun u hu => hBn u (by omega))]; exact h1)
    · subst h
      exact ⟨τ, hC.le, Nat.le_refl _, hBk⟩
  have hsr : snReads sb vw s kn = snGo sb { s with a := wset s.a kn (B kn) } kn (B kn) := by
    unfold snReads
    rw [hB.at_, if_pos (show atE vw.length (wrdA 1088 kn) = 0 from e0), hl, if_neg (by decide), show ldW vw (wrdA 1088 kn) = B kn from ev.trans hBk.symm]
  rw [hsr]
  unfold snGo
  by_cases hq : 0 ≤ aftP kn (B kn)
  · obtain ⟨k', hqe, hq24, hkq, hqp, hqs⟩ := pth_next hBp hq
    rw [if_pos hq, hqe]
    refine .inl ⟨by rw [e0]; decide, e0, ⟨hB.mv, hB.at_, by rw [e0]; rfl⟩, .inr (.inl ⟨k', c, B, ⟨hR.step, rfl, hq24, hqp, hR.has⟩, hCB, hl, ?_, hb', hG' k' (fun j h => (hqs j).1 h), fun h => by have := hi h; rw [idx_next hBp hqe]; omega⟩)⟩
    show wset s.a kn (B kn) = _
    rw [ha']; exact rdW_set hqs
  · obtain ⟨h8, hqs⟩ := pth_last hBp hR.lt hq
    rw [if_neg hq, if_pos hl]
    refine .inl ⟨by rw [e0]; decide, e0, ⟨hB.mv, hB.at_, by rw [e0]; rfl⟩, .inr (.inr (.inl ⟨0, c, τ, B, ⟨hR.step, rfl, by decide, (pthB_iff _ 0).2 (.inl (by decide)), hR.has⟩, hCB, Nat.le_refl _, rfl, ?_, hb', hG' 24 (fun j h => (hqs j).1 h), fun j hj => absurd hj (by omega), fun h => by have := hi h; show i + 1 ≤ 21 + 0; omega⟩))⟩
    show wset s.a kn (B kn) = _
    rw [ha']; exact rdW_set hqs
/-- reads: the second time -/
theorem stepm_rd2 {kn c T : Nat} {A : Nat → Int} (hH : Holds Wt low τ vw) (hQ : q → τ = τ0) (hB : SnB mv 1088 s) (hR : MsR A s sb kn) (hC : MsC Wt τ0 T c A) (hT : T ≤ τ) (hl : s.last = true) (ha : s.a = rdW A 24) (hb : s.b = rdW A kn) (hG : Got Wt A 24 c T) (hG2 : Got Wt A kn T τ) (hi : q → i ≤ 21 + idxK kn) :
    StepM Wt low τ0 τ q sb mv i (false || erM vw 1088 kn != 0) (erM vw 1088 kn) (snOver (snReads sb vw s kn) false (erM vw 1088 kn)) := by
  have hx := idx_le hR.lt
  obtain ⟨ev, e0⟩ := hH.wd hR.lt
  have hak : s.a kn = A kn := by rw [ha]; exact rdW_at hR.p hR.lt
  have ha2 : s.a 2 = A 2 := by rw [ha]; exact rdW_at ((pthB_iff _ 2).2 (.inl (by decide))) (by decide)
  by_cases hne : Wt τ kn ≠ A kn
  · have hnq : ¬ q := fun h => by
      obtain ⟨t, h1, h2, h3⟩ := hG kn hR.lt hR.p
      have := hQ h
      have := hC.le0
      rw [show t = τ by omega] at h3
      exact hne h3.symm
    have hsr : snReads sb vw s kn = snAnew sb { s with b := wset s.b kn (Wt τ kn) } := by
      unfold snReads
      rw [hB.at_, if_pos (show atE vw.length (wrdA 1088 kn) = 0 from e0), hl, if_pos rfl, show ldW vw (wrdA 1088 kn) = Wt τ kn from ev, hak, if_pos hne]
    rw [hsr, e0]
    exact .inl ⟨by decide, rfl, ⟨hB.mv, hB.at_, rfl⟩, .inl ⟨rfl, rfl, rfl, rfl, rfl, rfl, fun h => absurd h hnq⟩⟩
  · have he : Wt τ kn = A kn := Classical.not_not.1 hne
    have hsr : snReads sb vw s kn = snGo sb { s with b := wset s.b kn (A kn) } kn (A kn) := by
      unfold snReads
      rw [hB.at_, if_pos (show atE vw.length (wrdA 1088 kn) = 0 from e0), hl, if_pos rfl, show ldW vw (wrdA 1088 kn) = Wt τ kn from ev, hak, if_neg hne, he]
    have hG' : ∀ k', (∀ j, (pthB A j = true ∧ j < k') → ((pthB A j = true ∧ j < kn) ∨ j = kn)) → Got Wt A k' T τ := fun k' hs j hj hp => by
      rcases hs j ⟨hp, hj⟩ with ⟨h1, h2⟩ | h
      · exact hG2 j h2 h1
      · subst h
        exact ⟨τ, hT, Nat.le_refl _, he.symm⟩
    rw [hsr]
    unfold snGo
    by_cases hq : 0 ≤ aftP kn (A kn)
    · obtain ⟨k', hqe, hq24, hkq, hqp, hqs⟩ := pth_next hR.p hq
      rw [if_pos hq, hqe]
      refine .inl ⟨by rw [e0]; decide, e0, ⟨hB.mv, hB.at_, by rw [e0]; rfl⟩, .inr (.inr (.inl ⟨k', c, T, A, ⟨hR.step, rfl, hq24, hqp, hR.has⟩, hC, hT, hl, ha, ?_, hG, hG' k' (fun j h => (hqs j).1 h), fun h => by have := hi h; rw [idx_next hR.p hqe]; omega⟩))⟩
      show wset s.b kn (A kn) = _
      rw [hb]; exact rdW_set hqs
    · obtain ⟨h8, hqs⟩ := pth_last hR.p hR.lt hq
      rw [if_neg hq, if_neg (by rw [hl]; decide)]
      have hbn : wset s.b kn (A kn) = rdW A 24 := by rw [hb]; exact rdW_set hqs
      have hG24 := hG' 24 (fun j h => (hqs j).1 h)
      by_cases hz : A 2 = 0
      · rw [if_neg (by show ¬ s.a 2 ≠ 0; rw [ha2]; exact fun h => h hz)]
        refine .inl ⟨by rw [e0]; decide, e0, ⟨hB.mv, hB.at_, by rw [e0]; rfl⟩, .inr (.inr (.inr (.inr ⟨c, T, A, rfl, hC, hT, ha, hbn, hG, hG24, ?_, fun h => absurd hz h, fun h => by have := hi h; omega⟩)))⟩
        show s.has = _
        rw [hR.has, decide_eq_false (fun h => h hz)]
      · rw [if_pos (by show s.a 2 ≠ 0; rw [ha2]; exact hz)]
        exact .inl ⟨by rw [e0]; decide, e0, ⟨hB.mv, hB.at_, by rw [e0]; rfl⟩, .inr (.inr (.inr (.inl ⟨c, T, A, rfl, hC, hT, ha, hbn, hG, hG24, hR.has, hz, fun h => by have := hi h; omega⟩)))⟩
/-- bound -/
theorem stepm_bd {c T : Nat} {A : Nat → Int} (hH : Holds Wt low τ vw) (hX : Crs Wt N) (hB : SnB mv 1088 s) (hC : MsC Wt τ0 T c A) (hT : T ≤ τ) (ha : s.a = rdW A 24) (hb : s.b = rdW A 24) (hG : Got Wt A 24 c T) (hG2 : Got Wt A 24 T τ) (hz : A 2 ≠ 0) (hi : q → i ≤ 41) :
    StepM Wt low τ0 τ q sb mv i (false || atE vw.length (wrdA (s.a 2) 1) != 0) (atE vw.length (wrdA (s.a 2) 1)) (snOver (snBound sb vw s) false (atE vw.length (wrdA (s.a 2) 1))) := by
  have h2p : pthB A 2 = true := (pthB_iff _ 2).2 (.inl (by decide))
  have ha2 : s.a 2 = 1280 := by
    have e : s.a 2 = A 2 := by rw [ha]; exact rdW_at h2p (by decide)
    obtain ⟨t, _, _, h3⟩ := hG 2 (by decide) h2p
    rw [e, h3]
    rcases hX.nx t with h | h
    · exact absurd (h3.trans h) hz
    · exact h
  obtain ⟨e0, e1⟩ := hH.bd
  have hbh : (snBound sb vw s).high = low := by
    show ldW vw (wrdA (s.a 2) 1) = low
    rw [ha2]; exact e1
  rw [ha2, e0]
  exact .inl ⟨by decide, rfl, ⟨hB.mv, hB.at_, rfl⟩, .inr (.inr (.inr (.inr ⟨c, T, A, rfl, hC, hT, ha, hb, hG, hG2, by rw [decide_eq_true hz]; rfl, fun _ => hbh, fun h => by have := hi h; omega⟩)))⟩
/-- again -/
theorem stepm_ag {c T : Nat} {A : Nat → Int} (hH : Holds Wt low τ vw) (hX : Crs Wt N) (hN : τ ≤ N) (hQ : q → τ = τ0) (hB : SnB mv 1088 s) (hst : s.step = phV sb 88) (hC : MsC Wt τ0 T c A) (hT : T ≤ τ) (ha : s.a = rdW A 24) (hb : s.b = rdW A 24) (hG : Got Wt A 24 c T) (hG2 : Got Wt A 24 T τ) (hh : s.has = decide (A 2 ≠ 0)) (hhi : A 2 ≠ 0 → s.high = low) :
    StepM Wt low τ0 τ q sb mv i ((snAgain sb vw s).1 || (snAgain sb vw s).2.1 != 0) (snAgain sb vw s).2.1 (snOver (snAgain sb vw s).2.2 (snAgain sb vw s).1 (snAgain sb vw s).2.1) := by
  obtain ⟨ev, e0⟩ := hH.wd (show 3 < 24 by decide)
  have hag : agBad vw s = (Wt τ 3 != A 3) := by
    unfold agBad
    rw [hB.at_, ha, hb, rdW_3, eqWd_self, show ldW vw (wrdA 1088 3) = Wt τ 3 from ev]
    simp
  by_cases hne : Wt τ 3 = A 3
  · have hag0 : agBad vw s = false := by rw [hag, hne]; simp
    have hsa : snAgain sb vw s = (true, (ofV (rdW A 24)).2, { s with found := (ofV (rdW A 24)).1 }) := by
      unfold snAgain
      rw [hB.at_, if_pos (show atE vw.length (wrdA 1088 3) = 0 from e0), hag0, if_neg (by decide), ha]
    have hcT := hC.le
    have h3 : ∀ t, c ≤ t → t ≤ τ → Wt t 3 = Wt c 3 := fun t h1 h2 => hX.back c t τ h1 h2 hN (by rw [hne]; exact hC.ct.symm) 3 (by decide) (by rw [hne]; exact hC.ct.symm)
    have hA : ∀ j, j < 24 → pthB A j = true → A j = Wt T j := fun j hj hp => by
      obtain ⟨t, t1, t2, t3⟩ := hG j hj hp
      obtain ⟨u, u1, u2, u3⟩ := hG2 j hj hp
      have := hX.back t T u t2 u1 (by omega) (by rw [h3 t t1 (by omega), h3 u (by omega) u2]) j hj (by rw [← t3, ← u3])
      rw [t3, this]
    have hr : rdW A 24 = rdW (Wt T) 24 := rdW_path (by rw [hC.ct, h3 T hC.le hT]) hA
    have h2 : A 2 = Wt T 2 := hA 2 (by decide) ((pthB_iff _ 2).2 (.inl (by decide)))
    rw [hsa]
    refine .inr ⟨by simp, ⟨by simp [snOver], rfl, ⟨_, hst⟩, T, by have := hC.le0; omega, hT, ?_⟩⟩
    rw [← hr, ← h2]
    exact ⟨rfl, rfl, hh, hhi⟩
  · have hnq : ¬ q := fun h => by
      have := hQ h
      have h0 := hC.le0
      have h1 := hC.le
      exact hne (by rw [hC.ct, show c = τ by omega])
    have hag1 : agBad vw s = true := by rw [hag]; simpa using hne
    have hsa : snAgain sb vw s = (false, 0, snAnew sb s) := by
      unfold snAgain
      rw [hB.at_, if_pos (show atE vw.length (wrdA 1088 3) = 0 from e0), hag1, if_pos rfl]
    rw [hsa]
    exact .inl ⟨by simp, rfl, ⟨hB.mv, hB.at_, rfl⟩, .inl ⟨rfl, rfl, rfl, rfl, rfl, rfl, fun h => absurd h hnq⟩⟩
end
theorem MsI.le {Wt : Nat → Nat → Int} {low : Int} {τ0 τ : Nat} {q : Prop} {sb : Nat} {mv : Option Addr} {i : Nat} {s : Sn} (h : MsI Wt low τ0 τ q sb mv i s) (hq : q) : i ≤ 42 := by
  obtain ⟨_, h | ⟨kn, _, _, hR, _, _, _, _, _, h⟩ | ⟨kn, _, _, _, hR, _, _, _, _, _, _, _, h⟩ | ⟨_, _, _, _, _, _, _, _, _, _, _, _, h⟩ | ⟨_, _, _, _, _, _, _, _, _, _, _, _, h⟩⟩ := h
  · have := h.2.2.2.2.2.2 hq; omega
  · have := h hq; have := idx_le hR.lt; omega
  · have := h hq; have := idx_le hR.lt; omega
  · have := h hq; omega
  · exact h hq
set_option maxRecDepth 100000 in
/-- one step -/
theorem step_ms {Wt : Nat → Nat → Int} {N : Nat} {low : Int} {τ0 τ : Nat} {q : Prop} (w : World) (s : Sn) (sb mb : Nat) (S : Nat → Prop) (vw is : List Int) (mk : Int → Nat → Int) (F : Int → List (Int × Int)) (lo st fl fe : Int) (i : Nat)
    (hX : Crs Wt N) (hN : τ ≤ N) (hτ : τ0 ≤ τ) (hQ : q → τ = τ0) (hH : Holds Wt low τ vw)
    (hb : Blk w sb (snCells s) 62) (hm : MemP w mb S vw is mk F lo st fl fe) (hS : ¬ S sb) (hI : MsI Wt low τ0 τ q sb (some ⟨mb, 0, none⟩) i s) (hu : ∀ j, 0 ≤ s.a j ∧ s.a j ≤ 18446744073709551615) :
    Calls Try.prog 11 #[.pointer (some ⟨sb, 0, none⟩)] w fun e w' => ∃ d er s' lo', StepM Wt low τ0 τ q sb (some ⟨mb, 0, none⟩) i d er s' ∧ SnP w sb mb S vw is mk F st fl fe d er s' lo' e w' := by
  obtain ⟨hB, h | ⟨kn, c, A, hR, hC, h1, h2, h3, h4, h5⟩ | ⟨kn, c, T, A, hR, hC, hT, h1, h2, h3, h4, h5, h6⟩ | ⟨c, T, A, h0, hC, hT, h1, h2, h3, h4, h5, h6, h7⟩ | ⟨c, T, A, h0, hC, hT, h1, h2, h3, h4, h5, h6, h7⟩⟩ := hI
  · obtain ⟨hst, ha, hb', hk, hl, hh, hi⟩ := h
    refine (step_counts w s sb mb S vw is mk F lo st fl fe _ _ _ _ hb hm hS hB.mv hst hB.over (counts_v w s sb mb S vw is mk F lo st fl fe hb hm hS hB.mv)).mono (fun e w' hP => ⟨_, _, _, _, ?_, hP⟩)
    rw [hB.at_]
    exact stepm_ct hH hτ hB ha hb' hk hl hh hi
  · refine (step_reads w s sb mb S vw is mk F lo st fl fe _ _ _ _ hb hm hS hB.mv hR.step hB.over (reads_v w s kn sb mb S vw is mk F lo st fl fe hb hm hS hB.mv hR.k hR.lt)).mono (fun e w' hP => ⟨_, _, _, _, ?_, hP⟩)
    rw [hB.at_]
    exact stepm_rd1 hH hB hR hC h1 h2 h3 h4 h5
  · refine (step_reads w s sb mb S vw is mk F lo st fl fe _ _ _ _ hb hm hS hB.mv hR.step hB.over (reads_v w s kn sb mb S vw is mk F lo st fl fe hb hm hS hB.mv hR.k hR.lt)).mono (fun e w' hP => ⟨_, _, _, _, ?_, hP⟩)
    rw [hB.at_]
    exact stepm_rd2 hH hQ hB hR hC hT h1 h2 h3 h4 h5 h6
  · exact (step_bound w s sb mb S vw is mk F lo st fl fe _ _ _ _ hb hm hS hB.mv h0 hB.over (bound_v w s sb mb S vw is mk F lo st fl fe hb hm hS hB.mv)).mono (fun e w' hP => ⟨_, _, _, _, stepm_bd hH hX hB hC hT h1 h2 h3 h4 h6 h7, hP⟩)
  · exact (step_again w s sb mb S vw is mk F lo st fl fe _ _ _ _ hb hm hS hB.mv h0 hB.over (again_v w s sb mb S vw is mk F lo st fl fe hb hm hS hB.mv (hu 0))).mono (fun e w' hP => ⟨_, _, _, _, stepm_ag hH hX hN hQ hB h0 hC hT h1 h2 h3 h4 h5 h6, hP⟩)
end Go.Proofs.Ytgmbnoimlffgcaa
