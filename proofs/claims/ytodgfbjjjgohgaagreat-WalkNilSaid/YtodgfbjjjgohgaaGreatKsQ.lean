/-
  A SNAPSHOT OF A NODE WHEREVER IT STANDS, of a memory that somebody may change: where it stands; one step; what it is at the end. (Plain, but for the words' places.)
-/
import Derived.Test.YtodgfbjjjgohgaaGreatKrQ
import Derived.Test.YtodgfbjjjgohgaaGreatKvQ
namespace Go.Proofs.YtodgfbjjjgohgaaGreat
open Go.RowKit
set_option linter.unusedVariables false

/-! ### words as they were at each time -/
structure Crs (Wt : Nat → Nat → Int) (nx : Int) : Prop where
  back : ∀ i k j, i ≤ k → k ≤ j → Wt i 3 = Wt j 3 → ∀ q, q < 24 → Wt i q = Wt j q → Wt k q = Wt i q
  nx : ∀ t, Wt t 2 = nx
/-- a memory that holds them -/
structure Holds (Wt : Nat → Nat → Int) (a nx low : Int) (τ : Nat) (vw : List Int) : Prop where
  wd : ∀ {i}, i < 24 → wdM vw a i = Wt τ i ∧ erM vw a i = 0
  bd : nx ≠ 0 → atE vw.length (wrdA nx 1) = 0 ∧ ldW vw (wrdA nx 1) = low
/-! ### where it stands -/
/-- words on the path, below a place, as they were at times between two -/
def Got (Wt : Nat → Nat → Int) (A : Nat → Int) (kn c T : Nat) : Prop := ∀ j, j < kn → pthB A j = true → ∃ t, c ≤ t ∧ t ≤ T ∧ A j = Wt t j
theorem Got.le {Wt : Nat → Nat → Int} {A : Nat → Int} {kn c T T' : Nat} (h : Got Wt A kn c T) (hT : T ≤ T') : Got Wt A kn c T' := fun j hj hp => by
  obtain ⟨t, a, b, e⟩ := h j hj hp
  exact ⟨t, a, by omega, e⟩
structure WsR (A : Nat → Int) (s : Sn) (sb kn : Nat) : Prop where
  step : s.step = phV sb 92
  k : s.k = (kn : Int)
  lt : kn < 24
  p : pthB A kn = true
  has : s.has = false
structure WsC (Wt : Nat → Nat → Int) (τ0 τ c : Nat) (A : Nat → Int) : Prop where
  le0 : τ0 ≤ c
  le : c ≤ τ
  ct : A 3 = Wt c 3
def WsI (Wt : Nat → Nat → Int) (ad low : Int) (τ0 τ : Nat) (sb : Nat) (mv : Option Addr) (i : Nat) (s : Sn) : Prop :=
  SnB mv ad s ∧ (
    (s.step = phV sb 88 ∧ s.a = (fun _ => 0) ∧ s.b = (fun _ => 0) ∧ s.k = 0 ∧ s.last = false ∧ s.has = false ∧ i ≤ 43 * (τ - τ0)) ∨
    (∃ kn c A, WsR A s sb kn ∧ WsC Wt τ0 τ c A ∧ s.last = false ∧ s.a = rdW A kn ∧ s.b = rdW A 0 ∧ Got Wt A kn c τ ∧ i ≤ 1 + idxK kn + 43 * (c - τ0)) ∨
    (∃ kn c T A, WsR A s sb kn ∧ WsC Wt τ0 T c A ∧ T ≤ τ ∧ s.last = true ∧ s.a = rdW A 24 ∧ s.b = rdW A kn ∧ Got Wt A 24 c T ∧ Got Wt A kn T τ ∧ i ≤ 21 + idxK kn + 43 * (c - τ0)) ∨
    (∃ c T A, s.step = phV sb 95 ∧ WsC Wt τ0 T c A ∧ T ≤ τ ∧ s.a = rdW A 24 ∧ s.b = rdW A 24 ∧ Got Wt A 24 c T ∧ Got Wt A 24 T τ ∧ s.has = false ∧ A 2 ≠ 0 ∧ i ≤ 41 + 43 * (c - τ0)) ∨
    (∃ c T A, s.step = phV sb 96 ∧ WsC Wt τ0 T c A ∧ T ≤ τ ∧ s.a = rdW A 24 ∧ s.b = rdW A 24 ∧ Got Wt A 24 c T ∧ Got Wt A 24 T τ ∧ s.has = decide (A 2 ≠ 0) ∧ (A 2 ≠ 0 → s.high = low) ∧ i ≤ 42 + 43 * (c - τ0)))
/-- at the end -/
structure WsD (Wt : Nat → Nat → Int) (low : Int) (τ0 τ : Nat) (sb : Nat) (er : Int) (s : Sn) : Prop where
  over : s.over = true
  e : s.e = er
  step : ∃ f, s.step = phV sb f
  res : ∃ T, τ0 ≤ T ∧ T ≤ τ ∧ er = (ofV (rdW (Wt T) 24)).2 ∧ s.found = (ofV (rdW (Wt T) 24)).1 ∧ s.has = decide (Wt T 2 ≠ 0) ∧ (Wt T 2 ≠ 0 → s.high = low)
section
variable {Wt : Nat → Nat → Int} {ad nx low : Int} {τ0 τ : Nat} {sb : Nat} {mv : Option Addr} {i : Nat} {s : Sn} {vw : List Int}
theorem WsI.new (hτ : τ0 ≤ τ) : WsI Wt ad low τ0 τ sb mv 0 (snNew sb mv ad) := ⟨⟨rfl, rfl, rfl⟩, .inl ⟨rfl, rfl, rfl, rfl, rfl, rfl, by omega⟩⟩
end
theorem WsI.le {Wt : Nat → Nat → Int} {ad low : Int} {τ0 τ : Nat} {sb : Nat} {mv : Option Addr} {i : Nat} {s : Sn} (h : WsI Wt ad low τ0 τ sb mv i s) (hτ : τ0 ≤ τ) : i ≤ 42 + 43 * (τ - τ0) := by
  obtain ⟨_, h | ⟨kn, _, _, hR, hC, _, _, _, _, h⟩ | ⟨kn, _, _, _, hR, hC, hT, _, _, _, _, _, h⟩ | ⟨_, _, _, _, hC, hT, _, _, _, _, _, _, h⟩ | ⟨_, _, _, _, hC, hT, _, _, _, _, _, _, h⟩⟩ := h
  · have := h.2.2.2.2.2.2; omega
  · have := idx_le hR.lt; have := hC.le; omega
  · have := idx_le hR.lt; have := hC.le; omega
  · have := hC.le; omega
  · have := hC.le; omega
theorem rdW_u64W {A : Nat → Int} {k : Nat} (h3 : 0 ≤ A 3 ∧ A 3 ≤ 18446744073709551615) (h : ∀ j, j < k → pthB A j = true → 0 ≤ A j ∧ A j ≤ 18446744073709551615) (j : Nat) : 0 ≤ rdW A k j ∧ rdW A k j ≤ 18446744073709551615 := by
  unfold rdW
  split
  · rename_i hc
    rcases hc with rfl | ⟨h1, h2⟩
    · exact h3
    · exact h j h2 h1
  · omega
theorem Got.u64 {Wt : Nat → Nat → Int} (hU : ∀ t q, 0 ≤ Wt t q ∧ Wt t q ≤ 18446744073709551615) {A : Nat → Int} {kn c T : Nat} (h : Got Wt A kn c T) (h3 : A 3 = Wt c 3) (j : Nat) : 0 ≤ rdW A kn j ∧ rdW A kn j ≤ 18446744073709551615 :=
  rdW_u64W (by rw [h3]; exact hU c 3) (fun j hj hp => by obtain ⟨t, _, _, e⟩ := h j hj hp; rw [e]; exact hU t j) j
end Go.Proofs.YtodgfbjjjgohgaaGreat
