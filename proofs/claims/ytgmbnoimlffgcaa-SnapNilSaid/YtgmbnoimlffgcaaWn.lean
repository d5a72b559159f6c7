/-
  node.Words: a contract.
-/
import Derived.Test.YtgmbnoimlffgcaaNd
import Derived.Test.YtgmbnoimlffgcaaLift
import Derived.Test.YtgmbnoimlffgcaaWd
import Derived.IntWalk
namespace Go.Proofs.Ytgmbnoimlffgcaa
open Go.RowKit Go.ChangeShapes Go.WideShapes Go.Deep

theorem take1 {l : List Value} {off : Nat} {v : Value} (h : (l.drop off).take 1 = [v]) : l[off]? = some v := by
  have : ((l.drop off).take 1)[0]? = some v := by rw [h]; rfl
  simpa [List.getElem?_take, List.getElem?_drop] using this
section
variable {H : Type} {enc : TypeId × Value → H} {P : Program} {w : World} {base : Nat} {spare : Nat → Bool} {held : Bool}
theorem trod_int_at {t : TypeId} {k : IntKind} {m off : Nat} {l : List Value} {y : Option (DataW H × List MemPlace)} (ht : P.underlying t = some (.int k)) (hc : P.cellsOf t = 1) (hy : y ≠ none) (h : DataW.trod enc P w base spare held m t ((l.drop off).take (P.cellsOf t)) = y) :
    ∃ a, l[off]? = some (.int k a) ∧ (Lit.int k a).wf = true := by
  cases y with
  | none => exact absurd rfl hy
  | some y =>
    rw [hc] at h
    obtain ⟨a, e, _, hw⟩ := DataW.trod_int ht h
    exact ⟨a, take1 e, hw⟩
theorem trod_arr_at {t e : TypeId} {k : IntKind} {m off N : Nat} {l : List Value} {y : Option (DataW H × List MemPlace)} (ht : P.underlying t = some (.array N e)) (he : P.underlying e = some (.int k)) (hc : P.cellsOf t = N) (hce : P.cellsOf e = 1) (hy : y ≠ none) (h : DataW.trod enc P w base spare held m t ((l.drop off).take (P.cellsOf t)) = y) :
    ∃ f : Nat → Int, ∀ i, i < N → l[off + i]? = some (.int k (f i)) ∧ (Lit.int k (f i)).wf = true := by
  cases y with
  | none => exact absurd rfl hy
  | some y =>
    obtain ⟨xs, m', _, _, _, hl, hx⟩ := DataW.trod_array ht h
    have each : ∀ i, i < N → ∃ a, l[off + i]? = some (.int k a) ∧ (Lit.int k a).wf = true := by
      intro i hi
      obtain ⟨a, h1, h2⟩ := trod_int_at he hce (by
        have : i < xs.length := by omega
        rw [List.getElem?_eq_getElem this]; simp) (hx i hi)
      refine ⟨a, ?_, h2⟩
      rw [hce, Nat.mul_one, hc, List.getElem?_take] at h1
      rw [if_pos hi, List.getElem?_drop] at h1
      exact h1
    exact choose_lt each
end

set_option maxRecDepth 100000 in
theorem open_node {H : Type} {enc : TypeId × Value → H} {W : World} {base : Nat} {v : Value} {d : DataW H} {p : List MemPlace} (hv : Value.okWide Try.prog W .any base 40 v) (h : DataW.Trod enc Try.prog W 0 (fun _ => true) true 40 v d p) :
    ∃ n : Nd, v = .agg (ndCells n) ∧ n.Wf := by
  obtain ⟨cs, rfl, hsz⟩ := okWide_struct Try.underlying40 hv
  have h21 : Try.prog.cellsOf 40 = 21 := by kernel_rfl
  rw [h21] at hsz
  obtain ⟨fuel, hf⟩ := h
  obtain ⟨xs, m, _, _, _, hl, hx⟩ := DataW.trod_struct Try.underlying40 hf
  have hs : ∀ i, i < 7 → xs[i]? ≠ none := fun i hi => by
    have : i < xs.length := by rw [hl]; exact hi
    rw [List.getElem?_eq_getElem this]; simp
  obtain ⟨lv, e0, w0⟩ := trod_int_at Try.underlying3 (by kernel_rfl) (hs 0 (by omega)) (hx 0 _ rfl)
  obtain ⟨lo, e1, w1⟩ := trod_int_at Try.underlying23 (by kernel_rfl) (hs 1 (by omega)) (hx 1 _ rfl)
  obtain ⟨nx, e2, w2⟩ := trod_int_at Try.underlying24 (by kernel_rfl) (hs 2 (by omega)) (hx 2 _ rfl)
  obtain ⟨ct, e3, w3⟩ := trod_int_at Try.underlying23 (by kernel_rfl) (hs 3 (by omega)) (hx 3 _ rfl)
  obtain ⟨fi, e4, w4⟩ := trod_int_at Try.underlying24 (by kernel_rfl) (hs 4 (by omega)) (hx 4 _ rfl)
  obtain ⟨kf, hk⟩ := trod_arr_at Try.underlying37 Try.underlying23 (by kernel_rfl) (by kernel_rfl) (hs 5 (by omega)) (hx 5 _ rfl)
  obtain ⟨pf, hp⟩ := trod_arr_at Try.underlying38 Try.underlying24 (by kernel_rfl) (by kernel_rfl) (hs 6 (by omega)) (hx 6 _ rfl)
  let N : Nd := ⟨lv, lo, nx, ct, fi, kf, pf⟩
  refine ⟨N, ?_, ⟨w0, w1, w2, w3, w4, fun i hi => (hk i hi).2, fun i hi => (hp i hi).2⟩⟩
  refine congrArg Value.agg ?_
  simp only [Value.cells, Array.getElem?_toList] at e0 e1 e2 e3 e4 hk hp
  apply Array.ext_getElem?
  intro i
  rcases Nat.lt_or_ge i 21 with hi | hi
  · have hc : i = 0 ∨ i = 1 ∨ i = 2 ∨ i = 3 ∨ i = 4 ∨ (5 ≤ i ∧ i < 13) ∨ 13 ≤ i := by omega
    rcases hc with rfl | rfl | rfl | rfl | rfl | ⟨h5, h13⟩ | h13
    · exact e0.trans (ndCells_0 N).symm
    · exact e1.trans (ndCells_1 N).symm
    · exact e2.trans (ndCells_2 N).symm
    · exact e3.trans (ndCells_3 N).symm
    · exact e4.trans (ndCells_4 N).symm
    · obtain ⟨j, rfl⟩ : ∃ j, i = 5 + j := ⟨i - 5, by omega⟩
      exact ((hk j (by omega)).1).trans (ndCells_k N j (by omega)).symm
    · obtain ⟨j, rfl⟩ : ∃ j, i = 13 + j := ⟨i - 13, by omega⟩
      exact ((hp j (by omega)).1).trans (ndCells_p N j (by omega)).symm
  · rw [Array.getElem?_eq_none (by omega), Array.getElem?_eq_none (by rw [ndCells_size]; omega)]
end Go.Proofs.Ytgmbnoimlffgcaa
namespace Go.Proofs.Ytgmbnoimlffgcaa
open Go.RowKit

def tagM : Int := 5495893775785918464
/-- a node's word -/
def fullW (n : Nd) (i : Nat) : Int :=
  if i = 0 then tagM + n.lv else if i = 1 then n.lo else if i = 2 then n.nx else if i = 3 then n.ct else if i = 4 then n.fi else if i < 8 then 0
  else if i % 2 = 0 then n.k ((i - 8) / 2) else n.p ((i - 9) / 2)
def wTo (n : Nd) (k : Nat) (i : Nat) : Int := if i < 8 + 2 * k then fullW n i else 0
def wordsF (n : Nd) : Nat → Int := if n.lv < 0 ∨ 15 < n.lv then fun _ => 0 else wTo n 8
def contW (n : Nd) (L : Nat → Bool) : Nat → Int := fun i => if i < 5 ∧ L (13 + 2 * i) = true then fullW n i else 0
def contK (n : Nd) (k : Nat) (L : Nat → Bool) : Nat → Int := fun i => if i = 8 + 2 * k ∧ L 15 = true then n.k k else if i = 9 + 2 * k ∧ L 17 = true then n.p k else wTo n k i
theorem fullW_lt5 (n : Nd) (i : Nat) (h : i < 5) : fullW n i = if i = 0 then tagM + n.lv else if i = 1 then n.lo else if i = 2 then n.nx else if i = 3 then n.ct else n.fi := by
  have : i = 0 ∨ i = 1 ∨ i = 2 ∨ i = 3 ∨ i = 4 := by omega
  rcases this with rfl | rfl | rfl | rfl | rfl <;> rfl
theorem contW_set (n : Nd) (L : Nat → Bool) (i : Nat) (hi : i < 5) : wset (contW n L) i (if i = 0 then tagM + n.lv else if i = 1 then n.lo else if i = 2 then n.nx else if i = 3 then n.ct else n.fi) = contW n (lset L (13 + 2 * i)) := by
  funext j
  unfold wset contW
  by_cases h : j = i
  · subst h
    have t : lset L (13 + 2 * j) (13 + 2 * j) = true := by simp [lset]
    simp only [t, hi, and_self, if_true]
    exact (fullW_lt5 n j hi).symm
  · rw [if_neg h]
    have : lset L (13 + 2 * i) (13 + 2 * j) = L (13 + 2 * j) := by unfold lset; rw [if_neg (by omega)]
    rw [this]
theorem contW_all (n : Nd) (L : Nat → Bool) (h : ∀ i, i < 5 → L (13 + 2 * i) = true) : contW n L = wTo n 0 := by
  funext j
  unfold contW wTo
  by_cases h5 : j < 5
  · rw [if_pos ⟨h5, h j h5⟩, if_pos (by omega)]
  · rw [if_neg (fun e => h5 e.1)]
    by_cases h8 : j < 8 + 2 * 0
    · rw [if_pos h8]
      unfold fullW
      rw [if_neg (by omega), if_neg (by omega), if_neg (by omega), if_neg (by omega), if_neg (by omega), if_pos (by omega)]
    · rw [if_neg h8]
theorem contK_set15 (n : Nd) (k : Nat) (L : Nat → Bool) {e1 : Nat} (he : e1 = 8 + 2 * k) : wset (contK n k L) e1 (n.k k) = contK n k (lset L 15) := by
  subst he
  funext j
  unfold wset contK
  have h17 : lset L 15 17 = L 17 := by simp [lset]
  rw [h17]
  by_cases h : j = 8 + 2 * k
  · rw [if_pos h, if_pos ⟨h, by simp [lset]⟩]
  · simp only [h, false_and, if_false]
theorem contK_set17 (n : Nd) (k : Nat) (L : Nat → Bool) {e2 : Nat} (he : e2 = 9 + 2 * k) : wset (contK n k L) e2 (n.p k) = contK n k (lset L 17) := by
  subst he
  funext j
  unfold wset contK
  have h15 : lset L 17 15 = L 15 := by simp [lset]
  rw [h15]
  by_cases h : j = 9 + 2 * k
  · rw [if_pos h, if_neg (by omega), if_pos ⟨h, by simp [lset]⟩]
  · rw [if_neg h]
    by_cases h2 : j = 8 + 2 * k ∧ L 15 = true
    · rw [if_pos h2, if_pos h2]
    · rw [if_neg h2, if_neg h2, if_neg (fun e => h e.1), if_neg (fun e => h e.1)]
theorem contK_all (n : Nd) (k : Nat) (L : Nat → Bool) (h1 : L 15 = true) (h2 : L 17 = true) : ∀ i, i < 24 → contK n k L i = wTo n (k + 1) i := by
  intro i _
  unfold contK wTo
  by_cases a : i = 8 + 2 * k
  · rw [if_pos ⟨a, h1⟩, if_pos (by omega)]
    unfold fullW
    rw [if_neg (by omega), if_neg (by omega), if_neg (by omega), if_neg (by omega), if_neg (by omega), if_neg (by omega), if_pos (by omega)]
    congr 1; omega
  · rw [if_neg (fun e => a e.1)]
    by_cases b : i = 9 + 2 * k
    · rw [if_pos ⟨b, h2⟩, if_pos (by omega)]
      unfold fullW
      rw [if_neg (by omega), if_neg (by omega), if_neg (by omega), if_neg (by omega), if_neg (by omega), if_neg (by omega), if_neg (by omega)]
      congr 1; omega
    · rw [if_neg (fun e => b e.1)]
      by_cases c : i < 8 + 2 * k
      · rw [if_pos c, if_pos (by omega)]
      · rw [if_neg c, if_neg (by omega)]
end Go.Proofs.Ytgmbnoimlffgcaa
