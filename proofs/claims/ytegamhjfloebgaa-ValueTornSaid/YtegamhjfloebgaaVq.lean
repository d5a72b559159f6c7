/-
  A VALUE LAID INTO A MEMORY, READ AGAIN (no program in sight); a new memory with nothing pending.
-/
import Derived.Test.YtegamhjfloebgaaVr
import Derived.Test.YtegamhjfloebgaaSo
namespace Go.Proofs.Ytegamhjfloebgaa
open Go.RowKit Go.Maps
set_option linter.unusedVariables false

theorem wordsB_bytes (l : List Int) (N : Nat) (hu : U64s l) (hN : l.length = N) : wordsB (bytesW l) N = l := by
  unfold wordsB
  rw [finR]
  apply List.ext_getElem
  · simp [hN]
  · intro i h1 h2
    simp only [List.getElem_map, List.getElem_range]
    unfold chunk
    rw [bytesW_at l i h2]
    exact wd_putB _ (hu _ (List.getElem_mem _)).1 (hu _ (List.getElem_mem _)).2
theorem chunk_bytes (l : List Int) (hu : U64s l) (i : Nat) (hi : i < l.length) : chunk (bytesW l) i = l.getD i 0 := by
  have h := wordsB_getD (bytesW l) l.length i hi
  rw [wordsB_bytes l _ hu rfl] at h
  exact h.symm
/-- words laid over others, from a place on -/
def vsK (vs : List Int) (i0 : Nat) (W : List Int) : Nat → List Int
  | 0 => vs
  | k + 1 => (vsK vs i0 W k).set (i0 + k) (W.getD k 0)
theorem vsK_len (vs : List Int) (i0 : Nat) (W : List Int) : ∀ k, (vsK vs i0 W k).length = vs.length
  | 0 => rfl
  | k + 1 => by show ((vsK vs i0 W k).set _ _).length = _; rw [List.length_set]; exact vsK_len vs i0 W k
theorem vsK_u64 {vs W : List Int} (hv : U64s vs) (hw : U64s W) (i0 : Nat) : ∀ k, U64s (vsK vs i0 W k)
  | 0 => hv
  | k + 1 => fun x hx => by
    rcases List.mem_or_eq_of_mem_set hx with h | h
    · exact vsK_u64 hv hw i0 k x h
    · rw [h, List.getD_eq_getElem?_getD]
      cases hk : W[k]? with
      | none => exact ⟨Int.le_refl _, by decide⟩
      | some y => exact hw y (List.mem_of_getElem? hk)
theorem vsK_at (vs : List Int) (i0 : Nat) (W : List Int) : ∀ k j, j < k → i0 + k ≤ vs.length → (vsK vs i0 W k).getD (i0 + j) 0 = W.getD j 0
  | k + 1, j, hj, hk => by
    show ((vsK vs i0 W k).set (i0 + k) (W.getD k 0)).getD (i0 + j) 0 = _
    rw [List.getD_eq_getElem?_getD]
    by_cases e : j = k
    · subst e
      rw [List.getElem?_set_self (by rw [vsK_len]; omega)]
      rfl
    · rw [List.getElem?_set_ne (by omega), ← List.getD_eq_getElem?_getD]
      exact vsK_at vs i0 W k j (by omega) (by omega)
theorem packW_head (L : List UInt8) : (packW L).headD 0 = (L.length : Int) := rfl
theorem wordsFrom_get (M : List UInt8) (i k j : Nat) (h : j < k) : (wordsFrom M i k)[j]? = some (chunk M (i + j)) := by
  unfold wordsFrom
  simp [h]
theorem up_pack (L : List UInt8) : UP (packW L) = (L, 0) := by
  unfold UP
  rw [if_pos (unpackOk_pack L)]
  have := unpackT_pack L []
  rw [List.append_nil] at this
  rw [this]
theorem wordsN_pack (L : List UInt8) (h : L.length ≤ 120) : wordsN (L.length : Int) = ((packW L).length : Int) := by
  unfold wordsN; rw [if_neg (by omega), packW_len]; omega
section
variable {vs : List Int} {i0 : Nat} {L : List UInt8}
theorem laid_from (hv : U64s vs) (hl : L.length ≤ 120) (hi : i0 + (packW L).length ≤ vs.length) : wordsFrom (bytesW (vsK vs i0 (packW L) (packW L).length)) i0 (packW L).length = packW L := by
  have hu := vsK_u64 hv (packW_u64 L (by omega)) i0 (packW L).length
  apply List.ext_getElem?
  intro j
  by_cases h2 : j < (packW L).length
  · rw [wordsFrom_get _ _ _ _ h2, chunk_bytes _ hu _ (by rw [vsK_len]; omega), vsK_at _ _ _ _ _ h2 hi, List.getD_eq_getElem?_getD, List.getElem?_eq_getElem h2]
    rfl
  · rw [List.getElem?_eq_none (by rw [wordsFrom_len]; omega), List.getElem?_eq_none (by omega)]
theorem laid_head (hv : U64s vs) (hl : L.length ≤ 120) (hi : i0 + (packW L).length ≤ vs.length) : chunk (bytesW (vsK vs i0 (packW L) (packW L).length)) i0 = (L.length : Int) := by
  have h := laid_from hv hl hi
  have h2 := congrArg (fun l => l.headD 0) h
  have hp : (packW L).length = ((L.length + 7) / 8) + 1 := packW_len L
  simp only [packW_head] at h2
  rw [hp, wordsFrom_head] at h2
  rw [hp]; exact h2
/-- it stands there -/
theorem laid_stands (hv : U64s vs) (hl : L.length ≤ 120) (hi : i0 + (packW L).length ≤ vs.length) : standP (bytesW (vsK vs i0 (packW L) (packW L).length)) (8 * (i0 : Int)) = (L, 0) := by
  have hp : (packW L).length = ((L.length + 7) / 8) + 1 := packW_len L
  have hlen : (bytesW (vsK vs i0 (packW L) (packW L).length)).length = 8 * vs.length := by rw [bytesW_len, vsK_len]
  unfold standP
  rw [if_neg (by omega), show (8 * (i0 : Int) / 8).toNat = i0 by omega, laid_head hv hl hi, if_neg (by omega), wordsN_pack L hl, if_neg (by omega), show (((packW L).length : Int)).toNat = (packW L).length by omega, laid_from hv hl hi]
  exact up_pack L
theorem wordsFrom_take (M : List UInt8) (i a b : Nat) (h : a ≤ b) : (wordsFrom M i b).take a = wordsFrom M i a := by
  unfold wordsFrom
  rw [← List.map_take, List.take_range, Nat.min_eq_left h]
/-- it is parsed, whatever is behind it -/
theorem laid_parse (hv : U64s vs) (hl : L.length ≤ 120) (hi : i0 + (packW L).length ≤ vs.length) (m : Nat) (hm : (packW L).length ≤ m) : parseV (clsN (L.length : Int)) (wordsFrom (bytesW (vsK vs i0 (packW L) (packW L).length)) i0 m) = (L, 0) := by
  have hp : (packW L).length = ((L.length + 7) / 8) + 1 := packW_len L
  obtain ⟨m', rfl⟩ : ∃ m', m = m' + 1 := ⟨m - 1, by omega⟩
  unfold parseV
  have hne : wordsFrom (bytesW (vsK vs i0 (packW L) (packW L).length)) i0 (m' + 1) ≠ [] := by
    intro e; have := congrArg List.length e; rw [wordsFrom_len] at this; cases this
  rw [wordsFrom_head, laid_head hv hl hi]
  have hc := cls_12 L.length hl
  rw [if_neg (by rintro (h | h | h); omega; omega; exact hne h), if_neg (by rintro (h | h); omega; exact h rfl), wordsN_pack L hl, wordsFrom_len, show (((packW L).length : Int)).toNat = (packW L).length by omega, if_neg (by omega), wordsFrom_take _ _ _ _ hm, laid_from hv hl hi]
  exact up_pack L
end
theorem MemS.below {w w' : World} {N0 mb : Nat} {vs is : List Int} {vv vi : Value} {ml n : Nat} {D : DataW Value} {sl : Int → Value} {mk : Int → Nat → Int} {F : Int → List (Int × Int)} {lo st fl fe : Int}
    (h : MemS w N0 mb vs is vv vi ml n D sl mk F lo st fl fe) (hB : Below w.heap.size w w') : MemS w' N0 mb vs is vv vi ml n D sl mk F lo st fl fe :=
  ⟨h.m.below hB, ownL_keeps h.o (Keeps.of_below' hB) (fun h => h), h.e, fun a => own_keeps (h.r a) (Keeps.of_below' hB) (fun _ _ h => h), h.d, h.lt, h.x, h.xv⟩
theorem MemS.drew {w : World} {N0 mb : Nat} {vs is : List Int} {vv vi : Value} {ml n : Nat} {D : DataW Value} {sl : Int → Value} {mk : Int → Nat → Int} {F : Int → List (Int × Int)} {lo st fl fe : Int}
    (h : MemS w N0 mb vs is vv vi ml n D sl mk F lo st fl fe) : MemS w.drew N0 mb vs is vv vi ml n D sl mk F lo st fl fe := h.below (Below.refl _ _).drew
structure OfS (w : World) (L : List UInt8) (N : Nat) (e : Ending) (W' : World) : Prop where
  e : e = .returned (.tuple #[.pointer (some ⟨w.heap.size + 1, 0, none⟩), .int .i64 0])
  m : ∃ vv vi ml, (∀ N0, W'.heap.size ≤ N0 → MemS W' N0 (w.heap.size + 1) (wordsB L N) (wordsB L N) vv vi ml 0 (.map []) (fun _ => .slice none 0 0) (fun _ _ => 0) (fun _ => []) 0 0 0 0) ∧ w.heap.size ≤ ml ∧ (∀ i, MS (w.heap.size + 1) vv vi i → i < W'.heap.size ∧ w.heap.size ≤ i) ∧ ml < W'.heap.size
  b : Below w.heap.size w W'
theorem mofS_v (L : List UInt8) (N c : Nat) (p : Option Addr) (w : World) (hN : N ≤ 200000) (hl : L.length = 8 * N) (hc : L.length ≤ c) (hb : BAt w p L) (hm : mayB L.length = true) :
    Calls Try.prog 19 #[.slice p L.length c] w (OfS w L N) := by
  have hpos : 0 < L.length := by unfold mayB at hm; have := of_decide_eq_true hm; omega
  obtain ⟨g, o, rfl, hg, _⟩ := hb 0 hpos
  rw [hl] at hm hc ⊢
  refine (callsIn_wide.1 (mof_in L N g o c _ w hN hl hc (fun _ => rfl) (fun _ => hg) hb.bytes hm)).mono ?_
  rintro e W' ⟨vv, vi, rfl, h1, h2, h3, h4, h5, h6⟩
  have hlt : ∀ i, MS (w.heap.size + 1) vv vi i → i < W'.heap.size ∧ w.heap.size ≤ i := fun i hi => by
    rcases hi with rfl | hi | hi
    · exact ⟨h1.blk.lt, by omega⟩
    · exact ⟨own_lt h1.v hi, by have := h2 i hi; omega⟩
    · exact ⟨own_lt h1.i hi, by have := h3 i hi; omega⟩
  have hml : w.heap.size < W'.heap.size := (Array.getElem?_eq_some_iff.1 h5).1
  refine ⟨rfl, ⟨vv, vi, w.heap.size, fun N0 hN0 => ⟨h1, ⟨#[], 0, h5, ⟨by simp, Go.MapKept.stamped_empty 0, by simp⟩, Nat.le_refl _, rfl⟩, fun a => rfl, fun a => World.ownsRow_nil _ _ _ _, fun _ _ _ _ h => (by cases h), fun i hi => ?_, ⟨by omega, fun h => by have := h2 _ h; omega, fun h => by have := h3 _ h; omega⟩, h4⟩, Nat.le_refl _, hlt, hml⟩, h6⟩
  rcases hi with h | h | h | h
  · have := (hlt i (.inl h)).1; omega
  · omega
  · have := (hlt i (.inr (.inl h))).1; omega
  · have := (hlt i (.inr (.inr h))).1; omega
end Go.Proofs.Ytegamhjfloebgaa
