/-
  A set beside a row that the call owns: what Take, Has leave.
-/
import Derived.Test.YtdekjfbaoaobeaaIc
namespace Go.Proofs.Ytdekjfbaoaobeaa
open Go.RowKit

theorem ReadL.keep {w w' : World} {a : Option Addr} {xs : List Int} (h : ReadL w a xs) (hB : Below w.heap.size w w') : ReadL w' a xs := by
  rcases h with h | ⟨g, o, h1, h2, h3⟩
  · exact .inl h
  · exact .inr ⟨g, o, h1, Nat.lt_of_lt_of_le h2 hB.size, fun j hj => (hB.cell (p := ⟨g, o + j, none⟩) h2).trans (h3 j hj)⟩
theorem ReadL.at {w : World} {a : Option Addr} {xs : List Int} (h : ReadL w a xs) {k : Nat} (hk : k < xs.length) :
    ∃ g o, a = some ⟨g, o, none⟩ ∧ g < w.heap.size ∧ w.cell? ⟨g, o + k, none⟩ = some (.int .u64 (xs.getD k 0)) := by
  rcases h with h | ⟨g, o, h1, h2, h3⟩
  · subst h; simp at hk
  · exact ⟨g, o, h1, h2, h3 k hk⟩

/-- NewFree at whatever list -/
theorem newfree_k (a : Option Addr) (c : Nat) (xs : List Int) (w : World) (h : ReadL w a xs) (hn : xs.length ≤ 100000) :
    Calls Try.prog 23 #[.slice a xs.length c] w fun e w' => ∃ S, e = .returned (.pointer (some ⟨w.heap.size, 0, none⟩)) ∧ KSet w.heap.size w w.heap.size S w' ∧ S.Nodup ∧ (∀ x, x ∈ S ↔ x ∈ xs ∧ x ≠ 0) ∧ S.length ≤ xs.length :=
  (newfree_v a c xs w h hn).mono fun _ _ ⟨v, l, he, hs, hm, hl, ho, hB⟩ => ⟨l, he, ⟨v, l, hs, .refl _, ho, Nat.le_refl _, hB.size, hB⟩, hs.nd, hm, hl⟩

/-- a set, and a row beside it -/
def KRow (B : Nat) (w0 : World) (b : Nat) (S : List Int) (u : Value) (R : List Int) (w : World) : Prop :=
  ∃ v l, SetV w b v l ∧ l.Perm S ∧ (∀ g, v.ownBlock = some g → B ≤ g) ∧ B ≤ b ∧ B ≤ w.heap.size ∧ Below B w0 w ∧ w.ownsRow 0 39 1 u R.length (R.map (Value.int .u64)) ∧ ∀ g, u.ownBlock = some g → g ≠ b ∧ v.ownBlock ≠ some g

theorem own_keeps {S : Nat → Prop} {w w' : World} {base : Nat} {e : TypeId} {size : Nat} {v : Value} {n : Nat} {xs : List Value} (h : w.ownsRow base e size v n xs) (hk : Keeps S w w') (hn : ∀ g, v.ownBlock = some g → ¬ S g) : w'.ownsRow base e size v n xs := by
  obtain ⟨hl, h2⟩ := h
  refine ⟨hl, ?_⟩
  rcases h2 with h2 | ⟨g, cap, cur, hv, hb, hh, r⟩
  · exact .inl h2
  · refine .inr ⟨g, cap, cur, hv, hb, ?_, r⟩
    rw [hk.block g (Array.getElem?_eq_some_iff.1 hh).1 (hn g (by rw [hv]; rfl))]
    exact hh
theorem own_lt {w : World} {base : Nat} {e : TypeId} {size : Nat} {v : Value} {n : Nat} {xs : List Value} (h : w.ownsRow base e size v n xs) : ∀ g, v.ownBlock = some g → g < w.heap.size := by
  obtain ⟨_, ⟨rfl, _⟩ | ⟨g, cap, cur, rfl, hb, hh, _⟩⟩ := h
  · intro g hg; cases hg
  · intro g' hg; cases hg; exact (Array.getElem?_eq_some_iff.1 hh).1
theorem HStep.row {b : Nat} {v v' u : Value} {w w' : World} {e : TypeId} {n : Nat} {xs : List Value} (h : HStep b v v' w w') (hr : w.ownsRow 0 e 1 u n xs) (hd : ∀ g, u.ownBlock = some g → g ≠ b ∧ v.ownBlock ≠ some g) :
    w'.ownsRow 0 e 1 u n xs ∧ ∀ g, u.ownBlock = some g → g ≠ b ∧ v'.ownBlock ≠ some g := by
  refine ⟨own_keeps hr h.1 (fun g hg hS => by rcases hS with e | e; exact (hd g hg).1 e; exact (hd g hg).2 e), fun g hg => ⟨(hd g hg).1, fun e => ?_⟩⟩
  rcases h.2 with h2 | h2
  · rw [h2] at e; exact (hd g hg).2 e
  · have := h2 g e; have := own_lt hr g hg; omega

theorem KRow.set {B : Nat} {w0 : World} {b : Nat} {S : List Int} {u : Value} {R : List Int} {w : World} (h : KRow B w0 b S u R w) : KSet B w0 b S w := by
  obtain ⟨v, l, h1, h2, h3, h4, h5, h6, _⟩ := h
  exact ⟨v, l, h1, h2, h3, h4, h5, h6⟩
theorem KRow.keep {B : Nat} {w0 w w' : World} {b : Nat} {S : List Int} {u : Value} {R : List Int} (h : KRow B w0 b S u R w) (hB : Below w.heap.size w w') : KRow B w0 b S u R w' := by
  obtain ⟨v, l, hs, hp, ho, hb, hBw, hW, hr, hd⟩ := h
  exact ⟨v, l, ⟨hs.hv.keep hB, hs.hp, hs.nd⟩, hp, ho, hb, Nat.le_trans hBw hB.size, hW.trans (hB.mono hBw), own_keeps hr (Keeps.of_below' hB) (fun _ _ => id), hd⟩
/-- All's answer beside the set -/
theorem all_row {B : Nat} {w0 w : World} {b : Nat} {S : List Int} (h : KSet B w0 b S w) (hn : S.length ≤ 1000) :
    Calls Try.prog 25 #[.pointer (some ⟨b, 0, none⟩)] w fun e w' => ∃ a c, e = .returned (.slice a (srt S).length c) ∧ KRow B w0 b S (.slice a (srt S).length c) (srt S) w' := by
  obtain ⟨v, l, hs, hp, ho, hb, hB, hW⟩ := h
  refine (fall_v b v l w hs (by rw [hp.length_eq]; omega)).mono ?_
  rintro e w' ⟨u, rfl, ho2, hB2⟩
  rw [srt_congr hp] at ho2
  obtain ⟨a, n, c, rfl⟩ := own_slice ho2
  have hn2 : n = (srt S).length := own_len ho2
  subst hn2
  refine ⟨a, c, rfl, v, l, ⟨hs.hv.keep hB2, hs.hp, hs.nd⟩, hp, ho, hb, Nat.le_trans hB hB2.size, hW.trans (hB2.mono hB), own_mono ho2 (Nat.zero_le _), fun g hg => ?_⟩
  have := own_base ho2 g hg
  have := hs.hv.blk.lt
  refine ⟨by omega, fun e => ?_⟩
  have := own_lt hs.hv.row g e
  omega
theorem take_row {B : Nat} {w0 w : World} {b : Nat} {a : Int} {S : List Int} {u : Value} {R : List Int} (h : KRow B w0 b (a :: S) u R w) (hm : ∀ y ∈ S, a ≤ y) (hn : S.length ≤ 1000) :
    Calls Try.prog 26 #[.pointer (some ⟨b, 0, none⟩)] w fun e w' => e = .returned (.tuple #[.int .u64 a, .bool true]) ∧ KRow B w0 b S u R w' := by
  obtain ⟨v, l, hs, hp, ho, hb, hB, hW, hr, hd⟩ := h
  have hl := hp.length_eq
  simp at hl
  refine (take_some b v l w hs (by omega) (by intro e; subst e; simp at hl)).mono ?_
  rintro e w' ⟨x, rfl, hx, hmin, v', l', hs', hp', hst⟩
  have h1 := hmin a (hp.mem_iff.2 (by simp))
  have h2 : a ≤ x := by
    rcases List.mem_cons.1 (hp.mem_iff.1 hx) with e | e
    · omega
    · exact hm x e
  obtain rfl : x = a := by omega
  obtain ⟨hr', hd'⟩ := hst.row hr hd
  exact ⟨rfl, v', l', hs', (hp'.symm.trans hp).cons_inv, hst.own ho hB, hb, Nat.le_trans hB hst.1.size, hst.below ho hb hB hW, hr', hd'⟩
theorem has_row {B : Nat} {w0 w : World} {b : Nat} {S : List Int} {u : Value} {R : List Int} (a : Int) (h : KRow B w0 b S u R w) (hn : S.length ≤ 1000) :
    Calls Try.prog 27 #[.pointer (some ⟨b, 0, none⟩), .int .u64 a] w fun e w' => e = .returned (.bool (decide (a ∈ S))) ∧ KRow B w0 b S u R w' := by
  have h0 := h
  obtain ⟨v, l, hs, hp, _⟩ := h
  refine (has_v b v l a w hs.hv (by rw [hp.length_eq]; omega)).mono ?_
  rintro e w' ⟨rfl, hB⟩
  exact ⟨by rw [show decide (a ∈ l) = decide (a ∈ S) from decide_eq_decide.2 hp.mem_iff], h0.keep hB⟩
theorem takenil_row {B : Nat} {w0 w : World} {b : Nat} {u : Value} {R : List Int} (h : KRow B w0 b [] u R w) :
    Calls Try.prog 26 #[.pointer (some ⟨b, 0, none⟩)] w fun e w' => e = .returned (.tuple #[.int .u64 0, .bool false]) ∧ w = w' := takenil_k h.set
theorem KRow.at {B : Nat} {w0 w : World} {b : Nat} {S : List Int} {a : Option Addr} {c : Nat} {R : List Int} (h : KRow B w0 b S (.slice a R.length c) R w) {k : Nat} (hk : k < R.length) :
    ∃ g, a = some ⟨g, 0, none⟩ ∧ w.cell? ⟨g, k, none⟩ = some (.int .u64 (R.getD k 0)) := by
  obtain ⟨v, l, hs, hp, ho, hb, hBw, hW, hr, hd⟩ := h
  obtain ⟨g, cap, e, _, _, _, _, _, hc, _⟩ := own_shape hr (by omega)
  cases e
  exact ⟨g, rfl, by rw [hc k hk]; simp [hk]⟩
/-- a row that rises -/
theorem srt_rises {S : List Int} (hd : S.Nodup) {i j : Nat} (hij : i < j) (hj : j < (srt S).length) : (srt S).getD i 0 < (srt S).getD j 0 := by
  have hs : (srt S).Pairwise (fun x y => decide (x ≤ y) = true) := List.pairwise_mergeSort (by simp; omega) (by simp; omega) S
  have h1 := List.pairwise_iff_getElem.1 hs i j (by omega) hj hij
  have h2 := List.pairwise_iff_getElem.1 ((srt_perm S).nodup_iff.2 hd) i j (by omega) hj hij
  simp at h1
  simp [show i < (srt S).length by omega, hj]
  omega
theorem drop_consI (l : List Int) (k : Nat) (h : k < l.length) : l.drop k = l.getD k 0 :: l.drop (k + 1) := by
  rw [List.drop_eq_getElem_cons h]; simp [h]
theorem srt_least {S : List Int} (hd : S.Nodup) {k : Nat} : ∀ y ∈ (srt S).drop (k + 1), (srt S).getD k 0 < y := by
  intro y hy
  obtain ⟨i, hi, e⟩ := List.getElem_of_mem hy
  rw [List.getElem_drop] at e
  simp at hi
  have := srt_rises hd (i := k) (j := k + 1 + i) (by omega) (by omega)
  rw [← e]
  simpa [show k + 1 + i < (srt S).length by omega] using this
end Go.Proofs.Ytdekjfbaoaobeaa
