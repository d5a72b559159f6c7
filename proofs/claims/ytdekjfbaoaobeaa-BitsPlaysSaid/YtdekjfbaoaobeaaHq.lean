/-
  HEAPS, IN PLAIN LEAN: up and down.
-/
import Derived.Test.YtdekjfbaoaobeaaHm
namespace Go.Proofs.Ytdekjfbaoaobeaa

def par (k : Nat) : Nat := (k - 1) / 2
theorem swpL_get (l : List Int) (i j k : Nat) (hi : i < l.length) (hj : j < l.length) : (swpL l i j).getD k 0 = if k = j then l.getD i 0 else if k = i then l.getD j 0 else l.getD k 0 := by
  unfold swpL
  simp only [List.getD_eq_getElem?_getD, List.getElem?_set, List.length_set]
  by_cases h1 : k = j
  · subst h1; simp [hj]
  · by_cases h2 : k = i
    · subst h2; simp [h1, Ne.symm h1, hi]
    · simp [h1, h2, Ne.symm h1, Ne.symm h2]
theorem swpL_perm (l : List Int) (i j : Nat) (hi : i < l.length) (hj : j < l.length) : (swpL l i j).Perm l := by
  have h := Array.swap_perm (xs := l.toArray) (i := i) (j := j) (by simpa using hi) (by simpa using hj)
  have e : (l.toArray.swap i j (by simpa using hi) (by simpa using hj)).toList = swpL l i j := by
    simp [Array.swap_def, swpL, hi, hj]
  have := Array.perm_iff_toList_perm.1 h
  rw [e] at this; simpa using this

structure SameL (n : Nat) (l l' : List Int) : Prop where
  len : l'.length = l.length
  perm : l'.Perm l
  rest : ∀ k, n ≤ k → l'.getD k 0 = l.getD k 0
theorem SameL.refl (n : Nat) (l : List Int) : SameL n l l := ⟨rfl, .refl _, fun _ _ => rfl⟩
theorem SameL.trans {n : Nat} {a b c : List Int} (h : SameL n a b) (k : SameL n b c) : SameL n a c := ⟨k.len.trans h.len, k.perm.trans h.perm, fun i hi => (k.rest i hi).trans (h.rest i hi)⟩
theorem SameL.swp (n : Nat) (l : List Int) (i j : Nat) (hi : i < n) (hj : j < n) (hn : n ≤ l.length) : SameL n l (swpL l i j) :=
  ⟨swpL_len _ _ _, swpL_perm _ _ _ (by omega) (by omega), fun k hk => by rw [swpL_get _ _ _ _ (by omega) (by omega), if_neg (by omega), if_neg (by omega)]⟩

/-- the first n are a heap -/
def Hp (n : Nat) (l : List Int) : Prop := ∀ k, k < n → 0 < k → l.getD (par k) 0 ≤ l.getD k 0
structure UpOk (n : Nat) (l : List Int) (j : Nat) : Prop where
  jn : j < n
  nl : n ≤ l.length
  le : ∀ k, k < n → 0 < k → k ≠ j → l.getD (par k) 0 ≤ l.getD k 0
  gr : ∀ k, k < n → 0 < k → par k = j → 0 < j → l.getD (par j) 0 ≤ l.getD k 0
theorem UpOk.stop {n : Nat} {l : List Int} {j : Nat} (h : UpOk n l j) (hs : j = 0 ∨ ¬ l.getD j 0 < l.getD (par j) 0) : Hp n l := by
  intro k hk h0
  by_cases e : k = j
  · subst e; rcases hs with hs | hs <;> omega
  · exact h.le k hk h0 e
theorem UpOk.next {n : Nat} {l : List Int} {j : Nat} (h : UpOk n l j) (h0 : 0 < j) (hs : l.getD j 0 < l.getD (par j) 0) : UpOk n (swpL l (par j) j) (par j) := by
  have hp : par j < j := by unfold par; omega
  have hjn := h.jn
  have hnl := h.nl
  have hg := fun k => swpL_get l (par j) j k (by omega) (by omega)
  refine ⟨by omega, by rw [swpL_len]; exact h.nl, ?_, ?_⟩
  · intro k hk hk0 hne
    have hpk : par k < k := by unfold par; omega
    rw [hg, hg]
    by_cases e1 : k = j
    · subst e1
      rw [if_neg (by omega), if_pos rfl, if_pos rfl]; omega
    · have hl := h.le k hk hk0 e1
      rw [if_neg e1, if_neg hne]
      by_cases e2 : par k = j
      · rw [if_pos e2]; exact h.gr k hk hk0 e2 h0
      · rw [if_neg e2]
        by_cases e3 : par k = par j
        · rw [if_pos e3]; rw [e3] at hl; omega
        · rw [if_neg e3]; exact hl
  · intro k hk hk0 hpk hp0
    have hppj : par (par j) < par j := by unfold par at *; omega
    have hlt : par k < k := by unfold par; omega
    rw [hg, hg, if_neg (by omega), if_neg (by omega)]
    have hl := h.le (par j) (by omega) hp0 (by omega)
    by_cases e1 : k = j
    · rw [if_pos e1]; exact hl
    · rw [if_neg e1, if_neg (by omega)]
      have := h.le k hk hk0 e1
      rw [hpk] at this; omega

/-- the heap while down goes: i is where it stands, i0 where it began -/
structure DownOk (n : Nat) (l : List Int) (i0 i : Nat) : Prop where
  nl : n ≤ l.length
  ge : i0 ≤ i
  le : ∀ k, k < n → 0 < k → par k ≠ i → ¬ (k = i0 ∧ i = i0) → l.getD (par k) 0 ≤ l.getD k 0
  gr : ∀ k, k < n → 0 < k → par k = i → 0 < i → l.getD (par i) 0 ≤ l.getD k 0
theorem DownOk.stop {n : Nat} {l : List Int} {i0 i : Nat} (h : DownOk n l i0 i) (hs : ∀ k, k < n → 0 < k → par k = i → l.getD i 0 ≤ l.getD k 0) : (i0 < i → Hp n l) ∧ (i = i0 → i0 < n → UpOk n l i0) := by
  have h1 : ∀ k, k < n → 0 < k → ¬ (k = i0 ∧ i = i0) → l.getD (par k) 0 ≤ l.getD k 0 := by
    intro k hk h0 hn
    by_cases e : par k = i
    · rw [e]; exact hs k hk h0 e
    · exact h.le k hk h0 e hn
  refine ⟨fun hlt k hk h0 => h1 k hk h0 (by omega), fun e hn => ⟨hn, h.nl, fun k hk h0 hne => h1 k hk h0 (by omega), fun k hk h0 hp h3 => ?_⟩⟩
  subst e; exact h.gr k hk h0 hp h3
theorem DownOk.next {n : Nat} {l : List Int} {i0 i j : Nat} (h : DownOk n l i0 i) (hj : j < n) (hj0 : 0 < j) (hp : par j = i) (hmin : ∀ k, k < n → 0 < k → par k = i → l.getD j 0 ≤ l.getD k 0) (hs : l.getD j 0 < l.getD i 0) : DownOk n (swpL l i j) i0 j := by
  have hij : i < j := by unfold par at hp; omega
  have hge := h.ge
  have hnl := h.nl
  have hg := fun k => swpL_get l i j k (by omega) (by omega)
  refine ⟨by rw [swpL_len]; exact h.nl, by omega, ?_, ?_⟩
  · intro k hk h0 hpk _
    have hlt : par k < k := by unfold par; omega
    rw [hg, hg]
    by_cases e1 : k = j
    · subst e1; rw [if_neg (by omega), if_pos hp, if_pos rfl]; omega
    · rw [if_neg e1, if_neg hpk]
      by_cases e2 : k = i
      · subst e2
        rw [if_neg (by omega), if_pos rfl]
        exact h.gr j hj hj0 hp h0
      · rw [if_neg e2]
        by_cases e3 : par k = i
        · rw [if_pos e3]; exact hmin k hk h0 e3
        · rw [if_neg e3]; exact h.le k hk h0 e3 (by omega)
  · intro k hk h0 hpk hj1
    have hlt : par k < k := by unfold par; omega
    rw [hg, hg, hp, if_neg (by omega), if_pos rfl, if_neg (by omega), if_neg (by omega)]
    have := h.le k hk h0 (by omega) (by omega)
    rw [hpk] at this; exact this

theorem Hp.root {n : Nat} {l : List Int} (h : Hp n l) : ∀ k, k < n → l.getD 0 0 ≤ l.getD k 0 := by
  intro k
  induction k using Nat.strongRecOn with
  | _ k ih =>
    intro hk
    by_cases h0 : k = 0
    · subst h0; exact Int.le_refl _
    · have hp : par k < k := by unfold par; omega
      have := ih (par k) hp (by omega)
      have := h k hk (by omega)
      omega
/-- a heap's first n, one end struck -/
theorem Hp.less {n m : Nat} {l : List Int} (h : Hp n l) (hm : m ≤ n) : Hp m l := fun k hk h0 => h k (by omega) h0
/-- a heap with one place overwritten by its last one: ready for down -/
theorem Hp.swapped {l : List Int} (i : Nat) (h : Hp l.length l) (hi : i < l.length) : DownOk (l.length - 1) (swpL l i (l.length - 1)) i i := by
  have hg := fun k => swpL_get l i (l.length - 1) k (by omega) (by omega)
  refine ⟨by rw [swpL_len]; omega, Nat.le_refl _, ?_, ?_⟩
  · intro k hk h0 hp hn
    have hlt : par k < k := by unfold par; omega
    rw [hg, hg, if_neg (by omega), if_neg hp, if_neg (by omega), if_neg (by omega)]
    exact h k (by omega) h0
  · intro k hk h0 hp hi0
    have hlt : par k < k := by unfold par; omega
    have hlt2 : par i < i := by unfold par; omega
    rw [hg, hg, if_neg (by omega), if_neg (by omega), if_neg (by omega), if_neg (by omega)]
    have h1 := h k (by omega) h0
    have h2 := h i (by omega) hi0
    rw [hp] at h1; omega
/-- one put behind: ready for up -/
theorem Hp.pushed {l : List Int} (x : Int) (h : Hp l.length l) : UpOk (l.length + 1) (l ++ [x]) l.length := by
  have hg : ∀ k, k < l.length → (l ++ [x]).getD k 0 = l.getD k 0 := fun k hk => by simp [List.getElem?_append, hk]
  refine ⟨by omega, by simp, ?_, ?_⟩
  · intro k hk h0 hne
    have hlt : par k < k := by unfold par; omega
    rw [hg _ (by omega), hg _ (by omega)]; exact h k (by omega) h0
  · intro k hk h0 hp h3
    have hlt : par k < k := by unfold par; omega
    omega
theorem last_split (l : List Int) (n : Nat) (h : l.length = n + 1) : l = l.take n ++ [l.getD n 0] := by
  have e : l.getD n 0 = l[n] := by simp [h]
  rw [e, List.take_append_getElem]
  rw [List.take_of_length_le (by omega)]
theorem Hp.take {l : List Int} {n : Nat} (h : Hp n l) (hn : n ≤ l.length) : Hp (l.take n).length (l.take n) := by
  have hl : (l.take n).length = n := by simp; omega
  rw [hl]
  intro k hk h0
  have hlt : par k < k := by unfold par; omega
  have hg : ∀ k, k < n → (l.take n).getD k 0 = l.getD k 0 := fun k hk => by simp [hk]
  rw [hg _ hk, hg _ (by omega)]; exact h k hk h0
end Go.Proofs.Ytdekjfbaoaobeaa
