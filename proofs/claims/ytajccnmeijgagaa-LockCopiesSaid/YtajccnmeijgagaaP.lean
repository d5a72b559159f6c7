/-
  THE PLAIN LAW OF LockRuns: chains and circles of clients that wait.
-/
import Derived.Test.YtajccnmeijgagaaK
namespace Go.Proofs.Ytajccnmeijgagaa
open Go.RowKit

theorem foldl_min_le (l : List Int) : ∀ a : Int, l.foldl min a ≤ a ∧ (∀ y ∈ l, l.foldl min a ≤ y) ∧ (l.foldl min a = a ∨ l.foldl min a ∈ l) := by
  induction l with
  | nil => intro a; simp
  | cons x r ih =>
    intro a
    obtain ⟨h1, h2, h3⟩ := ih (min a x)
    refine ⟨by simp only [List.foldl_cons]; omega, fun y hy => ?_, ?_⟩
    · simp only [List.foldl_cons]
      rcases List.mem_cons.1 hy with rfl | hy
      · omega
      · exact h2 y hy
    · simp only [List.foldl_cons]
      rcases h3 with h3 | h3
      · rw [h3]
        rcases Int.le_total a x with h | h
        · left; omega
        · right; rw [Int.min_eq_right h]; simp
      · right; simp [h3]

theorem minL_eq (l : List Int) (m : Int) (hm : m ∈ l) (hle : ∀ y ∈ l, m ≤ y) : minL l = m := by
  cases l with
  | nil => cases hm
  | cons x r =>
    obtain ⟨h1, h2, h3⟩ := foldl_min_le r x
    have e : minL (x :: r) = r.foldl min x := by simp [minL]
    rw [e]
    have hge : m ≤ r.foldl min x := by
      rcases h3 with h3 | h3
      · rw [h3]; exact hle x (by simp)
      · exact hle _ (by simp [h3])
    rcases List.mem_cons.1 hm with rfl | hm
    · omega
    · have := h2 m hm; omega

theorem runs_chain (nx : Int → Option Int) : ∀ (d : Nat) (f : Nat) (way : List Int) (j : Int), d + 1 ≤ f → (∀ y ∈ way, ∀ i, j < i → i ≤ j + d → y ≠ i) → (∀ i, j ≤ i → i < j + d → nx i = some (i + 1)) → nx (j + d) = none →
    runsF nx f way j = j + d := by
  intro d
  induction d with
  | zero =>
    intro f way j hf _ _ hn
    obtain ⟨f, rfl⟩ : ∃ g, f = g + 1 := ⟨f - 1, by omega⟩
    simp only [Int.natCast_zero, Int.add_zero] at hn ⊢
    rw [runsF, hn]
  | succ d ih =>
    intro f way j hf hav hs hn
    obtain ⟨f, rfl⟩ : ∃ g, f = g + 1 := ⟨f - 1, by omega⟩
    rw [runsF, hs j (by omega) (by omega)]
    have hnin : ¬ (j + 1) ∈ way ++ [j] := by
      intro h
      rcases List.mem_append.1 h with h | h
      · exact hav _ h (j + 1) (by omega) (by omega) rfl
      · simp at h; omega
    simp only [if_neg hnin]
    rw [ih f (way ++ [j]) (j + 1) (by omega) ?_ (fun i h1 h2 => hs i (by omega) (by omega)) (by rw [← hn]; congr 1; omega)]
    · omega
    · intro y hy i h1 h2
      rcases List.mem_append.1 hy with h | h
      · exact hav y h i (by omega) (by omega)
      · simp at h; omega

/-- j, j + 1 .. j + d. -/
def rng (j : Int) : Nat → List Int
  | 0 => [j]
  | d + 1 => j :: rng (j + 1) d

theorem mem_rng (d : Nat) : ∀ (j y : Int), y ∈ rng j d ↔ j ≤ y ∧ y ≤ j + d := by
  induction d with
  | zero => intro j y; simp [rng]; omega
  | succ d ih => intro j y; simp only [rng, List.mem_cons, ih]; omega

theorem runs_circle (nx : Int → Option Int) (a : Int) : ∀ (d : Nat) (f : Nat) (way : List Int) (j : Int), d + 1 ≤ f → (∀ y ∈ way, ∀ i, j < i → i ≤ j + d → y ≠ i) → (∀ i, j ≤ i → i < j + d → nx i = some (i + 1)) → nx (j + d) = some a → a ∈ way ++ rng j d →
    runsF nx f way j = minL ((way ++ rng j d).drop ((way ++ rng j d).idxOf a)) := by
  intro d
  induction d with
  | zero =>
    intro f way j hf _ _ hn ha
    obtain ⟨f, rfl⟩ : ∃ g, f = g + 1 := ⟨f - 1, by omega⟩
    simp only [Int.natCast_zero, Int.add_zero] at hn
    simp only [rng] at ha ⊢
    rw [runsF, hn]
    simp only [if_pos ha]
  | succ d ih =>
    intro f way j hf hav hs hn ha
    obtain ⟨f, rfl⟩ : ∃ g, f = g + 1 := ⟨f - 1, by omega⟩
    rw [runsF, hs j (by omega) (by omega)]
    have hnin : ¬ (j + 1) ∈ way ++ [j] := by
      intro h
      rcases List.mem_append.1 h with h | h
      · exact hav _ h (j + 1) (by omega) (by omega) rfl
      · simp at h; omega
    simp only [if_neg hnin]
    have el : way ++ rng j (d + 1) = (way ++ [j]) ++ rng (j + 1) d := by simp [rng]
    rw [el] at ha ⊢
    refine ih f (way ++ [j]) (j + 1) (by omega) ?_ (fun i h1 h2 => hs i (by omega) (by omega)) (by rw [← hn]; congr 1; omega) ha
    intro y hy i h1 h2
    rcases List.mem_append.1 hy with h | h
    · exact hav y h i (by omega) (by omega)
    · simp at h; omega

theorem idxOf_head (x : Int) (l : List Int) : (x :: l).idxOf x = 0 := by simp

/-! ### the two tables -/
/-- in u each has one -/
def hU (i : Nat) : Int → Option Int := fun a => if 8 ≤ a ∧ a ≤ 8 * i ∧ a % 8 = 0 then some (a / 8 - 1) else none
theorem hU_zero : (fun _ => none) = hU 0 := by
  funext a; unfold hU; rw [if_neg (by omega)]
theorem hU_succ (i : Nat) : updI (hU i) (8 * ((i : Int) + 1)) (some (i : Int)) = hU (i + 1) := by
  funext a
  unfold updI hU
  by_cases h : a = 8 * ((i : Int) + 1)
  · subst h; rw [if_pos rfl, if_pos (by omega)]; congr 1; omega
  · rw [if_neg h]
    by_cases h2 : 8 ≤ a ∧ a ≤ 8 * (i : Int) ∧ a % 8 = 0
    · rw [if_pos h2, if_pos (by omega)]
    · rw [if_neg h2, if_neg (by omega)]
theorem hU_at (n : Nat) (i : Nat) (h : i < n) : hU n (8 * ((i : Int) + 1)) = some (i : Int) := by
  unfold hU; rw [if_pos (by omega)]; congr 1; omega
theorem hU_range (n : Nat) : ∀ a x, hU n a = some x → 0 ≤ x ∧ x < (n : Int) := by
  intro a x h; unfold hU at h; split at h
  · cases h; omega
  · cases h
/-- for what they wait: those from c to i - 1 -/
def wU (c i : Nat) : Nat → Int := fun j => if c ≤ j ∧ j < i then 8 * ((j : Int) + 2) else 0
theorem wU_zero (c : Nat) : (fun _ => (0 : Int)) = wU c c := by funext j; unfold wU; rw [if_neg (by omega)]
theorem wU_succ (c i : Nat) (h : c ≤ i) : updN (wU c i) i (8 * ((i : Int) + 2)) = wU c (i + 1) := by
  funext j; unfold updN wU
  by_cases e : j = i
  · subst e; rw [if_pos rfl, if_pos (by omega)]
  · rw [if_neg e]
    by_cases h2 : c ≤ j ∧ j < i
    · rw [if_pos h2, if_pos (by omega)]
    · rw [if_neg h2, if_neg (by omega)]
theorem updN_same0 (i : Nat) : updN (fun _ => 0) i 0 = fun _ => 0 := by funext j; unfold updN; split <;> rfl

/-- On whom each one waits. -/
theorem nxt_U (n c i : Nat) (hi : i < n) (x : Int) (h1 : (c : Int) ≤ x) (h2 : x < i) : nxt (hU n) (wU c i) x = some (x + 1) := by
  obtain ⟨j, rfl⟩ := Int.eq_ofNat_of_zero_le (show 0 ≤ x by omega)
  unfold nxt
  have e : wU c i (j : Int).toNat = 8 * ((((j + 1 : Nat) : Int)) + 1) := by
    rw [Int.toNat_natCast]; unfold wU; rw [if_pos (by omega)]; omega
  rw [e, hU_at n (j + 1) (by omega)]
  simp only
  rw [if_neg (by omega)]; congr 1
theorem nxt_U_end (n c i : Nat) : nxt (hU n) (wU c i) (i : Int) = none := by
  unfold nxt
  have e : wU c i (i : Int).toNat = 0 := by rw [Int.toNat_natCast]; unfold wU; rw [if_neg (by omega)]
  rw [e]; unfold hU; rw [if_neg (by omega)]

theorem runs_U (n c i : Nat) (hci : c ≤ i) (hi : i < n) : runsF (nxt (hU n) (wU c i)) ((n : Int).toNat + 1) [] (c : Int) = (i : Int) := by
  rw [Int.toNat_natCast]
  have := runs_chain (nxt (hU n) (wU c i)) (i - c) (n + 1) [] (c : Int) (by omega) (by simp) (fun x h1 h2 => nxt_U n c i hi x h1 (by omega)) (by
    rw [show (c : Int) + ((i - c : Nat) : Int) = (i : Int) by omega]; exact nxt_U_end n c i)
  rw [this]; omega

/-- the circle: the last one waits for the first one's -/
def wC (n c : Nat) : Nat → Int := updN (wU c (n - 1)) (n - 1) (8 * ((c : Int) + 1))
theorem nxt_C (n c : Nat) (hc : c < n - 1) (x : Int) (h1 : (c : Int) ≤ x) (h2 : x < (n : Int) - 1) : nxt (hU n) (wC n c) x = some (x + 1) := by
  have := nxt_U n c (n - 1) (by omega) x h1 (by omega)
  unfold nxt at *
  have e : wC n c x.toNat = wU c (n - 1) x.toNat := by unfold wC updN; rw [if_neg (by omega)]
  rw [e]; exact this
theorem nxt_C_end (n c : Nat) (hc : c < n - 1) : nxt (hU n) (wC n c) ((n : Int) - 1) = some (c : Int) := by
  unfold nxt
  have e : wC n c ((n : Int) - 1).toNat = 8 * ((c : Int) + 1) := by unfold wC updN; rw [if_pos (by omega)]
  rw [e, hU_at n c (by omega)]
  simp only
  rw [if_neg (by omega)]
theorem runs_C (n c : Nat) (hc : c < n - 1) : runsF (nxt (hU n) (wC n c)) ((n : Int).toNat + 1) [] (c : Int) = (c : Int) := by
  rw [Int.toNat_natCast]
  have := runs_circle (nxt (hU n) (wC n c)) (c : Int) (n - 1 - c) (n + 1) [] (c : Int) (by omega) (by simp) (fun x h1 h2 => nxt_C n c hc x h1 (by omega)) (by
    rw [show (c : Int) + ((n - 1 - c : Nat) : Int) = (n : Int) - 1 by omega]; exact nxt_C_end n c hc) (by rw [List.nil_append, mem_rng]; omega)
  rw [this, List.nil_append]
  have e : (rng (c : Int) (n - 1 - c)).idxOf (c : Int) = 0 := by
    cases h : n - 1 - c <;> simp [rng]
  rw [e, List.drop_zero]
  exact minL_eq _ _ (by rw [mem_rng]; omega) (fun y hy => by rw [mem_rng] at hy; omega)
theorem runs_C' (n c : Nat) (hc : c < n - 1) : runsF (nxt (hU n) (wC n c)) ((n : Int).toNat + 1) [] ((n : Int) - 1) = (c : Int) := by
  rw [Int.toNat_natCast, runsF, nxt_C_end n c hc]
  have hnin : ¬ (c : Int) ∈ ([] : List Int) ++ [(n : Int) - 1] := by simp; omega
  simp only [if_neg hnin]
  have := runs_circle (nxt (hU n) (wC n c)) ((n : Int) - 1) (n - 2 - c) n ([] ++ [(n : Int) - 1]) (c : Int) (by omega) (by
    intro y hy i h1 h2; simp at hy; omega) (fun x h1 h2 => nxt_C n c hc x h1 (by omega)) (by
    rw [show (c : Int) + ((n - 2 - c : Nat) : Int) = (n : Int) - 2 by omega, nxt_C n c hc _ (by omega) (by omega)]; congr 1; omega) (by simp)
  rw [this]
  have e : (([] : List Int) ++ [(n : Int) - 1] ++ rng (c : Int) (n - 2 - c)).idxOf ((n : Int) - 1) = 0 := by simp
  rw [e, List.drop_zero]
  refine minL_eq _ _ ?_ (fun y hy => ?_)
  · rw [List.mem_append, mem_rng]; right; omega
  · rw [List.mem_append, mem_rng] at hy
    rcases hy with hy | hy
    · simp at hy; omega
    · omega

/-- where the last one begins: it waits for nobody -/
theorem runs_last (n c : Nat) (hc : c = n - 1) (hn : 1 ≤ n) (W : Nat → Int) (hW : W c = 0) : runsF (nxt (hU n) W) ((n : Int).toNat + 1) [] ((n : Int) - 1) = (c : Int) := by
  subst hc
  rw [Int.toNat_natCast, runsF]
  have e : nxt (hU n) W ((n : Int) - 1) = none := by
    unfold nxt
    rw [show ((n : Int) - 1).toNat = n - 1 by omega, hW]
    unfold hU; rw [if_neg (by omega)]
  rw [e]; show (n : Int) - 1 = _; omega

/-- in t all wait for the first one's -/
def wT (i : Nat) : Nat → Int := fun j => if 1 ≤ j ∧ j < i then 8 else 0
theorem wT_one : (fun _ => (0 : Int)) = wT 1 := by funext j; unfold wT; rw [if_neg (by omega)]
theorem wT_succ (i : Nat) (h : 1 ≤ i) : updN (wT i) i 8 = wT (i + 1) := by
  funext j; unfold updN wT
  by_cases e : j = i
  · subst e; rw [if_pos rfl, if_pos (by omega)]
  · rw [if_neg e]
    by_cases h2 : 1 ≤ j ∧ j < i
    · rw [if_pos h2, if_pos (by omega)]
    · rw [if_neg h2, if_neg (by omega)]
theorem runs_T (n c : Nat) (hc : c < n) : runsF (nxt (updI (fun _ => none) 8 (some 0)) (wT n)) ((n : Int).toNat + 1) [] (c : Int) = 0 := by
  rw [Int.toNat_natCast]
  have h0 : nxt (updI (fun _ => none) 8 (some 0)) (wT n) 0 = none := by
    unfold nxt
    have e : wT n (0 : Int).toNat = 0 := rfl
    rw [e]; rfl
  by_cases hz : c = 0
  · subst hz
    rw [runsF]
    have : nxt (updI (fun _ => none) 8 (some 0)) (wT n) ((0 : Nat) : Int) = none := h0
    rw [this]; rfl
  · have h1 : nxt (updI (fun _ => none) 8 (some 0)) (wT n) (c : Int) = some 0 := by
      unfold nxt
      have e : wT n (c : Int).toNat = 8 := by rw [Int.toNat_natCast]; unfold wT; rw [if_pos (by omega)]
      rw [e]
      show (if (0 : Int) = (c : Int) then none else some 0) = some 0
      rw [if_neg (by omega)]
    rw [runsF, h1]
    have hnin : ¬ (0 : Int) ∈ ([] : List Int) ++ [(c : Int)] := by simp; omega
    simp only [if_neg hnin]
    obtain ⟨n, rfl⟩ : ∃ k, n = k + 1 := ⟨n - 1, by omega⟩
    rw [runsF, h0]
theorem runs_none (n : Nat) (c : Int) (W : Nat → Int) (h : Int → Option Int) (hh : ∀ a, h a = none) : runsF (nxt h W) ((n : Int).toNat + 1) [] c = c := by
  rw [runsF]
  have : nxt h W c = none := by unfold nxt; rw [hh]
  rw [this]

theorem rel_none (a : Int) : (if updI (fun _ => (none : Option Int)) 8 (some 0) 8 = some 0 then updI (updI (fun _ => none) 8 (some 0)) 8 none else updI (fun _ => none) 8 (some 0)) a = none := by
  have h : updI (fun _ => (none : Option Int)) 8 (some 0) 8 = some 0 := rfl
  simp only [h, if_true]
  unfold updI
  split <;> rfl

end Go.Proofs.Ytajccnmeijgagaa
