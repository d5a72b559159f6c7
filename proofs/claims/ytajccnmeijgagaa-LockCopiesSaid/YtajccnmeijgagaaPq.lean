/-
  THE LOCKS IN PLAIN WORDS: a list of who has what beside the map of the table; Held and Runs say the same of both.
-/
import Derived.Test.YtajccnmeijgagaaLp
import Derived.Test.YtajccnmeijgagaaP
namespace Go.Proofs.Ytajccnmeijgagaa
open Go.RowKit Go.Maps
set_option linter.unusedVariables false

def lk (l : List (Int × Int)) (id : Int) : Option Int := (l.find? (fun x => x.1 == id)).map (·.2)
def hldI (l : List (Int × Int)) (id : Int) : Int := (lk l id).getD (-1)
theorem lk_nil (id : Int) : lk [] id = none := rfl
theorem lk_cons (x : Int × Int) (l : List (Int × Int)) (id : Int) : lk (x :: l) id = if x.1 = id then some x.2 else lk l id := by
  unfold lk
  rw [List.find?_cons]
  by_cases h : x.1 = id
  · rw [if_pos h, show (x.1 == id) = true from beq_iff_eq.2 h]; rfl
  · rw [if_neg h, show (x.1 == id) = false from beq_eq_false_iff_ne.2 h]
theorem lk_app_new {c : Int} {id : Int} : ∀ (l : List (Int × Int)), lk l id = none → ∀ a, lk (l ++ [(id, c)]) a = updI (lk l) id (some c) a
  | [], _, a => by
    rw [List.nil_append, lk_cons]
    unfold updI
    by_cases e : a = id
    · rw [if_pos e, if_pos e.symm]
    · rw [if_neg e, if_neg (fun q => e q.symm)]
  | x :: l, h, a => by
    rw [lk_cons] at h
    by_cases hx : x.1 = id
    · rw [if_pos hx] at h; cases h
    rw [if_neg hx] at h
    rw [List.cons_append, lk_cons, lk_app_new l h a]
    unfold updI
    by_cases e : a = id
    · rw [if_pos e, if_pos e, if_neg (by rw [e]; exact hx)]
    · rw [if_neg e, if_neg e, lk_cons]
theorem lk_filter (id : Int) : ∀ (l : List (Int × Int)) (a : Int), lk (l.filter (fun x => x.1 != id)) a = updI (lk l) id none a
  | [], a => by unfold updI; simp [lk]
  | x :: l, a => by
    rw [List.filter_cons]
    have ih := lk_filter id l a
    unfold updI at ih ⊢
    by_cases hx : x.1 = id
    · rw [if_neg (by simp [hx]), ih, lk_cons]
      by_cases e : a = id
      · rw [if_pos e, if_pos e]
      · rw [if_neg e, if_neg e, if_neg (by rw [hx]; exact fun q => e q.symm)]
    · rw [if_pos (by simp [hx]), lk_cons, ih, lk_cons]
      by_cases e : a = id
      · rw [if_pos e, if_pos e, if_neg (by rw [e]; exact hx)]
      · rw [if_neg e, if_neg e]
theorem lk_mem : ∀ (l : List (Int × Int)), (l.map (·.1)).Nodup → ∀ a c, (a, c) ∈ l ↔ lk l a = some c
  | [], _, a, c => by simp [lk]
  | x :: l, h, a, c => by
    rw [List.map_cons, List.nodup_cons] at h
    have ih := lk_mem l h.2 a c
    rw [lk_cons, List.mem_cons]
    by_cases hx : x.1 = a
    · rw [if_pos hx]
      constructor
      · rintro (e | e)
        · rw [← e]
        · exact absurd (List.mem_map.2 ⟨(a, c), e, rfl⟩) (by rw [← hx] at *; exact h.1)
      · intro e
        left
        cases x
        simp at hx e
        rw [hx, e]
    · rw [if_neg hx, ← ih]
      constructor
      · rintro (e | e)
        · rw [← e] at hx; exact absurd rfl hx
        · exact e
      · exact Or.inr
def insS (x : Int) (out : List Int) : List Int := out.takeWhile (fun y => decide (y < x)) ++ x :: out.dropWhile (fun y => decide (y < x))
def heldL (l : List (Int × Int)) (c : Int) : List Int := l.foldl (fun out e => if e.2 = c then insS e.1 out else out) []
theorem insS_perm (x : Int) (out : List Int) : (insS x out).Perm (x :: out) := by
  unfold insS
  refine List.perm_middle.trans ?_
  rw [List.takeWhile_append_dropWhile]
theorem insS_sorted (x : Int) : ∀ (out : List Int), out.Pairwise (· ≤ ·) → (insS x out).Pairwise (· ≤ ·)
  | [], _ => by simp [insS]
  | y :: r, h => by
    unfold insS
    rw [List.takeWhile_cons, List.dropWhile_cons]
    rw [List.pairwise_cons] at h
    by_cases hy : y < x
    · rw [if_pos (by simpa using hy), if_pos (by simpa using hy), List.cons_append, List.pairwise_cons]
      refine ⟨fun z hz => ?_, insS_sorted x r h.2⟩
      have := (insS_perm x r).mem_iff.1 hz
      rcases List.mem_cons.1 this with e | e
      · omega
      · exact h.1 z e
    · rw [if_neg (by simpa using hy), if_neg (by simpa using hy), List.nil_append, List.pairwise_cons]
      refine ⟨fun z hz => ?_, List.pairwise_cons.2 h⟩
      rcases List.mem_cons.1 hz with e | e
      · omega
      · have := h.1 z e; omega
theorem held_go (c : Int) : ∀ (l : List (Int × Int)) (out : List Int), out.Pairwise (· ≤ ·) →
    (l.foldl (fun out e => if e.2 = c then insS e.1 out else out) out).Pairwise (· ≤ ·) ∧ (l.foldl (fun out e => if e.2 = c then insS e.1 out else out) out).Perm (((l.filter (fun e => e.2 == c)).map (·.1)) ++ out)
  | [], out, h => ⟨h, .refl _⟩
  | x :: l, out, h => by
    rw [List.foldl_cons]
    by_cases hx : x.2 = c
    · rw [if_pos hx]
      obtain ⟨a, b⟩ := held_go c l (insS x.1 out) (insS_sorted _ _ h)
      refine ⟨a, b.trans ?_⟩
      rw [List.filter_cons, if_pos (by simpa using hx), List.map_cons, List.cons_append]
      refine ((insS_perm x.1 out).append_left _).trans ?_
      exact List.perm_middle
    · rw [if_neg hx]
      obtain ⟨a, b⟩ := held_go c l out h
      refine ⟨a, b.trans ?_⟩
      rw [List.filter_cons, if_neg (by simpa using hx)]
theorem heldL_sorted (l : List (Int × Int)) (c : Int) : (heldL l c).Pairwise (· ≤ ·) := (held_go c l [] List.Pairwise.nil).1
theorem heldL_perm (l : List (Int × Int)) (c : Int) : (heldL l c).Perm ((l.filter (fun e => e.2 == c)).map (·.1)) := by
  have := (held_go c l [] List.Pairwise.nil).2
  rwa [List.append_nil] at this
theorem heldL_mem {l : List (Int × Int)} (h : (l.map (·.1)).Nodup) (c a : Int) : a ∈ heldL l c ↔ lk l a = some c := by
  rw [(heldL_perm l c).mem_iff, List.mem_map]
  constructor
  · rintro ⟨⟨x, y⟩, hx, rfl⟩
    rw [List.mem_filter] at hx
    have hy : y = c := by simpa using hx.2
    rw [← hy]
    exact (lk_mem l h x y).1 hx.1
  · intro e
    exact ⟨(a, c), List.mem_filter.2 ⟨(lk_mem l h a c).2 e, by simp⟩, rfl⟩
theorem heldL_nodup {l : List (Int × Int)} (h : (l.map (·.1)).Nodup) (c : Int) : (heldL l c).Nodup := by
  rw [(heldL_perm l c).nodup_iff]
  refine List.Nodup.sublist ?_ h
  exact List.Sublist.map _ List.filter_sublist
theorem heldL_len (l : List (Int × Int)) (c : Int) : (heldL l c).length ≤ l.length := by
  rw [(heldL_perm l c).length_eq, List.length_map]
  exact List.length_filter_le _ _
theorem held_unique {xs : List Int} {l : List (Int × Int)} {c : Int} (h : (l.map (·.1)).Nodup) (hn : xs.Nodup) (hm : ∀ a, a ∈ xs ↔ lk l a = some c) : xs.Perm (heldL l c) :=
  (List.perm_ext_iff_of_nodup hn (heldL_nodup h c)).2 fun a => (hm a).trans (heldL_mem h c a).symm
def it (g : Int → Int) : Nat → Int → Int
  | 0, c => c
  | k + 1, c => g (it g k c)
theorem it_add (g : Int → Int) (c : Int) : ∀ a b, it g (a + b) c = it g a (it g b c)
  | 0, b => by rw [Nat.zero_add]; rfl
  | a + 1, b => by rw [Nat.add_right_comm]; show g _ = g _; rw [it_add g c a b]
def minIt (g : Int → Int) (c : Int) : Nat → Int
  | 0 => c
  | k + 1 => min (minIt g c k) (it g (k + 1) c)
theorem minIt_le (g : Int → Int) (c : Int) : ∀ k j, j ≤ k → minIt g c k ≤ it g j c
  | 0, j, h => by have : j = 0 := by omega
                  subst this; exact Int.le_refl _
  | k + 1, j, h => by
    show min _ _ ≤ _
    by_cases e : j = k + 1
    · subst e; omega
    · have := minIt_le g c k j (by omega); omega
theorem minIt_mem (g : Int → Int) (c : Int) : ∀ k, ∃ j, j ≤ k ∧ minIt g c k = it g j c
  | 0 => ⟨0, by omega, rfl⟩
  | k + 1 => by
    obtain ⟨j, hj, e⟩ := minIt_mem g c k
    show ∃ i, i ≤ k + 1 ∧ min (minIt g c k) (it g (k + 1) c) = it g i c
    by_cases h : minIt g c k ≤ it g (k + 1) c
    · exact ⟨j, by omega, by rw [Int.min_eq_left h, e]⟩
    · exact ⟨k + 1, by omega, Int.min_eq_right (by omega)⟩
def way (g : Int → Int) (c : Int) (k : Nat) : List Int := (List.range k).map (fun i => it g i c)
theorem way_succ (g : Int → Int) (c : Int) (k : Nat) : way g c (k + 1) = way g c k ++ [it g k c] := by
  unfold way; rw [List.range_succ, List.map_append]; rfl
theorem way_len (g : Int → Int) (c : Int) (k : Nat) : (way g c k).length = k := by unfold way; simp
theorem way_mem {g : Int → Int} {c : Int} {k : Nat} {x : Int} : x ∈ way g c k ↔ ∃ i, i < k ∧ it g i c = x := by
  unfold way; simp
theorem way_get {g : Int → Int} {c : Int} {k i : Nat} (h : i < (way g c k).length) : (way g c k)[i] = it g i c := by
  simp only [way, List.getElem_map, List.getElem_range]
def Inj (g : Int → Int) (c : Int) (k : Nat) : Prop := ∀ i j, i < j → j < k → it g i c ≠ it g j c
theorem way_nodup {g : Int → Int} {c : Int} : ∀ {k : Nat}, Inj g c k → (way g c k).Nodup
  | 0, _ => List.nodup_nil
  | k + 1, h => by
    rw [way_succ, List.nodup_append]
    refine ⟨way_nodup (fun i j a b => h i j a (by omega)), by simp, fun a ha b hb => ?_⟩
    obtain ⟨i, hi, e⟩ := way_mem.1 ha
    rw [List.mem_singleton.1 hb, ← e]
    exact h i k hi (by omega)
theorem inj_succ {g : Int → Int} {c : Int} {k : Nat} (h : Inj g c k) (hn : it g k c ∉ way g c k) : Inj g c (k + 1) := by
  intro i j hij hj e
  by_cases hk : j = k
  · subst hk
    exact hn (way_mem.2 ⟨i, hij, e⟩)
  · exact h i j hij (by omega) e
theorem idx_way {g : Int → Int} {c : Int} {k a : Nat} (h : Inj g c k) (ha : a < k) : (way g c k).idxOf (it g a c) = a := by
  have hl : a < (way g c k).length := by rw [way_len]; exact ha
  have e : (way g c k)[a] = it g a c := way_get hl
  rw [← e]
  exact List.Nodup.idxOf_getElem (way_nodup h) a hl
section
variable {g : Int → Int} {nx : Int → Option Int} {n : Nat} {c : Int}
/-- the chain goes on, till it ends or comes to where it was -/
theorem runs_go (hg : ∀ x : Int, 0 ≤ x → x < (n : Int) → (g x < 0 ∧ nx x = none) ∨ (0 ≤ g x ∧ g x < n ∧ nx x = some (g x))) (hc : 0 ≤ c ∧ c < n) : ∀ f k, f + k = n + 1 → Inj g c (k + 1) → (∀ i, i ≤ k → 0 ≤ it g i c ∧ it g i c < n) → (∀ i, i < k → 0 ≤ g (it g i c)) →
    (∃ d, d < n ∧ (∀ i, i < d → 0 ≤ g (it g i c)) ∧ g (it g d c) < 0 ∧ runsF nx f (way g c k) (it g k c) = it g d c) ∨
    (∃ q a, a < q ∧ q ≤ n ∧ Inj g c q ∧ it g q c = it g a c ∧ (∀ i, i < q → 0 ≤ it g i c ∧ it g i c < n) ∧ (∀ i, i < q → 0 ≤ g (it g i c)) ∧ runsF nx f (way g c k) (it g k c) = minL ((way g c q).drop a))
  | 0, k, hf, hi, hr, _ => by
    have := nodup_length (way g c (k + 1)) n (way_nodup hi) (fun x hx => by obtain ⟨i, h1, rfl⟩ := way_mem.1 hx; exact hr i (by omega))
    rw [way_len] at this
    omega
  | f + 1, k, hf, hi, hr, hp => by
    have hk := nodup_length (way g c (k + 1)) n (way_nodup hi) (fun x hx => by obtain ⟨i, h1, rfl⟩ := way_mem.1 hx; exact hr i (by omega))
    rw [way_len] at hk
    obtain ⟨r0, r1⟩ := hr k (Nat.le_refl _)
    rcases hg _ r0 r1 with ⟨h1, h2⟩ | ⟨h1, h2, h3⟩
    · left
      exact ⟨k, by omega, hp, h1, by unfold runsF; rw [h2]⟩
    · have hp' : ∀ i, i < k + 1 → 0 ≤ g (it g i c) := fun i h => by
        by_cases e : i = k
        · rw [e]; exact h1
        · exact hp i (by omega)
      by_cases hm : it g (k + 1) c ∈ way g c (k + 1)
      · right
        obtain ⟨a, ha, e⟩ := way_mem.1 hm
        refine ⟨k + 1, a, ha, hk, hi, e.symm, fun i h => hr i (by omega), hp', ?_⟩
        unfold runsF; rw [h3]
        show (if it g (k + 1) c ∈ way g c k ++ [it g k c] then _ else _) = _
        rw [← way_succ, if_pos hm]
        show minL (List.drop (List.idxOf (it g (k + 1) c) (way g c (k + 1))) (way g c (k + 1))) = _
        rw [← e, idx_way hi ha]
      · have hr' : ∀ i, i ≤ k + 1 → 0 ≤ it g i c ∧ it g i c < n := fun i h => by
          by_cases e : i = k + 1
          · rw [e]; exact ⟨h1, h2⟩
          · exact hr i (by omega)
        have ih := runs_go hg hc f (k + 1) (by omega) (inj_succ hi hm) hr' hp'
        have e : runsF nx (f + 1) (way g c k) (it g k c) = runsF nx f (way g c (k + 1)) (it g (k + 1) c) := by
          rw [show runsF nx (f + 1) (way g c k) (it g k c) = (match nx (it g k c) with
            | none => it g k c
            | some x => if x ∈ way g c k ++ [it g k c] then minL ((way g c k ++ [it g k c]).drop ((way g c k ++ [it g k c]).idxOf x)) else runsF nx f (way g c k ++ [it g k c]) x) from rfl, h3]
          show (if it g (k + 1) c ∈ way g c k ++ [it g k c] then _ else _) = _
          rw [← way_succ, if_neg hm]
          rfl
        rw [e]
        exact ih
/-- a circle: from a on all comes again after p steps -/
theorem circle {q a : Nat} (haq : a < q) (e : it g q c = it g a c) : ∀ t k, a ≤ k → it g (k + (q - a) * t) c = it g k c
  | 0, k, _ => by rw [Nat.mul_zero, Nat.add_zero]
  | t + 1, k, h => by
    have h1 : it g (k + (q - a)) c = it g k c := by
      have x1 : k + (q - a) = (k - a) + q := by omega
      have x2 : k = (k - a) + a := by omega
      rw [x1, it_add, e, ← it_add, ← x2]
    rw [Nat.mul_succ, ← Nat.add_assoc, Nat.add_right_comm]
    rw [circle haq e t (k + (q - a)) (by omega)]
    exact h1
/-- Runs, as the document reckons it -/
theorem runs_plain (hg : ∀ x : Int, 0 ≤ x → x < (n : Int) → (g x < 0 ∧ nx x = none) ∨ (0 ≤ g x ∧ g x < n ∧ nx x = some (g x))) (hc : 0 ≤ c ∧ c < n) :
    (∃ d, d < n ∧ (∀ i, i < d → 0 ≤ g (it g i c) ∧ g (it g i c) < n) ∧ g (it g d c) < 0 ∧ runsF nx (n + 1) [] c = it g d c) ∨
    ((∀ i, 0 ≤ it g i c ∧ it g i c < n) ∧ ∃ p, 1 ≤ p ∧ p ≤ n ∧ it g p (it g n c) = it g n c ∧ (∀ j, 1 ≤ j → j < p → it g j (it g n c) ≠ it g n c) ∧ runsF nx (n + 1) [] c = minIt g (it g n c) (p - 1)) := by
  rcases runs_go hg hc (n + 1) 0 (by omega) (fun i j h1 h2 => by omega) (fun i h => by rw [show i = 0 from by omega]; exact hc) (fun i h => by omega) with ⟨d, h1, h2, h3, h4⟩ | ⟨q, a, haq, hq, hi, e, hr, hp, hm⟩
  · left
    refine ⟨d, h1, ?_, h3, h4⟩
    have : ∀ i, i ≤ d → 0 ≤ it g i c ∧ it g i c < n := by
      intro i
      induction i with
      | zero => exact fun _ => hc
      | succ i ih =>
        intro hi
        obtain ⟨a, b⟩ := ih (by omega)
        rcases hg _ a b with ⟨x, _⟩ | ⟨x, y, _⟩
        · have := h2 i (by omega); omega
        · exact ⟨x, y⟩
    exact fun i hi => this (i + 1) (by omega)
  · right
    have hall : ∀ i, ∃ j, j < q ∧ it g i c = it g j c := by
      intro i
      by_cases h : i < q
      · exact ⟨i, h, rfl⟩
      · have hp0 : 0 < q - a := by omega
        have hd := Nat.div_add_mod (i - a) (q - a)
        have hml := Nat.mod_lt (i - a) hp0
        refine ⟨a + (i - a) % (q - a), by omega, ?_⟩
        have := circle (g := g) (c := c) haq e ((i - a) / (q - a)) (a + (i - a) % (q - a)) (by omega)
        rw [← this]
        congr 1
        omega
    have hq0 : 0 < q - a := by omega
    have hd := Nat.div_add_mod (n - a) (q - a)
    have hml := Nat.mod_lt (n - a) hq0
    obtain ⟨r, hr0⟩ : ∃ r, (n - a) % (q - a) = r := ⟨_, rfl⟩
    obtain ⟨t, ht0⟩ : ∃ t, (n - a) / (q - a) = t := ⟨_, rfl⟩
    rw [hr0] at hd hml
    rw [ht0] at hd
    have en : ∀ j, it g j (it g n c) = it g (a + r + j) c := fun j => by
      rw [← it_add, ← circle (g := g) (c := c) haq e t (a + r + j) (by omega)]
      congr 1
      omega
    -- where a place of the circle stands
    have place : ∀ s, s < 2 * (q - a) → it g (a + s) c = it g (a + if s < q - a then s else s - (q - a)) c := fun s hs => by
      by_cases h : s < q - a
      · rw [if_pos h]
      · rw [if_neg h, ← circle (g := g) (c := c) haq e 1 (a + (s - (q - a))) (by omega)]
        congr 1
        omega
    refine ⟨fun i => ?_, q - a, by omega, by omega, ?_, ?_, ?_⟩
    · obtain ⟨j, hj, e1⟩ := hall i
      rw [e1]; exact hr j hj
    · rw [en, show (it g n c) = it g 0 (it g n c) from rfl, en, Nat.add_zero, ← circle (g := g) (c := c) haq e 1 (a + r) (by omega), Nat.mul_one]
    · intro j h1 h2 h3
      rw [show (it g n c) = it g 0 (it g n c) from rfl, ← it_add, Nat.add_zero, en, en, Nat.add_zero, Nat.add_assoc, place (r + j) (by omega)] at h3
      by_cases h : r + j < q - a
      · rw [if_pos h] at h3
        exact hi (a + r) (a + (r + j)) (by omega) (by omega) h3.symm
      · rw [if_neg h] at h3
        exact hi (a + (r + j - (q - a))) (a + r) (by omega) (by omega) h3
    · show runsF nx (n + 1) (way g c 0) (it g 0 c) = _
      rw [hm]
      refine minL_eq _ _ ?_ ?_
      · obtain ⟨j, hj, ej⟩ := minIt_mem g (it g n c) (q - a - 1)
        rw [ej, en, Nat.add_assoc, place (r + j) (by omega)]
        rw [List.mem_iff_getElem]
        refine ⟨if r + j < q - a then r + j else r + j - (q - a), ?_, ?_⟩
        · rw [List.length_drop, way_len]; split <;> omega
        · rw [List.getElem_drop, way_get]
      · intro y hy
        rw [List.mem_iff_getElem] at hy
        obtain ⟨s, hs, rfl⟩ := hy
        rw [List.length_drop, way_len] at hs
        rw [List.getElem_drop]
        have ey : (way g c q)[a + s]'(by rw [way_len]; omega) = it g (a + s) c := way_get _
        rw [ey]
        by_cases h : r ≤ s
        · have := minIt_le g (it g n c) (q - a - 1) (s - r) (by omega)
          rw [en, show a + r + (s - r) = a + s from by omega] at this
          exact this
        · have := minIt_le g (it g n c) (q - a - 1) (s + (q - a) - r) (by omega)
          rw [en, show a + r + (s + (q - a) - r) = a + s + (q - a) * 1 from by omega, circle haq e 1 (a + s) (by omega)] at this
          exact this
end
end Go.Proofs.Ytajccnmeijgagaa
