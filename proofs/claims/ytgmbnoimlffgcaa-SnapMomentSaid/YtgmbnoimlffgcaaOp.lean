/-
  The history of each word under a change's stores (FastOnce, plain).
-/
import Derived.Test.YtgmbnoimlffgcaaPeN
namespace Go.Proofs.Ytgmbnoimlffgcaa
open Go.RowKit
set_option linter.unusedVariables false

/-- at which store a change's effect is -/
def effOf (kd : Int) (L : List (Int × Int)) : Option Nat := if kd = 0 then some (L.length - 2) else if kd = 2 ∨ kd = 5 then none else some 1
theorem mayE_full {base : Int} {n : Nd} (h : mayE base n = 0) : Full n n.valid ∧ Fine n n.valid := by
  obtain ⟨_, hm, hi⟩ := mayE_stands h
  exact ⟨rep_full hm hi, may_fine hm⟩
theorem insE_parts {base : Int} {n : Nd} {key ptr : Int} (h : insE base n key ptr = 0) : mayE base n = 0 ∧ freshB n ptr = true ∧ badKey n key = false ∧ n.len ≠ 8 := by
  unfold insE at h
  split at h
  · omega
  rename_i h1
  split at h
  · omega
  rename_i h2
  split at h
  · omega
  rename_i h3
  split at h
  · omega
  rename_i h4
  refine ⟨by omega, ?_, by simpa using h3, h4⟩
  cases hf : freshB n ptr
  · exact absurd (.inr hf) h1
  · rfl
theorem swapE_parts {base : Int} {n : Nd} {key p : Int} (h : swapE base n key p = 0) : mayE base n = 0 ∧ freshB n p = true ∧ 0 ≤ n.find key := by
  unfold swapE at h
  split at h
  · omega
  rename_i h1
  split at h
  · omega
  rename_i h2
  split at h
  · omega
  refine ⟨by omega, ?_, by omega⟩
  cases hf : freshB n p
  · exact absurd (.inr hf) h1
  · rfl
theorem traj_all {base : Int} {n : Nd} {kd key ptr : Int} (hk : kd = 0 ∨ kd = 1 ∨ kd = 2 ∨ kd = 3 ∨ kd = 4 ∨ kd = 5) (hc : madeC base n kd key ptr = 0) :
    Traj base n n.valid (behL kd key ptr n.valid) (madeL base n kd key ptr) (effOf kd (madeL base n kd key ptr)) := by
  rcases hk with rfl | rfl | rfl | rfl | rfl | rfl
  · have hE : insE base n key ptr = 0 := hc
    obtain ⟨hm, hfr, hb, h8⟩ := insE_parts hE
    obtain ⟨hF, hf⟩ := mayE_full hm
    obtain ⟨k1, k2, k3⟩ := badKey_no hb
    have k1 : ¬ 0 ≤ n.find key := of_decide_eq_false k1
    obtain ⟨at_, e, ha, h1, h2⟩ := last_split hF hf key
    have hl := hF.len hf
    have hlt : n.valid.length < 8 := by have := n.len_le; omega
    have hn : ∀ j, j < n.valid.length → eK n.valid j ≠ key := by
      rcases find_split hF hf key with ⟨_, h⟩ | ⟨i, hi, _⟩
      · exact h
      · exact absurd (by omega) k1
    have hL : madeL base n 0 key ptr = insL base n key ptr at_ := by
      show insP base n key ptr = _
      unfold insP
      rw [if_pos hE, e]
    have hB : behL 0 key ptr n.valid = insA n.valid at_ (key, ptr) := by
      unfold insA
      conv => lhs; rw [← List.take_append_drop at_ n.valid]
      refine behL_ins _ _ (fun a ha' => ?_) (fun b hb' => ?_)
      · obtain ⟨j, q1, q2, q3, _⟩ := take_mem ha'
        rw [← q3]; exact h1 j q1
      · obtain ⟨j, q1, q2, q3, _⟩ := drop_mem hb'
        rw [← q3]; exact h2 j q1 q2
    have hT := traj_ins (base := base) hF hf hlt (cOne n) (cTwo n) key ptr ha (fun j hj => by
      have := h1 j hj; have := hn j (by omega); omega) h2 ⟨by omega, fun hl0 => by have := k3 hl0; simpa using this⟩ hfr (if n.valid.length + 1 < 8 then [(base + 64 + 16 * ((n.valid.length + 1 : Nat) : Int) + 8, 0)] else []) rfl
    rw [hB, hL]
    unfold insL effOf
    rw [if_pos rfl, hl]
    have he : ([(base + 24, cOne n)] ++ (if n.valid.length + 1 < 8 then [(base + 64 + 16 * ((n.valid.length + 1 : Nat) : Int) + 8, 0)] else []) ++ shiftL base n n.valid.length (n.valid.length - at_) ++ [(base + 64 + 16 * (at_ : Int) + 8, n.ahead at_), (base + 64 + 16 * (at_ : Int), key), (base + 64 + 16 * (at_ : Int) + 8, ptr)] ++ [(base + 24, cTwo n)]).length - 2 = ([(base + 24, cOne n)] ++ (if n.valid.length + 1 < 8 then [(base + 64 + 16 * ((n.valid.length + 1 : Nat) : Int) + 8, 0)] else []) ++ shiftL base n n.valid.length (n.valid.length - at_)).length + 2 := by
      rw [List.length_append, List.length_append (bs := [_, _, _])]
      simp only [List.length_cons, List.length_nil]
      omega
    rw [he]
    exact hT
  · have hE : delE base n key = 0 := hc
    have hm : mayE base n = 0 := by
      unfold delE at hE
      split at hE
      · omega
      · omega
    obtain ⟨hF, hf⟩ := mayE_full hm
    have hl := hF.len hf
    have hfd : ¬ n.find key < 0 := by
      unfold delE at hE
      rw [if_neg (by omega)] at hE
      split at hE
      · omega
      · assumption
    rcases find_split hF hf key with ⟨h, _⟩ | ⟨i, hi, hil, hik⟩
    · exact absurd h hfd
    have hL : madeL base n 1 key ptr = [(base + 24, cOne n)] ++ [(base + 64 + 16 * (i : Int) + 8, n.ahead i)] ++ gapL base n i (n.len - 1 - i) ++ [(base + 64 + 16 * ((n.len - 1 : Nat) : Int) + 8, 0)] ++ [(base + 24, cTwo n)] := by
      show delP base n key = _
      unfold delP delL
      rw [if_pos hE, hi]
      rfl
    have hT := traj_del (base := base) hF hf (cOne n) (cTwo n) hil (q := n.len - 1) (by omega)
    rw [behL_del hf hil ptr hik, hL]
    exact hT
  · have hE : repE base n = 0 := hc
    have hm : mayE base n = 7 := by
      unfold repE at hE
      rcases mayE_val base n with h | h | h
      · rw [if_neg (by omega), if_pos h] at hE; omega
      · rw [if_pos h] at hE; omega
      · exact h.1
    obtain ⟨_, hmy, hiv⟩ : Stands base ∧ n.mayB 0 false = true ∧ 0 ≤ n.invalid := by
      rcases mayE_val base n with h | h | h
      · omega
      · omega
      · exact h.2
    obtain ⟨p, hp, hG⟩ := rep_gap hmy hiv
    have hf := may_fine hmy
    have hl := hG.len hf
    have hL : madeL base n 2 key ptr = [(base + 24, cOne n)] ++ gapL base n p (n.len - 1 - p) ++ [(base + 64 + 16 * ((n.len - 1 : Nat) : Int) + 8, 0)] ++ [(base + 24, cTwo n)] := by
      show repP base n = _
      unfold repP repL
      rw [if_pos hE, hp]
      rfl
    rw [behL_same (.inl rfl), hL]
    exact traj_rep (base := base) hG hf (cOne n) (cTwo n) (q := n.len - 1) (by omega)
  · have hE : swapE base n key ptr = 0 := hc
    obtain ⟨hm, hfr, hfd⟩ := swapE_parts hE
    obtain ⟨hF, hf⟩ := mayE_full hm
    rcases find_split hF hf key with ⟨h, _⟩ | ⟨i, hi, hil, hik⟩
    · omega
    have hL : madeL base n 3 key ptr = [(base + 24, cOne n), (base + 64 + 16 * (i : Int) + 8, ptr), (base + 24, cTwo n)] := by
      show swapP base n key ptr = _
      unfold swapP
      rw [if_pos hE, hi]
    rw [behL_swap hf hil hik, hL, ← hik]
    exact traj_swap hF hf (cOne n) (cTwo n) hil hfr
  · have hE : cutE base n key = 0 := hc
    have hm : mayE base n = 0 := by
      unfold cutE at hE
      split at hE
      · omega
      · omega
    obtain ⟨hF, hf⟩ := mayE_full hm
    have hl := hF.len hf
    have hfd : ¬ n.cutAt key < 0 := by
      unfold cutE at hE
      rw [if_neg (by omega)] at hE
      split at hE
      · omega
      · assumption
    rcases firstF_spec (fun j => decide (key ≤ n.k j)) n.len 0 with ⟨e, _⟩ | ⟨i, e, _, h2, h3, h4⟩
    · unfold Nd.cutAt at hfd; omega
    have hil : i < n.valid.length := by omega
    have hik : key ≤ eK n.valid i := by rw [← (hF.ent i hil).1]; exact of_decide_eq_true h3
    have hlow : ∀ j, j < i → eK n.valid j < key := fun j hj => by
      have : decide (key ≤ n.k j) = false := h4 j (Nat.zero_le _) hj
      rw [(hF.ent j (by omega)).1] at this
      have := of_decide_eq_false this
      omega
    have hL : madeL base n 4 key ptr = [(base + 24, cOne n), (base + 64 + 16 * (i : Int) + 8, 0), (base + 24, cTwo n)] := by
      show cutP base n key = _
      unfold cutP
      rw [if_pos hE, show n.cutAt key = (i : Int) from e]
    rw [behL_cut hf hil ptr hik hlow, hL]
    exact traj_cut hF hf (cOne n) (cTwo n) hil
  · have hm : mayE base n = 0 := hc
    obtain ⟨hF, hf⟩ := mayE_full hm
    have hL : madeL base n 5 key ptr = [(base + 24, cOne n), (base + 16, ptr), (base + 24, cTwo n)] := by
      show linkP base n ptr = _
      unfold linkP
      rw [if_pos hm]
    rw [behL_same (.inr rfl), hL]
    exact traj_link hF hf (cOne n) (cTwo n) ptr
end Go.Proofs.Ytgmbnoimlffgcaa
namespace Go.Proofs.Ytgmbnoimlffgcaa
open Go.RowKit
set_option linter.unusedVariables false

/-- what is stored at an address, in order -/
def hist (a : Int) (L : List (Int × Int)) : List Int := L.filterMap (fun s => if s.1 = a then some s.2 else none)
theorem hist_app (a : Int) (L M : List (Int × Int)) : hist a (L ++ M) = hist a L ++ hist a M := List.filterMap_append
theorem hist_nil (a : Int) : hist a [] = [] := rfl
theorem hist_cons (a : Int) (s : Int × Int) (L : List (Int × Int)) : hist a (s :: L) = (if s.1 = a then [s.2] else []) ++ hist a L := by
  unfold hist
  by_cases h : s.1 = a
  · rw [List.filterMap_cons_some (b := s.2) (by rw [if_pos h]), if_pos h]; rfl
  · rw [List.filterMap_cons_none (by rw [if_neg h]), if_neg h]; rfl
theorem hist_one (a b x : Int) : hist a [(b, x)] = if b = a then [x] else [] := by rw [hist_cons, hist_nil, List.append_nil]

theorem hist_gap_ptr (base : Int) (n : Nd) (p u : Nat) : ∀ j, hist (base + 64 + 16 * (u : Int) + 8) (gapL base n p j) = if p ≤ u ∧ u < p + j then [n.p (u + 1)] else []
  | 0 => by rw [gapL, hist_nil, if_neg (by omega)]
  | j + 1 => by
    rw [gapL, hist_app, hist_gap_ptr base n p u j, hist_cons, hist_one, if_neg (c := base + 64 + 16 * ((p + j : Nat) : Int) = _) (by omega)]
    by_cases h : p + j = u
    · subst h
      rw [if_neg (by omega), if_pos (by omega), if_pos (by omega)]; rfl
    · rw [if_neg (c := base + 64 + 16 * ((p + j : Nat) : Int) + 8 = _) (by omega)]
      by_cases h2 : p ≤ u ∧ u < p + j
      · rw [if_pos h2, if_pos (by omega)]; rfl
      · rw [if_neg h2, if_neg (by omega)]; rfl
theorem hist_gap_key (base : Int) (n : Nd) (p u : Nat) : ∀ j, hist (base + 64 + 16 * (u : Int)) (gapL base n p j) = if p ≤ u ∧ u < p + j then [n.k (u + 1)] else []
  | 0 => by rw [gapL, hist_nil, if_neg (by omega)]
  | j + 1 => by
    rw [gapL, hist_app, hist_gap_key base n p u j, hist_cons, hist_one]
    by_cases h : p + j = u
    · subst h
      rw [if_neg (by omega), if_pos (by omega), if_neg (by omega), if_pos (by omega)]; rfl
    · rw [if_neg (c := base + 64 + 16 * ((p + j : Nat) : Int) = _) (by omega), if_neg (c := base + 64 + 16 * ((p + j : Nat) : Int) + 8 = _) (by omega)]
      by_cases h2 : p ≤ u ∧ u < p + j
      · rw [if_pos h2, if_pos (by omega)]; rfl
      · rw [if_neg h2, if_neg (by omega)]; rfl
theorem hist_gap_low (base : Int) (n : Nd) (p : Nat) {a : Int} (ha : a < base + 64) : ∀ j, hist a (gapL base n p j) = []
  | 0 => by rw [gapL, hist_nil]
  | j + 1 => by rw [gapL, hist_app, hist_gap_low base n p ha j, hist_cons, hist_one, if_neg (by omega), if_neg (by omega)]; rfl
theorem hist_shift_ptr (base : Int) (n : Nd) (m u : Nat) : ∀ j, j ≤ m → hist (base + 64 + 16 * (u : Int) + 8) (shiftL base n m j) = if m - j < u ∧ u ≤ m then [n.p (u - 1)] else []
  | 0, _ => by rw [shiftL, hist_nil, if_neg (by omega)]
  | j + 1, hj => by
    rw [shiftL, hist_app, hist_shift_ptr base n m u j (by omega), hist_cons, hist_one]
    by_cases h : m - j = u
    · subst h
      rw [if_neg (by omega), if_pos (by omega), if_neg (by omega), if_pos (by omega)]; rfl
    · rw [if_neg (c := base + 64 + 16 * ((m - j : Nat) : Int) + 8 = _) (by omega), if_neg (c := base + 64 + 16 * ((m - j : Nat) : Int) = _) (by omega)]
      by_cases h2 : m - j < u ∧ u ≤ m
      · rw [if_pos h2, if_pos (by omega)]; rfl
      · rw [if_neg h2, if_neg (by omega)]; rfl
theorem hist_shift_key (base : Int) (n : Nd) (m u : Nat) : ∀ j, j ≤ m → hist (base + 64 + 16 * (u : Int)) (shiftL base n m j) = if m - j < u ∧ u ≤ m then [n.k (u - 1)] else []
  | 0, _ => by rw [shiftL, hist_nil, if_neg (by omega)]
  | j + 1, hj => by
    rw [shiftL, hist_app, hist_shift_key base n m u j (by omega), hist_cons, hist_one]
    by_cases h : m - j = u
    · subst h
      rw [if_neg (by omega), if_neg (by omega), if_pos (by omega), if_pos (by omega)]; rfl
    · rw [if_neg (c := base + 64 + 16 * ((m - j : Nat) : Int) + 8 = _) (by omega), if_neg (c := base + 64 + 16 * ((m - j : Nat) : Int) = _) (by omega)]
      by_cases h2 : m - j < u ∧ u ≤ m
      · rw [if_pos h2, if_pos (by omega)]; rfl
      · rw [if_neg h2, if_neg (by omega)]; rfl
theorem hist_shift_low (base : Int) (n : Nd) (m : Nat) {a : Int} (ha : a < base + 64) : ∀ j, hist a (shiftL base n m j) = []
  | 0 => by rw [shiftL, hist_nil]
  | j + 1 => by rw [shiftL, hist_app, hist_shift_low base n m ha j, hist_cons, hist_one, if_neg (by omega), if_neg (by omega)]; rfl

/-- a word's history that never comes back -/
def Okh (v : Int) (h : List Int) : Prop := h = [] ∨ (∃ x, h = [x]) ∨ ∃ x y, h = [x, y] ∧ (y ≠ v ∨ y = x)
theorem okh_nil (v : Int) : Okh v [] := .inl rfl
theorem okh_one (v x : Int) : Okh v [x] := .inr (.inl ⟨x, rfl⟩)
theorem okh_two {v x y : Int} (h : y ≠ v ∨ y = x) : Okh v [x, y] := .inr (.inr ⟨x, y, rfl, h⟩)
/-- what lies between the two stores of the count: each word's history there -/
structure MidOk (base : Int) (n : Nd) (mid : List (Int × Int)) : Prop where
  ct : hist (base + 24) mid = []
  low : ∀ a, a < base + 64 → ∀ v, Okh v (hist a mid)
  key : ∀ u : Nat, u < 8 → ∀ v, Okh v (hist (base + 64 + 16 * (u : Int)) mid)
  ptr : ∀ u : Nat, u < 8 → Okh (n.p u) (hist (base + 64 + 16 * (u : Int) + 8) mid)

theorem mid_one_ptr (base : Int) (n : Nd) (i : Nat) (x : Int) : MidOk base n [(base + 64 + 16 * (i : Int) + 8, x)] where
  ct := by rw [hist_one, if_neg (by omega)]
  low a ha v := by rw [hist_one, if_neg (by omega)]; exact okh_nil v
  key u hu v := by rw [hist_one, if_neg (by omega)]; exact okh_nil v
  ptr u hu := by
    rw [hist_one]
    split
    · exact okh_one _ _
    · exact okh_nil _
theorem mid_next (base : Int) (n : Nd) (x : Int) : MidOk base n [(base + 16, x)] where
  ct := by rw [hist_one, if_neg (by omega)]
  low a ha v := by
    rw [hist_one]
    split
    · exact okh_one _ _
    · exact okh_nil _
  key u hu v := by rw [hist_one, if_neg (by omega)]; exact okh_nil v
  ptr u hu := by rw [hist_one, if_neg (by omega)]; exact okh_nil _
theorem mid_rep (base : Int) (n : Nd) (p q : Nat) : MidOk base n (gapL base n p (q - p) ++ [(base + 64 + 16 * (q : Int) + 8, 0)]) where
  ct := by rw [hist_app, hist_gap_low base n p (by omega), hist_one, if_neg (by omega)]; rfl
  low a ha v := by rw [hist_app, hist_gap_low base n p ha, hist_one, if_neg (by omega)]; exact okh_nil v
  key u hu v := by
    rw [hist_app, hist_gap_key, hist_one, if_neg (c := base + 64 + 16 * (q : Int) + 8 = _) (by omega), List.append_nil]
    split
    · exact okh_one _ _
    · exact okh_nil _
  ptr u hu := by
    rw [hist_app, hist_gap_ptr, hist_one]
    by_cases h : q = u
    · subst h
      rw [if_neg (by omega), if_pos (by omega)]; exact okh_one _ _
    · rw [if_neg (c := base + 64 + 16 * (q : Int) + 8 = _) (by omega), List.append_nil]
      split
      · exact okh_one _ _
      · exact okh_nil _
theorem mid_del {A : List (Int × Int)} {base : Int} {n : Nd} {i q : Nat} (h : Full n A) (hf : Fine n A) (hi : i < A.length) (hq : A.length = q + 1) :
    MidOk base n ([(base + 64 + 16 * (i : Int) + 8, n.ahead i)] ++ gapL base n i (q - i) ++ [(base + 64 + 16 * (q : Int) + 8, 0)]) where
  ct := by rw [hist_app, hist_app, hist_one, if_neg (by omega), hist_gap_low base n i (by omega), hist_one, if_neg (by omega)]; rfl
  low a ha v := by rw [hist_app, hist_app, hist_one, if_neg (by omega), hist_gap_low base n i ha, hist_one, if_neg (by omega)]; exact okh_nil v
  key u hu v := by
    rw [hist_app, hist_app, hist_one, if_neg (by omega), hist_gap_key, hist_one, if_neg (c := base + 64 + 16 * (q : Int) + 8 = _) (by omega), List.append_nil, List.nil_append]
    split
    · exact okh_one _ _
    · exact okh_nil _
  ptr u hu := by
    rw [hist_app, hist_app, hist_one, hist_gap_ptr, hist_one]
    by_cases hu1 : i = u
    · subst hu1
      rw [if_pos (by omega)]
      by_cases h2 : q = i
      · subst h2
        rw [if_neg (by omega), if_pos (by omega)]
        refine okh_two (.inl ?_)
        rw [(h.ent q hi).2]
        exact fun e => hf.n0 hi e.symm
      · rw [if_pos (by omega), if_neg (by omega)]
        refine okh_two (.inl ?_)
        rw [(h.ent i hi).2, (h.ent (i + 1) (by omega)).2]
        exact hf.ne (by omega) (by omega)
    · rw [if_neg (c := base + 64 + 16 * (i : Int) + 8 = _) (by omega), List.nil_append]
      by_cases h2 : q = u
      · subst h2
        rw [if_neg (by omega), if_pos (by omega)]; exact okh_one _ _
      · rw [if_neg (c := base + 64 + 16 * (q : Int) + 8 = _) (by omega), List.append_nil]
        split
        · exact okh_one _ _
        · exact okh_nil _
theorem mid_ins {A : List (Int × Int)} {base : Int} {n : Nd} {at_ : Nat} {key ptr : Int} (h : Full n A) (hf : Fine n A) (h8 : A.length < 8) (ha : at_ ≤ A.length) (hp : freshB n ptr = true) :
    MidOk base n ((if A.length + 1 < 8 then [(base + 64 + 16 * ((A.length + 1 : Nat) : Int) + 8, 0)] else []) ++ shiftL base n A.length (A.length - at_) ++
      [(base + 64 + 16 * (at_ : Int) + 8, n.ahead at_), (base + 64 + 16 * (at_ : Int), key), (base + 64 + 16 * (at_ : Int) + 8, ptr)]) := by
  generalize hX : (if A.length + 1 < 8 then [(base + 64 + 16 * ((A.length + 1 : Nat) : Int) + 8, (0 : Int))] else []) = X
  have x0 : ∀ a, a ≠ base + 64 + 16 * ((A.length + 1 : Nat) : Int) + 8 → hist a X = [] := fun a hne => by
    rw [← hX]
    split
    · rw [hist_one, if_neg (fun e => hne e.symm)]
    · rfl
  have x1 : ∀ a v, Okh v (hist a X) := fun a v => by
    rw [← hX]
    split
    · rw [hist_one]
      split
      · exact okh_one _ _
      · exact okh_nil _
    · exact okh_nil _
  constructor
  · rw [hist_app, hist_app, x0 _ (by omega), hist_shift_low base n _ (by omega), hist_cons, hist_cons, hist_one, if_neg (by omega), if_neg (by omega), if_neg (by omega)]; rfl
  · intro a hal v
    rw [hist_app, hist_app, x0 _ (by omega), hist_shift_low base n _ hal, hist_cons, hist_cons, hist_one, if_neg (by omega), if_neg (by omega), if_neg (by omega)]; exact okh_nil v
  · intro u hu v
    rw [hist_app, hist_app, x0 _ (by omega), hist_shift_key base n _ u _ (by omega), hist_cons, hist_cons, hist_one, if_neg (c := base + 64 + 16 * (at_ : Int) + 8 = _) (by omega), if_neg (c := base + 64 + 16 * (at_ : Int) + 8 = _) (by omega)]
    by_cases hu1 : at_ = u
    · subst hu1
      rw [if_neg (by omega), if_pos (by omega)]; exact okh_one _ _
    · rw [if_neg (c := base + 64 + 16 * (at_ : Int) = _) (by omega)]
      by_cases h2 : A.length - (A.length - at_) < u ∧ u ≤ A.length
      · rw [if_pos h2]; exact okh_one _ _
      · rw [if_neg h2]; exact okh_nil _
  · intro u hu
    rw [hist_app, hist_app, hist_shift_ptr base n _ u _ (by omega), hist_cons, hist_cons, hist_one, if_neg (c := base + 64 + 16 * (at_ : Int) = _) (by omega)]
    by_cases hu1 : at_ = u
    · subst hu1
      rw [x0 _ (by omega), if_neg (by omega), if_pos (by omega), if_pos (by omega)]
      refine okh_two (.inl ?_)
      obtain ⟨f1, f2, f3⟩ := fresh_split h hf hp
      by_cases hlt : at_ < A.length
      · rw [(h.ent at_ hlt).2]
        exact fun e => f3 _ (ent_mem hlt) e.symm
      · have e : at_ = A.length := by omega
        rw [e, h.fin h8]; exact f1
    · rw [if_neg (c := base + 64 + 16 * (at_ : Int) + 8 = _) (by omega), if_neg (c := base + 64 + 16 * (at_ : Int) + 8 = _) (by omega)]
      by_cases h2 : A.length - (A.length - at_) < u ∧ u ≤ A.length
      · rw [if_pos h2, x0 _ (by omega)]; exact okh_one _ _
      · rw [if_neg h2, List.append_nil, List.append_nil, List.append_nil, List.append_nil]
        exact x1 _ _
/-- every change that is made: the count, what lies between, the count -/
theorem once_all {base : Int} {n : Nd} {kd key ptr : Int} (hk : kd = 0 ∨ kd = 1 ∨ kd = 2 ∨ kd = 3 ∨ kd = 4 ∨ kd = 5) (hc : madeC base n kd key ptr = 0) :
    ∃ mid, madeL base n kd key ptr = (base + 24, cOne n) :: (mid ++ [(base + 24, cTwo n)]) ∧ MidOk base n mid := by
  rcases hk with rfl | rfl | rfl | rfl | rfl | rfl
  · have hE : insE base n key ptr = 0 := hc
    obtain ⟨hm, hfr, hb, h8⟩ := insE_parts hE
    obtain ⟨hF, hf⟩ := mayE_full hm
    obtain ⟨k1, k2, k3⟩ := badKey_no hb
    have k1 : ¬ 0 ≤ n.find key := of_decide_eq_false k1
    obtain ⟨at_, e, ha, h1, h2⟩ := last_split hF hf key
    have hl := hF.len hf
    have hlt : n.valid.length < 8 := by have := n.len_le; omega
    have hn : ∀ j, j < n.valid.length → eK n.valid j ≠ key := by
      rcases find_split hF hf key with ⟨_, h⟩ | ⟨i, hi, _⟩
      · exact h
      · exact absurd (by omega) k1
    have hL : madeL base n 0 key ptr = insL base n key ptr at_ := by
      show insP base n key ptr = _
      unfold insP
      rw [if_pos hE, e]
    refine ⟨_, ?_, mid_ins (key := key) (ptr := ptr) hF hf hlt ha hfr⟩
    rw [hL]
    unfold insL
    rw [hl]
    simp only [List.append_assoc, List.cons_append, List.nil_append]
  · have hE : delE base n key = 0 := hc
    have hm : mayE base n = 0 := by
      unfold delE at hE
      split at hE
      · omega
      · omega
    obtain ⟨hF, hf⟩ := mayE_full hm
    have hl := hF.len hf
    have hfd : ¬ n.find key < 0 := by
      unfold delE at hE
      rw [if_neg (by omega)] at hE
      split at hE
      · omega
      · assumption
    rcases find_split hF hf key with ⟨h, _⟩ | ⟨i, hi, hil, hik⟩
    · exact absurd h hfd
    have hL : madeL base n 1 key ptr = [(base + 24, cOne n)] ++ [(base + 64 + 16 * (i : Int) + 8, n.ahead i)] ++ gapL base n i (n.len - 1 - i) ++ [(base + 64 + 16 * ((n.len - 1 : Nat) : Int) + 8, 0)] ++ [(base + 24, cTwo n)] := by
      show delP base n key = _
      unfold delP delL
      rw [if_pos hE, hi]
      rfl
    refine ⟨_, ?_, mid_del (base := base) hF hf hil (q := n.len - 1) (by omega)⟩
    rw [hL]
    simp only [List.append_assoc, List.cons_append, List.nil_append]
  · have hE : repE base n = 0 := hc
    have hm : mayE base n = 7 := by
      unfold repE at hE
      rcases mayE_val base n with h | h | h
      · rw [if_neg (by omega), if_pos h] at hE; omega
      · rw [if_pos h] at hE; omega
      · exact h.1
    obtain ⟨_, hmy, hiv⟩ : Stands base ∧ n.mayB 0 false = true ∧ 0 ≤ n.invalid := by
      rcases mayE_val base n with h | h | h
      · omega
      · omega
      · exact h.2
    obtain ⟨p, hp, hG⟩ := rep_gap hmy hiv
    have hf := may_fine hmy
    have hl := hG.len hf
    have hL : madeL base n 2 key ptr = [(base + 24, cOne n)] ++ gapL base n p (n.len - 1 - p) ++ [(base + 64 + 16 * ((n.len - 1 : Nat) : Int) + 8, 0)] ++ [(base + 24, cTwo n)] := by
      show repP base n = _
      unfold repP repL
      rw [if_pos hE, hp]
      rfl
    refine ⟨_, ?_, mid_rep base n p (n.len - 1)⟩
    rw [hL]
    simp only [List.append_assoc, List.cons_append, List.nil_append]
  · have hE : swapE base n key ptr = 0 := hc
    obtain ⟨hm, hfr, hfd⟩ := swapE_parts hE
    obtain ⟨hF, hf⟩ := mayE_full hm
    rcases find_split hF hf key with ⟨h, _⟩ | ⟨i, hi, hil, hik⟩
    · omega
    have hL : madeL base n 3 key ptr = [(base + 24, cOne n), (base + 64 + 16 * (i : Int) + 8, ptr), (base + 24, cTwo n)] := by
      show swapP base n key ptr = _
      unfold swapP
      rw [if_pos hE, hi]
    exact ⟨_, hL, mid_one_ptr base n i ptr⟩
  · have hE : cutE base n key = 0 := hc
    have hm : mayE base n = 0 := by
      unfold cutE at hE
      split at hE
      · omega
      · omega
    obtain ⟨hF, hf⟩ := mayE_full hm
    have hl := hF.len hf
    have hfd : ¬ n.cutAt key < 0 := by
      unfold cutE at hE
      rw [if_neg (by omega)] at hE
      split at hE
      · omega
      · assumption
    rcases firstF_spec (fun j => decide (key ≤ n.k j)) n.len 0 with ⟨e, _⟩ | ⟨i, e, _, h2, h3, h4⟩
    · unfold Nd.cutAt at hfd; omega
    have hil : i < n.valid.length := by omega
    have hik : key ≤ eK n.valid i := by rw [← (hF.ent i hil).1]; exact of_decide_eq_true h3
    have hlow : ∀ j, j < i → eK n.valid j < key := fun j hj => by
      have : decide (key ≤ n.k j) = false := h4 j (Nat.zero_le _) hj
      rw [(hF.ent j (by omega)).1] at this
      have := of_decide_eq_false this
      omega
    have hL : madeL base n 4 key ptr = [(base + 24, cOne n), (base + 64 + 16 * (i : Int) + 8, 0), (base + 24, cTwo n)] := by
      show cutP base n key = _
      unfold cutP
      rw [if_pos hE, show n.cutAt key = (i : Int) from e]
    exact ⟨_, hL, mid_one_ptr base n i 0⟩
  · have hm : mayE base n = 0 := hc
    obtain ⟨hF, hf⟩ := mayE_full hm
    have hL : madeL base n 5 key ptr = [(base + 24, cOne n), (base + 16, ptr), (base + 24, cTwo n)] := by
      show linkP base n ptr = _
      unfold linkP
      rw [if_pos hm]
    exact ⟨_, hL, mid_next base n ptr⟩
end Go.Proofs.Ytgmbnoimlffgcaa
