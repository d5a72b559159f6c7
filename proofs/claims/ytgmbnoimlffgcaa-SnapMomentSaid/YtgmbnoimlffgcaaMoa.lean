/-
  THE COURSE OF A WRITER: all its changes' stores, one behind another; each node on the way; no word comes back while the count is the same. (Plain.)
-/
import Derived.Test.YtgmbnoimlffgcaaOp
import Derived.Test.YtgmbnoimlffgcaaAf
import Derived.Test.YtgmbnoimlffgcaaWn
namespace Go.Proofs.Ytgmbnoimlffgcaa
open Go.RowKit
set_option linter.unusedVariables false

theorem words_full {m : Nd} (h : 0 ≤ m.lv ∧ m.lv ≤ 15) {k : Nat} (hk : k < 24) : wordsF m k = fullW m k := by
  unfold wordsF
  rw [if_neg (by omega)]
  unfold wTo
  rw [if_pos (by omega)]
theorem fullW_key (m : Nd) (u : Nat) : fullW m (8 + 2 * u) = m.k u := by
  unfold fullW
  rw [if_neg (by omega), if_neg (by omega), if_neg (by omega), if_neg (by omega), if_neg (by omega), if_neg (by omega), if_pos (by omega)]
  congr 1; omega
theorem fullW_ptr (m : Nd) (u : Nat) : fullW m (9 + 2 * u) = m.p u := by
  unfold fullW
  rw [if_neg (by omega), if_neg (by omega), if_neg (by omega), if_neg (by omega), if_neg (by omega), if_neg (by omega), if_neg (by omega)]
  congr 1; omega
theorem word_cases {k : Nat} (hk : k < 24) : k < 8 ∨ (∃ u, u < 8 ∧ k = 8 + 2 * u) ∨ ∃ u, u < 8 ∧ k = 9 + 2 * u := by
  rcases Nat.lt_or_ge k 8 with h | h
  · exact .inl h
  · rcases Nat.mod_two_eq_zero_or_one k with h2 | h2
    · exact .inr (.inl ⟨(k - 8) / 2, by omega, by omega⟩)
    · exact .inr (.inr ⟨(k - 9) / 2, by omega, by omega⟩)
theorem low_cases {k : Nat} (hk : k < 8) : k = 0 ∨ k = 1 ∨ k = 2 ∨ k = 3 ∨ k = 4 ∨ k = 5 ∨ k = 6 ∨ k = 7 := by omega
theorem putA_lv {base : Int} {m q : Nd} {at_ x : Int} (h : putA base m at_ x = some q) : q.lv = m.lv := by
  unfold putA at h
  repeat' split at h
  all_goals first | (cases h; rfl) | cases h
/-- a store sets one word -/
theorem putA_word {base : Int} {m q : Nd} {at_ x : Int} (h : putA base m at_ x = some q) {k : Nat} (hk : k < 24) :
    fullW q k = if at_ = base + 8 * (k : Int) then x else fullW m k := by
  unfold putA at h
  split at h
  · cases h
  rename_i h0
  split at h
  · cases h
    rcases word_cases hk with h8 | ⟨u, hu, rfl⟩ | ⟨u, hu, rfl⟩
    · rcases low_cases h8 with rfl | rfl | rfl | rfl | rfl | rfl | rfl | rfl <;> first | (rw [if_neg (by omega)]; rfl) | (rw [if_pos (by omega)]; rfl)
    · rw [if_neg (by omega), fullW_key, fullW_key]
    · rw [if_neg (by omega), fullW_ptr, fullW_ptr]
  split at h
  · cases h
    rcases word_cases hk with h8 | ⟨u, hu, rfl⟩ | ⟨u, hu, rfl⟩
    · rcases low_cases h8 with rfl | rfl | rfl | rfl | rfl | rfl | rfl | rfl <;> first | (rw [if_neg (by omega)]; rfl) | (rw [if_pos (by omega)]; rfl)
    · rw [if_neg (by omega), fullW_key, fullW_key]
    · rw [if_neg (by omega), fullW_ptr, fullW_ptr]
  split at h
  · cases h
    rcases word_cases hk with h8 | ⟨u, hu, rfl⟩ | ⟨u, hu, rfl⟩
    · rcases low_cases h8 with rfl | rfl | rfl | rfl | rfl | rfl | rfl | rfl <;> first | (rw [if_neg (by omega)]; rfl) | (rw [if_pos (by omega)]; rfl)
    · rw [if_neg (by omega), fullW_key, fullW_key]
    · rw [if_neg (by omega), fullW_ptr, fullW_ptr]
  split at h
  · cases h
    rcases word_cases hk with h8 | ⟨u, hu, rfl⟩ | ⟨u, hu, rfl⟩
    · rcases low_cases h8 with rfl | rfl | rfl | rfl | rfl | rfl | rfl | rfl <;> first | (rw [if_neg (by omega)]; rfl) | (rw [if_pos (by omega)]; rfl)
    · rw [if_neg (by omega), fullW_key, fullW_key]
    · rw [if_neg (by omega), fullW_ptr, fullW_ptr]
  split at h
  · cases h
  rename_i h64
  split at h
  · rename_i hm
    cases h
    rcases word_cases hk with h8 | ⟨u, hu, rfl⟩ | ⟨u, hu, rfl⟩
    · rw [if_neg (by omega)]
      rcases low_cases h8 with rfl | rfl | rfl | rfl | rfl | rfl | rfl | rfl <;> rfl
    · rw [fullW_key, fullW_key]
      by_cases e : u = ((at_ - base - 64) / 16).toNat
      · rw [if_pos (by omega), e]; exact withK_eq _ _ _
      · rw [if_neg (by omega)]; exact withK_ne _ _ e
    · rw [if_neg (by omega), fullW_ptr, fullW_ptr]; rfl
  · rename_i hm
    cases h
    rcases word_cases hk with h8 | ⟨u, hu, rfl⟩ | ⟨u, hu, rfl⟩
    · rw [if_neg (by omega)]
      rcases low_cases h8 with rfl | rfl | rfl | rfl | rfl | rfl | rfl | rfl <;> rfl
    · rw [if_neg (by omega), fullW_key, fullW_key]; rfl
    · rw [fullW_ptr, fullW_ptr]
      by_cases e : u = ((at_ - base - 64) / 16).toNat
      · rw [if_pos (by omega), e]; exact withP_eq _ _ _
      · rw [if_neg (by omega)]; exact withP_ne _ _ e
/-- what a word is behind stores of that history -/
def valAt (v : Int) (h : List Int) : Int := h.getLast?.getD v
theorem applyL_word {base : Int} : ∀ {L : List (Int × Int)} {m q : Nd}, applyL base m L = some q → ∀ {k : Nat}, k < 24 → fullW q k = valAt (fullW m k) (hist (base + 8 * (k : Int)) L) ∧ q.lv = m.lv
  | [], m, q, h, k, hk => by cases h; exact ⟨rfl, rfl⟩
  | s :: L, m, q, h, k, hk => by
    unfold applyL at h
    cases hp : putA base m s.1 s.2 with
    | none => rw [hp] at h; cases h
    | some r =>
      rw [hp] at h
      obtain ⟨h1, h2⟩ := applyL_word (L := L) h hk
      refine ⟨?_, h2.trans (putA_lv hp)⟩
      rw [h1, putA_word hp hk, hist_cons]
      unfold valAt
      by_cases e : s.1 = base + 8 * (k : Int)
      · rw [if_pos e, if_pos e]
        cases hist (base + 8 * (k : Int)) L with
        | nil => rfl
        | cons a r => simp [List.getLast?_cons]
      · rw [if_neg e, if_neg e]; rfl
theorem no_back {H p r : List Int} {v x : Int} (h : Okh v H) (e : H = p ++ x :: r) (hne : x ≠ valAt v p) : ∀ p' r', p = p' ++ r' → valAt v p' ≠ x := by
  intro p' r' e'
  rcases h with rfl | ⟨y, rfl⟩ | ⟨y, z, rfl, hz⟩
  · cases p <;> cases e
  · cases p with
    | nil =>
      cases p' with
      | nil => exact fun q => hne q.symm
      | cons a b => cases e'
    | cons a b => cases b <;> cases e
  · cases p with
    | nil =>
      cases p' with
      | nil => exact fun q => hne q.symm
      | cons a b => cases e'
    | cons a b =>
      cases b with
      | cons c d => cases d <;> cases e
      | nil =>
        cases e
        cases p' with
        | nil => exact fun q => hz.elim (fun h1 => h1 q.symm) (fun h1 => hne h1)
        | cons c d =>
          cases d with
          | cons f g => cases e'
          | nil => cases e'; exact fun q => hne q.symm

/-- the node behind so many stores -/
def ndAt (base : Int) (n : Nd) (L : List (Int × Int)) (t : Nat) : Nd := (applyL base n (L.take t)).getD nd0
theorem ndAt_zero (base : Int) (n : Nd) (L : List (Int × Int)) : ndAt base n L 0 = n := rfl
theorem ndAt_some {base : Int} {n m3 : Nd} {L : List (Int × Int)} (h : applyL base n L = some m3) (t : Nat) : applyL base n (L.take t) = some (ndAt base n L t) := by
  unfold ndAt
  cases he : applyL base n (L.take t) with
  | some m => rfl
  | none => rw [applyL_bad base L n t he] at h; cases h
theorem ndAt_next {base : Int} {n m3 : Nd} {L : List (Int × Int)} (h : applyL base n L = some m3) (t : Nat) (ht : t < L.length) : putA base (ndAt base n L t) (eK L t) (eP L t) = some (ndAt base n L (t + 1)) := by
  rw [← applyL_next base L n _ t ht (ndAt_some h t)]
  exact ndAt_some h (t + 1)
theorem ndAt_word {base : Int} {n m3 : Nd} {L : List (Int × Int)} (h : applyL base n L = some m3) (hl : 0 ≤ n.lv ∧ n.lv ≤ 15) (t : Nat) {k : Nat} (hk : k < 24) :
    wordsF (ndAt base n L t) k = valAt (fullW n k) (hist (base + 8 * (k : Int)) (L.take t)) := by
  obtain ⟨h1, h2⟩ := applyL_word (ndAt_some h t) hk
  rw [words_full (by rw [h2]; exact hl) hk, h1]
/-- a word that a store changes was never what it is then -/
theorem never_back {base : Int} {n m3 : Nd} {L : List (Int × Int)} (h : applyL base n L = some m3) (hl : 0 ≤ n.lv ∧ n.lv ≤ 15) {k : Nat} (hk : k < 24) (ho : Okh (fullW n k) (hist (base + 8 * (k : Int)) L))
    {t : Nat} (ht : t < L.length) (hne : wordsF (ndAt base n L (t + 1)) k ≠ wordsF (ndAt base n L t) k) : ∀ j, j ≤ t → wordsF (ndAt base n L j) k ≠ wordsF (ndAt base n L (t + 1)) k := by
  intro j hj
  rw [ndAt_word h hl _ hk, ndAt_word h hl _ hk] at hne ⊢
  have e1 : hist (base + 8 * (k : Int)) (L.take (t + 1)) = hist (base + 8 * (k : Int)) (L.take t) ++ (if eK L t = base + 8 * (k : Int) then [eP L t] else []) := by
    rw [take_ent L t ht, hist_app, hist_one]
  by_cases he : eK L t = base + 8 * (k : Int)
  · rw [if_pos he] at e1
    have e2 : hist (base + 8 * (k : Int)) L = hist (base + 8 * (k : Int)) (L.take t) ++ eP L t :: hist (base + 8 * (k : Int)) (L.drop (t + 1)) := by
      conv => lhs; rw [← List.take_append_drop (t + 1) L, hist_app, e1]
      simp
    have e3 : valAt (fullW n k) (hist (base + 8 * (k : Int)) (L.take (t + 1))) = eP L t := by rw [e1]; unfold valAt; simp
    rw [e3] at hne ⊢
    have e4 : hist (base + 8 * (k : Int)) (L.take t) = hist (base + 8 * (k : Int)) (L.take j) ++ hist (base + 8 * (k : Int)) ((L.take t).drop j) := by
      conv => lhs; rw [← List.take_append_drop j (L.take t), hist_app, List.take_take, Nat.min_eq_left hj]
    exact no_back ho e2 hne _ _ e4
  · rw [if_neg he, List.append_nil] at e1
    exact absurd (by rw [e1]) hne

theorem mid_okh {base : Int} {n : Nd} (hw : n.Wf) {mid : List (Int × Int)} (h : MidOk base n mid) {k : Nat} (hk : k < 24) : Okh (fullW n k) (hist (base + 8 * (k : Int)) ((base + 24, cOne n) :: (mid ++ [(base + 24, cTwo n)]))) := by
  rw [hist_cons, hist_app, hist_one]
  by_cases h3 : k = 3
  · subst h3
    rw [if_pos (by omega), if_pos (by omega), show base + 8 * ((3 : Nat) : Int) = base + 24 from by omega, h.ct]
    refine okh_two (.inl ?_)
    have := u64_bounds hw.ct
    show cTwo n ≠ n.ct
    unfold cTwo
    rw [IntKind.wrap_u64]
    omega
  · rw [if_neg (by omega), if_neg (by omega), List.append_nil, List.nil_append]
    rcases word_cases hk with h8 | ⟨u, hu, rfl⟩ | ⟨u, hu, rfl⟩
    · exact h.low _ (by omega) _
    · rw [show base + 8 * ((8 + 2 * u : Nat) : Int) = base + 64 + 16 * (u : Int) from by omega]; exact h.key u hu _
    · rw [show base + 8 * ((9 + 2 * u : Nat) : Int) = base + 64 + 16 * (u : Int) + 8 from by omega, fullW_ptr]; exact h.ptr u hu

/-- all that FastOnce asks of a change that is made -/
theorem once_plain {base : Int} {n : Nd} (hw : n.Wf) {kd key ptr : Int} (hk : kd = 0 ∨ kd = 1 ∨ kd = 2 ∨ kd = 3 ∨ kd = 4 ∨ kd = 5) (hc : madeC base n kd key ptr = 0) {m3 : Nd} (h : applyL base n (madeL base n kd key ptr) = some m3) (hl : 0 ≤ n.lv ∧ n.lv ≤ 15) :
    (∀ t, t < (madeL base n kd key ptr).length → (ndAt base n (madeL base n kd key ptr) (t + 1)).ct = if t + 1 < (madeL base n kd key ptr).length then cOne n else cTwo n) ∧
    ∀ t k, t < (madeL base n kd key ptr).length → k < 24 → wordsF (ndAt base n (madeL base n kd key ptr) (t + 1)) k ≠ wordsF (ndAt base n (madeL base n kd key ptr) t) k →
      ∀ j, j ≤ t → wordsF (ndAt base n (madeL base n kd key ptr) j) k ≠ wordsF (ndAt base n (madeL base n kd key ptr) (t + 1)) k := by
  obtain ⟨mid, e, hm⟩ := once_all hk hc
  refine ⟨fun t ht => ?_, fun t k ht hk2 hne => never_back h hl hk2 (by rw [e]; exact mid_okh hw hm hk2) ht hne⟩
  have h1 := (applyL_word (ndAt_some h (t + 1)) (k := 3) (by omega)).1
  have h2 : fullW (ndAt base n (madeL base n kd key ptr) (t + 1)) 3 = (ndAt base n (madeL base n kd key ptr) (t + 1)).ct := rfl
  rw [← h2, h1, show base + 8 * ((3 : Nat) : Int) = base + 24 from by omega]
  rw [e] at ht ⊢
  have hlen : ((base + 24, cOne n) :: (mid ++ [(base + 24, cTwo n)])).length = mid.length + 2 := by simp
  rw [hlen] at ht ⊢
  by_cases hlt : t + 1 < mid.length + 2
  · rw [if_pos hlt]
    have ht3 : List.take (t + 1) ((base + 24, cOne n) :: (mid ++ [(base + 24, cTwo n)])) = (base + 24, cOne n) :: mid.take t := by
      rw [List.take_succ_cons, List.take_append_of_le_length (by omega)]
    have h0 : hist (base + 24) (mid.take t) = [] := by
      have := hm.ct
      rw [← List.take_append_drop t mid, hist_app] at this
      exact (List.append_eq_nil_iff.1 this).1
    rw [ht3, hist_cons, if_pos rfl, h0]
    rfl
  · rw [if_neg hlt, List.take_of_length_le (by rw [hlen]; omega), hist_cons, hist_app, hist_one, if_pos rfl, if_pos rfl, hm.ct]
    rfl
end Go.Proofs.Ytgmbnoimlffgcaa
namespace Go.Proofs.Ytgmbnoimlffgcaa
open Go.RowKit
set_option linter.unusedVariables false

/-! ### what a change's stores are -/
def U64 (x : Int) : Prop := 0 ≤ x ∧ x ≤ 18446744073709551615
theorem U64.wrap (x : Int) : U64 (IntKind.u64.wrap x) := by unfold U64; rw [IntKind.wrap_u64]; omega
theorem U64.zero : U64 0 := by unfold U64; omega
theorem Nd.Wf.uk {n : Nd} (h : n.Wf) {i : Nat} (hi : i < 8) : U64 (n.k i) := u64_bounds (h.k i hi)
theorem Nd.Wf.up {n : Nd} (h : n.Wf) {i : Nat} (hi : i < 8) : U64 (n.p i) := u64_bounds (h.p i hi)
theorem Nd.Wf.ua {n : Nd} (h : n.Wf) {i : Nat} (hi : i ≤ 8) : U64 (n.ahead i) := by
  cases i with
  | zero => exact u64_bounds h.fi
  | succ j => exact h.up (by omega)
/-- a store of a change: a word; what it links to -/
def CsQ (base : Int) (kd ptr : Int) (s : Int × Int) : Prop := U64 s.2 ∧ (s.1 = base + 16 → kd = 5 ∧ s.2 = ptr)
theorem CsQ.far {base kd ptr a x : Int} (h : U64 x) (ha : a ≠ base + 16) : CsQ base kd ptr (a, x) := ⟨h, fun e => absurd e ha⟩
theorem gap_q {base kd ptr : Int} {n : Nd} (hw : n.Wf) {p : Nat} : ∀ j, p + j < 8 → ∀ s ∈ gapL base n p j, CsQ base kd ptr s
  | 0, _, s, hs => by cases hs
  | j + 1, h, s, hs => by
    rw [gapL] at hs
    rcases List.mem_append.1 hs with hs | hs
    · exact gap_q hw j (by omega) s hs
    · simp only [List.mem_cons, List.not_mem_nil, or_false] at hs
      rcases hs with rfl | rfl
      · exact .far (hw.uk (by omega)) (by omega)
      · exact .far (hw.up (by omega)) (by omega)
theorem shift_q {base kd ptr : Int} {n : Nd} (hw : n.Wf) {many : Nat} (hm : many ≤ 8) : ∀ j, j ≤ many → ∀ s ∈ shiftL base n many j, CsQ base kd ptr s
  | 0, _, s, hs => by cases hs
  | j + 1, h, s, hs => by
    rw [shiftL] at hs
    rcases List.mem_append.1 hs with hs | hs
    · exact shift_q hw hm j (by omega) s hs
    · simp only [List.mem_cons, List.not_mem_nil, or_false] at hs
      rcases hs with rfl | rfl
      · exact .far (hw.up (by omega)) (by omega)
      · exact .far (hw.uk (by omega)) (by omega)
theorem made_q {base : Int} {n : Nd} (hw : n.Wf) {kd key ptr : Int} (hk : kd = 0 ∨ kd = 1 ∨ kd = 2 ∨ kd = 3 ∨ kd = 4 ∨ kd = 5) (h1 : U64 key) (h2 : U64 ptr) (hc : madeC base n kd key ptr = 0) : ∀ s ∈ madeL base n kd key ptr, CsQ base kd ptr s := by
  have q1 : ∀ {kd ptr}, CsQ base kd ptr (base + 24, cOne n) := .far (.wrap _) (by omega)
  have q2 : ∀ {kd ptr}, CsQ base kd ptr (base + 24, cTwo n) := .far (.wrap _) (by omega)
  have h8 := n.len_le
  rcases hk with rfl | rfl | rfl | rfl | rfl | rfl
  · have hE : insE base n key ptr = 0 := hc
    obtain ⟨A, hA, hA8⟩ := last_at n key
    intro s hs
    replace hs : s ∈ insP base n key ptr := hs
    unfold insP at hs
    rw [if_pos hE, hA] at hs
    unfold insL at hs
    simp only [List.mem_append, List.mem_cons, List.not_mem_nil, or_false, Int.toNat_natCast] at hs
    rcases hs with (((rfl | hs) | hs) | rfl | rfl | rfl) | rfl
    · exact q1
    · split at hs
      · simp only [List.mem_cons, List.not_mem_nil, or_false] at hs
        subst hs
        exact .far .zero (by omega)
      · cases hs
    · exact shift_q hw h8 _ (by omega) s hs
    · exact .far (hw.ua (by omega)) (by omega)
    · exact .far h1 (by omega)
    · exact .far h2 (by omega)
    · exact q2
  · have hE : delE base n key = 0 := hc
    have hfd : 0 ≤ n.find key := by
      unfold delE at hE
      split at hE
      · omega
      · split at hE <;> omega
    obtain ⟨A, hA, hA8⟩ := find_lt n key hfd
    intro s hs
    replace hs : s ∈ delP base n key := hs
    unfold delP at hs
    rw [if_pos hE, hA] at hs
    unfold delL at hs
    simp only [List.mem_append, List.mem_cons, List.not_mem_nil, or_false, Int.toNat_natCast] at hs
    rcases hs with (((rfl | rfl) | hs) | rfl) | rfl
    · exact q1
    · exact .far (hw.ua (by omega)) (by omega)
    · exact gap_q hw _ (by omega) s hs
    · exact .far .zero (by omega)
    · exact q2
  · have hE : repE base n = 0 := hc
    intro s hs
    replace hs : s ∈ repP base n := hs
    unfold repP at hs
    rw [if_pos hE] at hs
    unfold repL at hs
    simp only [List.mem_append, List.mem_cons, List.not_mem_nil, or_false] at hs
    rcases hs with ((rfl | hs) | rfl) | rfl
    · exact q1
    · by_cases h0 : n.invalid.toNat + (n.len - 1 - n.invalid.toNat) < 8
      · exact gap_q hw _ h0 s hs
      · rw [show n.len - 1 - n.invalid.toNat = 0 by omega] at hs
        cases hs
    · exact .far .zero (by omega)
    · exact q2
  · have hE : swapE base n key ptr = 0 := hc
    obtain ⟨_, _, hf⟩ := swapE_parts hE
    intro s hs
    replace hs : s ∈ swapP base n key ptr := hs
    unfold swapP at hs
    rw [if_pos hE] at hs
    simp only [List.mem_cons, List.not_mem_nil, or_false] at hs
    rcases hs with rfl | rfl | rfl
    · exact q1
    · exact .far h2 (by omega)
    · exact q2
  · have hE : cutE base n key = 0 := hc
    have hfd : 0 ≤ n.cutAt key := by
      unfold cutE at hE
      split at hE
      · omega
      · split at hE <;> omega
    intro s hs
    replace hs : s ∈ cutP base n key := hs
    unfold cutP at hs
    rw [if_pos hE] at hs
    simp only [List.mem_cons, List.not_mem_nil, or_false] at hs
    rcases hs with rfl | rfl | rfl
    · exact q1
    · exact .far .zero (by omega)
    · exact q2
  · have hE : mayE base n = 0 := hc
    intro s hs
    replace hs : s ∈ linkP base n ptr := hs
    unfold linkP at hs
    rw [if_pos hE] at hs
    simp only [List.mem_cons, List.not_mem_nil, or_false] at hs
    rcases hs with rfl | rfl | rfl
    · exact q1
    · exact ⟨h2, fun _ => ⟨rfl, rfl⟩⟩
    · exact q2

/-! ### stores applied -/
theorem putA_wf {base : Int} {m q : Nd} {at_ x : Int} (h : putA base m at_ x = some q) (hm : m.Wf) (hx : U64 x) : q.Wf := by
  have hx' : (Lit.int .u64 x).wf = true := by
    obtain ⟨a, b⟩ := hx
    simp [Lit.wf, IntKind.min, IntKind.max, IntKind.signed, IntKind.bits]
    omega
  unfold putA at h
  repeat' split at h
  all_goals cases h
  · exact ⟨hm.lv, hx', hm.nx, hm.ct, hm.fi, hm.k, hm.p⟩
  · exact ⟨hm.lv, hm.lo, hx', hm.ct, hm.fi, hm.k, hm.p⟩
  · exact ⟨hm.lv, hm.lo, hm.nx, hx', hm.fi, hm.k, hm.p⟩
  · exact ⟨hm.lv, hm.lo, hm.nx, hm.ct, hx', hm.k, hm.p⟩
  · exact ⟨hm.lv, hm.lo, hm.nx, hm.ct, hm.fi, fun i hi => by show (Lit.int .u64 (if _ then _ else _)).wf = true; split; exact hx'; exact hm.k i hi, hm.p⟩
  · exact ⟨hm.lv, hm.lo, hm.nx, hm.ct, hm.fi, hm.k, fun i hi => by show (Lit.int .u64 (if _ then _ else _)).wf = true; split; exact hx'; exact hm.p i hi⟩
theorem putA_nx {base : Int} {m q : Nd} {at_ x : Int} (h : putA base m at_ x = some q) : q.nx = m.nx ∨ (at_ = base + 16 ∧ q.nx = x) := by
  unfold putA at h
  repeat' split at h
  all_goals cases h
  all_goals first | exact .inl rfl | exact .inr ⟨by omega, rfl⟩
theorem putA_addr {base : Int} {m q : Nd} {at_ x : Int} (h : putA base m at_ x = some q) : base ≤ at_ ∧ at_ < base + 192 ∧ (at_ - base) % 8 = 0 := by
  unfold putA at h
  split at h
  · cases h
  · rename_i h1; omega
theorem ndAt_left {base : Int} {n : Nd} {L M : List (Int × Int)} {t : Nat} (h : t ≤ L.length) : ndAt base n (L ++ M) t = ndAt base n L t := by
  unfold ndAt
  rw [List.take_append_of_le_length h]
theorem ndAt_right {base : Int} {n m : Nd} {L M : List (Int × Int)} (h : applyL base n L = some m) (t : Nat) : ndAt base n (L ++ M) (L.length + t) = ndAt base m M t := by
  unfold ndAt
  rw [List.take_append, List.take_of_length_le (by omega), show L.length + t - L.length = t by omega, applyL_append, h]
theorem ndAt_all {base : Int} {n m : Nd} {L : List (Int × Int)} (h : applyL base n L = some m) : ndAt base n L L.length = m := by
  unfold ndAt
  rw [List.take_length, h]; rfl
/-- what is so of a node, and stays so at each store -/
theorem ndAt_keep {base : Int} {P : Nd → Prop} {Q : Int × Int → Prop} (hp : ∀ m q (s : Int × Int), P m → Q s → putA base m s.1 s.2 = some q → P q) :
    ∀ {L : List (Int × Int)} {n m : Nd}, applyL base n L = some m → P n → (∀ s ∈ L, Q s) → ∀ t, P (ndAt base n L t)
  | [], n, m, h, h0, hq, t => by unfold ndAt; rw [List.take_nil]; exact h0
  | s :: L, n, m, h, h0, hq, 0 => h0
  | s :: L, n, m, h, h0, hq, t + 1 => by
    unfold applyL at h
    cases he : putA base n s.1 s.2 with
    | none => rw [he] at h; cases h
    | some r =>
      rw [he] at h
      have := ndAt_keep hp (L := L) h (hp n r s h0 (hq s (List.mem_cons_self ..)) he) (fun x hx => hq x (List.mem_cons_of_mem _ hx)) t
      have e : ndAt base n (s :: L) (t + 1) = ndAt base r L t := by
        unfold ndAt
        rw [List.take_succ_cons]
        show (match putA base n s.1 s.2 with | some r => applyL base r (L.take t) | none => none).getD nd0 = _
        rw [he]
      rw [e]; exact this
theorem Stay.apply {base : Int} {v : List (Int × Int)} : ∀ {L : List (Int × Int)} {m m' : Nd}, Stay base v m L m' → applyL base m L = some m'
  | [], m, m', h => by cases h; rfl
  | s :: r, m, m', ⟨q, a, _, _, d⟩ => by
    unfold applyL
    rw [a]
    exact Stay.apply d
theorem Stay.at {base : Int} {v : List (Int × Int)} : ∀ {L : List (Int × Int)} {m m' : Nd}, Stay base v m L m' → m.mayB 0 false = true → ∀ t, (ndAt base m L t).mayB 0 false = true
  | [], m, m', h, h0, t => by unfold ndAt; rw [List.take_nil]; exact h0
  | s :: r, m, m', ⟨q, a, b, _, d⟩, h0, 0 => h0
  | s :: r, m, m', ⟨q, a, b, _, d⟩, h0, t + 1 => by
    have := Stay.at d b t
    have e : ndAt base m (s :: r) (t + 1) = ndAt base q r t := by
      unfold ndAt
      rw [List.take_succ_cons]
      show (match putA base m s.1 s.2 with | some x => applyL base x (r.take t) | none => none).getD nd0 = _
      rw [a]
    rw [e]; exact this
theorem traj_at {base : Int} {n : Nd} {was now L : List (Int × Int)} {e : Option Nat} (h : Traj base n was now L e) (h0 : n.mayB 0 false = true) :
    ∃ m3, applyL base n L = some m3 ∧ Full m3 now ∧ Fine m3 now ∧ ∀ t, (ndAt base n L t).mayB 0 false = true := by
  cases e with
  | none =>
    obtain ⟨m3, a, _, b, c⟩ := h
    exact ⟨m3, a.apply, b, c, a.at h0⟩
  | some t =>
    obtain ⟨L1, s, L2, m1, m2, m3, rfl, _, h1, h2, h3, _, _, h5, h6, h7⟩ := h
    have ha : applyL base n L1 = some m1 := h1.apply
    refine ⟨m3, ?_, h6, h7, fun t => ?_⟩
    · rw [applyL_append, ha]
      show applyL base m1 (s :: L2) = _
      unfold applyL
      rw [h2]
      exact h5.apply
    · rcases Nat.lt_or_ge L1.length t with hl | hl
      rotate_left
      · rw [ndAt_left hl]; exact h1.at h0 t
      · obtain ⟨u, rfl⟩ : ∃ u, t = L1.length + (u + 1) := ⟨t - L1.length - 1, by omega⟩
        rw [ndAt_right ha]
        have e : ndAt base m1 (s :: L2) (u + 1) = ndAt base m2 L2 u := by
          unfold ndAt
          rw [List.take_succ_cons]
          show (match putA base m1 s.1 s.2 with | some x => applyL base x (L2.take u) | none => none).getD nd0 = _
          rw [h2]
        rw [e]; exact h5.at h3 u
/-! ### all that a change does -/
theorem made_len9 (base : Int) (n : Nd) (kd key ptr : Int) : (madeL base n kd key ptr).length ≤ 40 := by
  have h8 := n.len_le
  unfold madeL
  split
  · unfold insP
    split
    · unfold insL
      have : (n.last key + 1).toNat ≤ n.len := by have := last_ge n key; omega
      have h2 := shiftL_len base n n.len (n.len - (n.last key + 1).toNat)
      simp only [List.length_append, h2]
      split <;> simp <;> omega
    · simp
  split
  · unfold delP
    split
    · unfold delL; simp only [List.length_append, gapL_len]; simp; omega
    · simp
  split
  · unfold repP
    split
    · unfold repL; simp only [List.length_append, gapL_len]; simp; omega
    · simp
  split
  · unfold swapP; split <;> simp
  split
  · unfold cutP; split <;> simp
  · unfold linkP; split <;> simp
def KdOk (kd : Int) : Prop := kd = 0 ∨ kd = 1 ∨ kd = 2 ∨ kd = 3 ∨ kd = 4 ∨ kd = 5
/-- all that is known of a node on the way -/
structure NdOk (x : Int) (m : Nd) : Prop where
  wf : m.Wf
  may : m.mayB 0 false = true
  nx : m.nx = 0 ∨ m.nx = x
theorem NdOk.lv {x : Int} {m : Nd} (h : NdOk x m) : 0 ≤ m.lv ∧ m.lv ≤ 15 := ⟨(may_parts h.may).1, (may_parts h.may).2.1⟩
/-- no word comes back within this course -/
def NoBack (base : Int) (n : Nd) (S : List (Int × Int)) : Prop :=
  ∀ i k j, i ≤ k → k ≤ j → j ≤ S.length → (ndAt base n S i).ct = (ndAt base n S j).ct → ∀ q, q < 24 → wordsF (ndAt base n S i) q = wordsF (ndAt base n S j) q → wordsF (ndAt base n S k) q = wordsF (ndAt base n S i) q
structure Course (base x : Int) (n : Nd) (S : List (Int × Int)) (d : Nat) : Prop where
  ok : ∃ m, applyL base n S = some m
  at_ : ∀ t, NdOk x (ndAt base n S t)
  addr : ∀ s ∈ S, base ≤ s.1 ∧ s.1 < base + 192 ∧ (s.1 - base) % 8 = 0 ∧ U64 s.2
  ct : ∀ t, ∃ c : Nat, c ≤ d ∧ (ndAt base n S t).ct = IntKind.u64.wrap (n.ct + c)
  back : NoBack base n S
theorem apply_addr {base : Int} : ∀ {L : List (Int × Int)} {n m : Nd}, applyL base n L = some m → ∀ s ∈ L, base ≤ s.1 ∧ s.1 < base + 192 ∧ (s.1 - base) % 8 = 0
  | [], n, m, h, s, hs => by cases hs
  | a :: L, n, m, h, s, hs => by
    unfold applyL at h
    cases he : putA base n a.1 a.2 with
    | none => rw [he] at h; cases h
    | some r =>
      rw [he] at h
      rcases List.mem_cons.1 hs with rfl | hs
      · exact putA_addr he
      · exact apply_addr h s hs
/-- between two times at which a value is the same it is the same, if none comes back -/
theorem same_between {f : Nat → Int} {N : Nat} (h : ∀ t, t < N → f (t + 1) ≠ f t → ∀ j, j ≤ t → f j ≠ f (t + 1)) {i k j : Nat} (hik : i ≤ k) (hkj : k ≤ j) (hj : j ≤ N) (he : f i = f j) : f k = f i := by
  -- the last change ahead of j, if there is one behind k
  have key : ∀ d, k + d ≤ N → f (k + d) = f i → f k = f i := by
    intro d
    induction d with
    | zero => intro _ h0; exact h0
    | succ d ih =>
      intro hd h0
      by_cases hc : f (k + d + 1) = f (k + d)
      · exact ih (by omega) (by rw [← hc]; exact h0)
      · exact absurd (show f i = f (k + d + 1) from h0.symm) (h (k + d) (by omega) hc i (by omega))
  exact key (j - k) (by omega) (by rw [show k + (j - k) = j by omega, he])
theorem course_one {base x : Int} {n : Nd} {kd key ptr : Int} (hn : NdOk x n) (hk : KdOk kd) (h1 : U64 key) (h2 : U64 ptr) (hx : kd = 5 → ptr = x) (hc : madeC base n kd key ptr = 0) :
    Course base x n (madeL base n kd key ptr) 2 ∧ (madeL base n kd key ptr).length ≤ 1000 ∧
    (∀ t, t < (madeL base n kd key ptr).length → ∃ c : Nat, c ≤ 1 ∧ (ndAt base n (madeL base n kd key ptr) t).ct = IntKind.u64.wrap (n.ct + c)) ∧
    (ndAt base n (madeL base n kd key ptr) (madeL base n kd key ptr).length).ct = IntKind.u64.wrap (n.ct + 2) ∧ 2 ≤ (madeL base n kd key ptr).length := by
  obtain ⟨m3, ha, hF, hf, hm⟩ := traj_at (traj_all hk hc) hn.may
  have hq := made_q hn.wf hk h1 h2 hc
  have hw : ∀ t, (ndAt base n (madeL base n kd key ptr) t).Wf := ndAt_keep (P := Nd.Wf) (Q := fun s => U64 s.2) (fun m q s h1 h2 h3 => putA_wf h3 h1 h2) ha hn.wf (fun s hs => (hq s hs).1)
  have hnx : ∀ t, (ndAt base n (madeL base n kd key ptr) t).nx = 0 ∨ (ndAt base n (madeL base n kd key ptr) t).nx = x := ndAt_keep (P := fun m => m.nx = 0 ∨ m.nx = x) (Q := CsQ base kd ptr) (fun m q s h1 h2 h3 => by
    rcases putA_nx h3 with e | ⟨e1, e2⟩
    · rw [e]; exact h1
    · right; rw [e2, (h2.2 e1).2, hx (h2.2 e1).1]) ha hn.nx hq
  obtain ⟨hct, hbk⟩ := once_plain hn.wf hk hc ha hn.lv
  have hL2 : 2 ≤ (madeL base n kd key ptr).length := by
    obtain ⟨mid, e, _⟩ := once_all hk hc
    rw [e]; simp
  have hc0 : ∀ t, t < (madeL base n kd key ptr).length → ∃ c : Nat, c ≤ 1 ∧ (ndAt base n (madeL base n kd key ptr) t).ct = IntKind.u64.wrap (n.ct + c) := fun t ht => by
    cases t with
    | zero =>
      refine ⟨0, by omega, ?_⟩
      rw [ndAt_zero, IntKind.wrap_u64]
      have := u64_bounds hn.wf.ct
      omega
    | succ t =>
      refine ⟨1, by omega, ?_⟩
      rw [hct t (by omega), if_pos ht]; rfl
  have hcl : (ndAt base n (madeL base n kd key ptr) (madeL base n kd key ptr).length).ct = IntKind.u64.wrap (n.ct + 2) := by
    have := hct ((madeL base n kd key ptr).length - 1) (by omega)
    rw [if_neg (by omega), show (madeL base n kd key ptr).length - 1 + 1 = (madeL base n kd key ptr).length by omega] at this
    rw [this]; rfl
  refine ⟨⟨⟨m3, ha⟩, fun t => ⟨hw t, hm t, hnx t⟩, fun s hs => ?_, fun t => ?_, ?_⟩, ?_, hc0, hcl, hL2⟩
  · obtain ⟨a, b, c⟩ := apply_addr ha s hs
    exact ⟨a, b, c, (hq s hs).1⟩
  · rcases Nat.lt_or_ge t (madeL base n kd key ptr).length with ht | ht
    · obtain ⟨c, h1, h2⟩ := hc0 t ht
      exact ⟨c, by omega, h2⟩
    · refine ⟨2, by omega, ?_⟩
      have e : ndAt base n (madeL base n kd key ptr) t = ndAt base n (madeL base n kd key ptr) (madeL base n kd key ptr).length := by
        unfold ndAt
        rw [List.take_of_length_le ht, List.take_length]
      rw [e, hcl]; rfl
  · intro i k j hik hkj hj _ q hq hw
    exact same_between (f := fun t => wordsF (ndAt base n (madeL base n kd key ptr) t) q) (fun t ht hne j hj => hbk t q ht hq hne j hj) hik hkj hj hw
  · have := made_len9 base n kd key ptr; omega
/-! ### change behind change -/
/-- what is asked for: a kind, a key, a pointer -/
structure Ak where
  kd : Int
  key : Int
  ptr : Int
def AkOk (x : Int) (a : Ak) : Prop := KdOk a.kd ∧ U64 a.key ∧ U64 a.ptr ∧ (a.kd = 5 → a.ptr = x)
def aL (base : Int) (n : Nd) (a : Ak) : List (Int × Int) := madeL base n a.kd a.key a.ptr
def aC (base : Int) (n : Nd) (a : Ak) : Int := madeC base n a.kd a.key a.ptr
/-- the node behind a change -/
def aN (base : Int) (n : Nd) (a : Ak) : Nd := ndAt base n (aL base n a) (aL base n a).length
/-- all the stores that are to come -/
def comeL (base : Int) : Nd → List Ak → List (Int × Int)
  | _, [] => []
  | n, a :: r => if aC base n a = 0 then aL base n a ++ comeL base (aN base n a) r else comeL base n r
theorem comeL_yes {base : Int} {n : Nd} {a : Ak} (h : aC base n a = 0) (r : List Ak) : comeL base n (a :: r) = aL base n a ++ comeL base (aN base n a) r := by rw [comeL, if_pos h]
theorem comeL_no {base : Int} {n : Nd} {a : Ak} (h : aC base n a ≠ 0) (r : List Ak) : comeL base n (a :: r) = comeL base n r := by rw [comeL, if_neg h]
theorem wrap_add (a : Int) (b c : Nat) : IntKind.u64.wrap (IntKind.u64.wrap (a + b) + c) = IntKind.u64.wrap (a + (b + c : Nat)) := by
  simp only [IntKind.wrap_u64]; omega
theorem course_all {base x : Int} : ∀ (l : List Ak) (n : Nd), NdOk x n → (∀ a ∈ l, AkOk x a) → l.length ≤ 1000 → Course base x n (comeL base n l) (2 * l.length)
  | [], n, hn, _, _ => by
    have e : ∀ t, ndAt base n (comeL base n []) t = n := fun t => by unfold ndAt comeL; rw [List.take_nil]; rfl
    refine ⟨⟨n, rfl⟩, fun t => by rw [e]; exact hn, fun s hs => (by cases hs), fun t => ⟨0, by omega, ?_⟩, fun i k j _ _ _ _ q _ h => by rw [e, e]⟩
    rw [e, IntKind.wrap_u64]
    have := u64_bounds hn.wf.ct
    omega
  | a :: r, n, hn, ha, hl => by
    obtain ⟨hk, h1, h2, hx⟩ := ha a (List.mem_cons_self ..)
    have har : ∀ b ∈ r, AkOk x b := fun b hb => ha b (List.mem_cons_of_mem _ hb)
    have hlr : r.length ≤ 1000 := by simp at hl; omega
    by_cases hc : aC base n a = 0
    · rw [comeL_yes hc]
      obtain ⟨hC, hlen, hct, hcl, hL2⟩ := course_one hn hk h1 h2 hx hc
      have hn' : NdOk x (aN base n a) := hC.at_ _
      have hR := course_all (base := base) r (aN base n a) hn' har hlr
      obtain ⟨m1, hm1⟩ := hC.ok
      obtain ⟨m2, hm2⟩ := hR.ok
      have hN : aN base n a = m1 := ndAt_all hm1
      have hright : ∀ t, ndAt base n (aL base n a ++ comeL base (aN base n a) r) ((aL base n a).length + t) = ndAt base (aN base n a) (comeL base (aN base n a) r) t := fun t => by rw [hN]; exact ndAt_right hm1 t
      have hleft : ∀ t, t ≤ (aL base n a).length → ndAt base n (aL base n a ++ comeL base (aN base n a) r) t = ndAt base n (aL base n a) t := fun t ht => ndAt_left ht
      have hctR : ∀ t, ∃ c : Nat, c ≤ 2 * r.length ∧ (ndAt base n (aL base n a ++ comeL base (aN base n a) r) ((aL base n a).length + t)).ct = IntKind.u64.wrap (n.ct + (2 + c : Nat)) := fun t => by
        obtain ⟨c, hc1, hc2⟩ := hR.ct t
        refine ⟨c, hc1, ?_⟩
        rw [hright, hc2, show (aN base n a).ct = _ from hcl]
        exact wrap_add n.ct 2 c
      refine ⟨⟨m2, ?_⟩, fun t => ?_, fun s hs => ?_, fun t => ?_, ?_⟩
      · rw [applyL_append, show applyL base n (aL base n a) = some m1 from hm1]
        show applyL base m1 _ = _
        rw [← hN]; exact hm2
      · rcases Nat.le_total t (aL base n a).length with ht | ht
        · rw [hleft t ht]; exact hC.at_ t
        · obtain ⟨u, rfl⟩ : ∃ u, t = (aL base n a).length + u := ⟨t - (aL base n a).length, by omega⟩
          rw [hright]; exact hR.at_ u
      · rcases List.mem_append.1 hs with hs | hs
        · exact hC.addr s hs
        · exact hR.addr s hs
      · rcases Nat.le_total t (aL base n a).length with ht | ht
        · rw [hleft t ht]
          obtain ⟨c, c1, c2⟩ := hC.ct t
          exact ⟨c, by simp; omega, c2⟩
        · obtain ⟨u, rfl⟩ : ∃ u, t = (aL base n a).length + u := ⟨t - (aL base n a).length, by omega⟩
          obtain ⟨c, c1, c2⟩ := hctR u
          exact ⟨2 + c, by simp; omega, c2⟩
      · intro i k j hik hkj hj he q hq hw
        rw [List.length_append] at hj
        rcases Nat.le_total j (aL base n a).length with hja | hja
        · rw [hleft i (by omega)] at he hw ⊢
          rw [hleft j hja] at he hw
          rw [hleft k (by omega)]
          exact hC.back i k j hik hkj hja he q hq hw
        · obtain ⟨j', rfl⟩ : ∃ u, j = (aL base n a).length + u := ⟨j - (aL base n a).length, by omega⟩
          rcases Nat.lt_or_ge i (aL base n a).length with hia | hia
          · -- a count ahead of a change's last store is none behind it
            exfalso
            obtain ⟨c, c1, c2⟩ := hct i hia
            obtain ⟨d, d1, d2⟩ := hctR j'
            rw [hleft i (by omega), d2, show (ndAt base n (aL base n a) i).ct = _ from c2] at he
            simp only [IntKind.wrap_u64] at he
            simp only [List.length_cons] at hl
            omega
          · obtain ⟨i', rfl⟩ : ∃ u, i = (aL base n a).length + u := ⟨i - (aL base n a).length, by omega⟩
            obtain ⟨k', rfl⟩ : ∃ u, k = (aL base n a).length + u := ⟨k - (aL base n a).length, by omega⟩
            rw [hright, hright] at he hw
            rw [hright, hright]
            exact hR.back i' k' j' (by omega) (by omega) (by omega) he q hq hw
    · rw [comeL_no hc]
      have hR := course_all (base := base) r n hn har hlr
      exact ⟨hR.ok, hR.at_, hR.addr, fun t => by obtain ⟨c, c1, c2⟩ := hR.ct t; exact ⟨c, by simp; omega, c2⟩, hR.back⟩
end Go.Proofs.Ytgmbnoimlffgcaa
