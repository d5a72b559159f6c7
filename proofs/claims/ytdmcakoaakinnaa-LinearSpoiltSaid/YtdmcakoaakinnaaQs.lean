/-
  PLAIN: bounds of the search for few calls; the search as a list that can be reckoned.
-/
import Derived.Test.YtdmcakoaakinnaaQr
namespace Go.Proofs.Ytdmcakoaakinnaa
open Go.RowKit
set_option linter.unusedVariables false
set_option linter.unusedSimpArgs false

/-- the values that a key may have -/
def valsK (key : Int) (first : List Pr) (l : List Er) : List ByteArray := (valueP first key).1 :: ⟨#[]⟩ :: l.flatMap fun e => (ofP key e.cs).map (·.val)
def stsV (V : List ByteArray) (m : Nat) : List St := V.flatMap fun v => [⟨m, true, v⟩, ⟨m, false, v⟩]
theorem mem_stsV {V : List ByteArray} {m : Nat} {s : St} : s ∈ stsV V m ↔ s.dn = m ∧ s.v ∈ V := by
  unfold stsV
  rw [List.mem_flatMap]
  constructor
  · rintro ⟨v, hv, h⟩
    simp at h
    rcases h with rfl | rfl <;> exact ⟨rfl, hv⟩
  · rintro ⟨h1, h2⟩
    refine ⟨s.v, h2, ?_⟩
    obtain ⟨a, b, c⟩ := s
    simp at h1
    subst h1
    cases b <;> simp
theorem stsV_len (V : List ByteArray) (m : Nat) : (stsV V m).length = 2 * V.length := by
  unfold stsV
  induction V with
  | nil => rfl
  | cons v r ih => rw [List.flatMap_cons, List.length_append, ih]; simp; omega
theorem reach_in {l : List Dn} {V : List ByteArray} (hV : ∀ d ∈ l, d.val ∈ V) (h0 : (⟨#[]⟩ : ByteArray) ∈ V) {s t : St} (h : Reach l s t) (hs : s.v ∈ V) (hd : s.dn < 2 ^ l.length) : t.v ∈ V ∧ t.dn < 2 ^ l.length := by
  induction h with
  | refl => exact ⟨hs, hd⟩
  | @step s n t i h _ ih =>
    refine ih ?_ ?_
    · rw [h.eq]
      unfold afterS
      split
      · exact hV _ (getD_memL l i dnZ h.lt)
      · split
        · exact h0
        · exact hs
    · rw [h.eq, afterS_dn, Nat.one_shiftLeft]
      exact Nat.or_lt_two_pow hd (Nat.pow_lt_pow_right (by omega) h.lt)
theorem KeyB.of {key : Int} {first : List Pr} {l : List Er} (hn : ∀ e ∈ l, (ofP key e.cs).length ≤ 30) (hl : (valsK key first l).length ≤ 512) (hf : ∀ p ∈ first, p.val.size ≤ maxLen) (hv : ∀ e ∈ l, ∀ d ∈ e.cs, DnV d) : KeyB key first l (stsV (valsK key first l) 0) := by
  have h0 : (⟨#[]⟩ : ByteArray) ∈ valsK key first l := List.mem_cons_of_mem _ List.mem_cons_self
  have hin : ∀ e ∈ l, ∀ d ∈ ofP key e.cs, d.val ∈ valsK key first l := fun e he d hd =>
    List.mem_cons_of_mem _ (List.mem_cons_of_mem _ (List.mem_flatMap.2 ⟨e, he, List.mem_map.2 ⟨d, hd, rfl⟩⟩))
  refine ⟨by rw [stsV_len]; omega, mem_stsV.2 ⟨rfl, List.mem_cons_self⟩, fun s hs => ?_, fun e he _ s hs => ?_, fun e he _ s hs t ht => ?_⟩
  · obtain ⟨h1, h2⟩ := mem_stsV.1 hs
    refine ⟨by rw [h1]; decide, ?_⟩
    rcases List.mem_cons.1 h2 with h | h
    · rw [h]
      unfold valueP
      split
      · rename_i p hp
        exact hf p (List.mem_of_find?_eq_some hp)
      · show 0 ≤ _; omega
    · rcases List.mem_cons.1 h with h | h
      · rw [h]; show 0 ≤ _; omega
      · obtain ⟨e, he, h⟩ := List.mem_flatMap.1 h
        obtain ⟨d, hd, h⟩ := List.mem_map.1 h
        rw [← h]
        exact ofP_dnv (hv e he) d hd
  · obtain ⟨h1, h2⟩ := mem_stsV.1 hs
    refine ⟨(List.range (2 ^ (ofP key e.cs).length)).flatMap (stsV (valsK key first l)), fun t ht => ?_, ?_⟩
    · obtain ⟨h3, h4⟩ := reach_in (hin e he) h0 ht h2 (by rw [h1]; exact Nat.pow_pos (by decide))
      exact List.mem_flatMap.2 ⟨t.dn, List.mem_range.2 h4, mem_stsV.2 ⟨rfl, h3⟩⟩
    · have gen : ∀ r : List Nat, (r.flatMap (stsV (valsK key first l))).length = r.length * (2 * (valsK key first l).length) := by
        intro r
        induction r with
        | nil => simp
        | cons x r ih => rw [List.flatMap_cons, List.length_append, ih, stsV_len, List.length_cons, Nat.add_mul]; omega
      rw [gen, List.length_range]
      have h5 : (2 : Nat) ^ (ofP key e.cs).length ≤ 2 ^ 30 := Nat.pow_le_pow_right (by decide) (hn e he)
      calc (2 : Nat) ^ (ofP key e.cs).length * (2 * (valsK key first l).length) ≤ 2 ^ 30 * 1024 := Nat.mul_le_mul h5 (by omega)
        _ = 1099511627776 := by decide
  · obtain ⟨h1, h2⟩ := mem_stsV.1 hs
    obtain ⟨u, hu, _, rfl⟩ := ht
    obtain ⟨h3, _⟩ := reach_in (hin e he) h0 hu h2 (by rw [h1]; exact Nat.pow_pos (by decide))
    exact mem_stsV.2 ⟨rfl, h3⟩

/-! ### the search, as a list -/
def nextB (l : List Dn) (s : St) (i : Nat) : Bool := !s.dn.testBit i && ((List.range l.length).all fun k => s.dn.testBit k || !aheadP (l.getD k dnZ) (l.getD i dnZ)) && rightS s (l.getD i dnZ)
def wholeB (l : List Dn) (s : St) : Bool := (List.range l.length).all fun i => s.dn.testBit i || decide ((l.getD i dnZ).en < 0)
theorem wholeB_iff (l : List Dn) (s : St) : wholeB l s = true ↔ WholeS l s := by
  unfold wholeB WholeS
  rw [List.all_eq_true]
  constructor
  · intro h i hi hu
    have := h i (List.mem_range.2 hi)
    rw [hu] at this
    simpa using this
  · intro h i hi
    cases hu : s.dn.testBit i
    · simpa using h i (List.mem_range.1 hi) hu
    · simp
theorem nextB_iff (l : List Dn) (s : St) (i : Nat) (hi : i < l.length) : nextB l s i = true ↔ StepA l s i (afterS s i (l.getD i dnZ)) := by
  unfold nextB
  rw [Bool.and_eq_true, Bool.and_eq_true, List.all_eq_true]
  constructor
  · rintro ⟨⟨h1, h2⟩, h3⟩
    refine ⟨hi, by simpa using h1, fun k hk hu => ?_, h3, rfl⟩
    have := h2 k (List.mem_range.2 hk)
    rw [hu] at this
    simpa using this
  · intro h
    refine ⟨⟨by simpa using h.un, fun k hk => ?_⟩, h.ok⟩
    cases hu : s.dn.testBit k
    · simpa using h.fr k (List.mem_range.1 hk) hu
    · simp
def endsF : Nat → List Dn → St → List St
  | 0, _, _ => []
  | f + 1, l, s => (if wholeB l s = true then [ensS s] else []) ++ (List.range l.length).flatMap fun i => if nextB l s i = true then endsF f l (afterS s i (l.getD i dnZ)) else []
def unsetN (l : List Dn) (s : St) : Nat := ((List.range l.length).filter fun i => !s.dn.testBit i).length
theorem unset_lt {l : List Dn} {s n : St} {i : Nat} (h : StepA l s i n) : unsetN l n < unsetN l s := by
  unfold unsetN
  have hbit : ∀ j, n.dn.testBit j = (s.dn.testBit j || decide (i = j)) := fun j => by
    rw [h.eq, afterS_dn, Nat.testBit_or, Nat.one_shiftLeft, Nat.testBit_two_pow]
  have gen : ∀ r : List Nat, (r.filter fun j => !n.dn.testBit j).length ≤ (r.filter fun j => !s.dn.testBit j).length ∧ (i ∈ r → (r.filter fun j => !n.dn.testBit j).length < (r.filter fun j => !s.dn.testBit j).length) := by
    intro r
    induction r with
    | nil => exact ⟨Nat.le_refl _, fun h => absurd h List.not_mem_nil⟩
    | cons x r ih =>
      obtain ⟨i1, i2⟩ := ih
      by_cases e : i = x
      · subst e
        have hn : (!n.dn.testBit i) = false := by rw [hbit]; simp
        have hs : (!s.dn.testBit i) = true := by rw [h.un]; rfl
        rw [List.filter_cons, List.filter_cons, if_neg (by rw [hn]; simp), if_pos hs, List.length_cons]
        exact ⟨by omega, fun _ => by omega⟩
      · have hx : n.dn.testBit x = s.dn.testBit x := by rw [hbit]; simp [e]
        rw [List.filter_cons, List.filter_cons, hx]
        split
        · rw [List.length_cons, List.length_cons]
          exact ⟨by omega, fun hm => by
            rcases List.mem_cons.1 hm with h | h
            · exact absurd h e
            · have := i2 h; omega⟩
        · exact ⟨i1, fun hm => by
            rcases List.mem_cons.1 hm with h | h
            · exact absurd h e
            · exact i2 h⟩
  exact (gen _).2 (List.mem_range.2 h.lt)
theorem endsF_sound : ∀ (f : Nat) (l : List Dn) (s t : St), t ∈ endsF f l s → EndsP l s t
  | 0, _, _, _, h => absurd h List.not_mem_nil
  | f + 1, l, s, t, h => by
    unfold endsF at h
    rcases List.mem_append.1 h with h | h
    · split at h
      · rename_i hw
        obtain rfl := List.mem_singleton.1 h
        exact ⟨s, .refl _, (wholeB_iff l s).1 hw, rfl⟩
      · cases h
    · obtain ⟨i, hi, h⟩ := List.mem_flatMap.1 h
      split at h
      · rename_i hn
        obtain ⟨u, h1, h2, h3⟩ := endsF_sound f l _ t h
        exact ⟨u, .step ((nextB_iff l s i (List.mem_range.1 hi)).1 hn) h1, h2, h3⟩
      · cases h
theorem endsF_all : ∀ (f : Nat) (l : List Dn) (s u : St), unsetN l s < f → Reach l s u → WholeS l u → ensS u ∈ endsF f l s
  | 0, _, _, _, h, _, _ => by omega
  | f + 1, l, s, u, hf, hr, hw => by
    unfold endsF
    cases hr with
    | refl => exact List.mem_append.2 (.inl (by rw [if_pos ((wholeB_iff l s).2 hw)]; exact List.mem_singleton.2 rfl))
    | @step _ n _ i hs hr =>
      have he := hs.eq
      subst he
      refine List.mem_append.2 (.inr (List.mem_flatMap.2 ⟨i, List.mem_range.2 hs.lt, ?_⟩))
      rw [if_pos ((nextB_iff l s i hs.lt).2 hs)]
      exact endsF_all f l _ u (by have := unset_lt hs; omega) hr hw
theorem endsF_iff (l : List Dn) (s t : St) : t ∈ endsF (l.length + 1) l s ↔ EndsP l s t := by
  constructor
  · exact endsF_sound _ _ _ _
  · rintro ⟨u, h1, h2, rfl⟩
    refine endsF_all _ _ _ _ ?_ h1 h2
    unfold unsetN
    have := List.length_filter_le (fun i => !s.dn.testBit i) (List.range l.length)
    rw [List.length_range] at this
    omega
def stepL (key : Int) (S : List St) (e : Er) : List St := (S.flatMap fun s => endsF ((ofP key e.cs).length + 1) (ofP key e.cs) s).filter fun t => !e.kn || (decide (t.dn = 0) && (t.is == (valueP e.af key).2) && decide (t.v = (valueP e.af key).1))
def nowL (key : Int) (l : List Er) (S : List St) : List St := l.foldl (stepL key) S
theorem stepL_iff (key : Int) (S : List St) (P : St → Prop) (hS : ∀ s, s ∈ S ↔ P s) (e : Er) (t : St) : t ∈ stepL key S e ↔ stepE key P e t := by
  unfold stepL stepE
  rw [List.mem_filter, List.mem_flatMap]
  have hk : (!e.kn || (decide (t.dn = 0) && (t.is == (valueP e.af key).2) && decide (t.v = (valueP e.af key).1))) = true ↔ (e.kn = true → t = startS (valueP e.af key)) := by
    obtain ⟨a, b, c⟩ := t
    unfold startS
    cases e.kn
    · simp
    · simp [and_assoc]
  constructor
  · rintro ⟨⟨s, h1, h2⟩, h3⟩
    exact ⟨s, (hS s).1 h1, (endsF_iff _ _ _).1 h2, hk.1 h3⟩
  · rintro ⟨s, h1, h2, h3⟩
    exact ⟨⟨s, (hS s).2 h1, (endsF_iff _ _ _).2 h2⟩, hk.2 h3⟩
theorem nowL_iff (key : Int) : ∀ (l : List Er) (S : List St) (P : St → Prop), (∀ s, s ∈ S ↔ P s) → ∀ t, t ∈ nowL key l S ↔ nowP key l P t
  | [], S, P, hS, t => hS t
  | e :: r, S, P, hS, t => by
    show t ∈ nowL key r (stepL key S e) ↔ nowP key r (stepE key P e) t
    exact nowL_iff key r _ _ (fun s => stepL_iff key S P hS e s) t
/-- is a key explained? reckoned -/
theorem keyT_iff (key : Int) (first : List Pr) (l : List Er) : KeyT key first l ↔ nowL key l [startS (valueP first key)] ≠ [] := by
  unfold KeyT
  constructor
  · rintro ⟨t, ht⟩ e
    have := (nowL_iff key l [startS (valueP first key)] _ (fun s => List.mem_singleton) t).2 ht
    rw [e] at this
    cases this
  · intro h
    obtain ⟨t, ht⟩ := List.exists_mem_of_ne_nil _ h
    exact ⟨t, (nowL_iff key l [startS (valueP first key)] _ (fun s => List.mem_singleton) t).1 ht⟩
end Go.Proofs.Ytdmcakoaakinnaa
