/-
  LinearNil, PLAIN: puts one behind another, puts all at once, too many of them.
-/
import Derived.Test.YtdmcakoaakinnaaQv
namespace Go.Proofs.Ytdmcakoaakinnaa
open Go.RowKit
set_option linter.unusedVariables false
set_option linter.unusedSimpArgs false

theorem ones_bit (j i : Nat) : (2 ^ j - 1).testBit i = decide (i < j) := Nat.testBit_two_pow_sub_one j i
theorem ones_or (j : Nat) : (2 ^ j - 1) ||| 1 <<< j = 2 ^ (j + 1) - 1 := by
  apply Nat.eq_of_testBit_eq
  intro i
  rw [Nat.testBit_or, ones_bit, ones_bit, Nat.one_shiftLeft, Nat.testBit_two_pow]
  by_cases h : i < j
  · rw [decide_eq_true h, decide_eq_true (show i < j + 1 by omega)]; rfl
  · by_cases h2 : j = i
    · rw [decide_eq_true h2, decide_eq_true (show i < j + 1 by omega), Bool.or_true]
    · rw [decide_eq_false h, decide_eq_false h2, decide_eq_false (show ¬ i < j + 1 by omega)]; rfl
/-- puts of one value, none of which stands ahead of one that is listed before it -/
structure PutsP (l : List Dn) (v : ByteArray) : Prop where
  op : ∀ i, i < l.length → (l.getD i dnZ).op = 1
  code : ∀ i, i < l.length → (l.getD i dnZ).code = 0
  val : ∀ i, i < l.length → (l.getD i dnZ).val = v
  fr : ∀ i k, i ≤ k → k < l.length → aheadP (l.getD k dnZ) (l.getD i dnZ) = false
theorem after_put {s : St} {i : Nat} {d : Dn} (h : d.op = 1) : afterS s i d = ⟨s.dn ||| 1 <<< i, true, d.val⟩ := by unfold afterS; rw [if_pos h]
theorem PutsP.to {l : List Dn} {v : ByteArray} (h : PutsP l v) (s : St) (hs : s.dn = 0) : ∀ j, j ≤ l.length → ∃ t, Reach l s t ∧ t.dn = 2 ^ j - 1
  | 0, _ => ⟨s, .refl s, hs⟩
  | j + 1, hj => by
    obtain ⟨t, h1, h2⟩ := h.to s hs j (by omega)
    refine ⟨afterS t j (l.getD j dnZ), h1.trans (.step ⟨by omega, by rw [h2, ones_bit]; simp, fun k hk hu => ?_, ?_, rfl⟩ (.refl _)), by rw [afterS_dn, h2, ones_or]⟩
    · rw [h2, ones_bit] at hu
      have : ¬ k < j := of_decide_eq_false hu
      exact h.fr j k (by omega) hk
    · unfold rightS codeS
      rw [if_pos (h.op j (by omega)), h.code j (by omega), h.op j (by omega)]
      simp
theorem PutsP.ends {l : List Dn} {v : ByteArray} (h : PutsP l v) (s : St) (hs : s.dn = 0) : ∃ t, EndsP l s t := by
  obtain ⟨t, h1, h2⟩ := h.to s hs l.length (Nat.le_refl _)
  refine ⟨_, t, h1, fun i hi hu => ?_, rfl⟩
  rw [h2, ones_bit, decide_eq_true hi] at hu
  cases hu
theorem reach_seq {l : List Dn} {v : ByteArray} (h : PutsP l v) (hq : ∀ i k, k < i → i < l.length → aheadP (l.getD k dnZ) (l.getD i dnZ) = true) {s t : St} (hr : Reach l s t) : ∀ j, j ≤ l.length → s.dn = 2 ^ j - 1 → ∃ j', j' ≤ l.length ∧ t.dn = 2 ^ j' - 1 ∧ (t = s ∨ (t.is = true ∧ t.v = v)) := by
  induction hr with
  | refl s => intro j hj hs; exact ⟨j, hj, hs, .inl rfl⟩
  | @step s n t i hst hr ih =>
    intro j hj hs
    have hu := hst.un
    rw [hs, ones_bit] at hu
    have hji : ¬ i < j := of_decide_eq_false hu
    have hi := hst.lt
    have e : i = j := by
      by_cases hlt : j < i
      · have h1 := hst.fr j (by omega) (by rw [hs, ones_bit]; simp)
        rw [hq i j hlt hi] at h1
        cases h1
      · omega
    subst e
    have en := hst.eq
    rw [after_put (h.op i hi), hs, ones_or, h.val i hi] at en
    obtain ⟨j', h1, h2, h3⟩ := ih (i + 1) hi (by rw [en])
    refine ⟨j', h1, h2, .inr ?_⟩
    rcases h3 with h3 | h3
    · rw [h3, en]; exact ⟨rfl, rfl⟩
    · exact h3
def eN (ca : Option Addr) (cc : Nat) (cs : List Dn) : Er := ⟨ca, cc, cs, none, 0, [], false⟩
def s0 : St := ⟨0, false, ⟨#[]⟩⟩
theorem start0 (a : Int) : startS (valueP [] a) = s0 := rfl
theorem keyB_seq {l : List Dn} {v : ByteArray} (key : Int) (ca : Option Addr) (cc : Nat) (h : PutsP l v) (hq : ∀ i k, k < i → i < l.length → aheadP (l.getD k dnZ) (l.getD i dnZ) = true) (hl : l.length ≤ 1000) (hof : ofP key l = l) (hv : v.size ≤ maxLen) : KeyB key [] [eN ca cc l] [s0, ⟨0, true, v⟩] := by
  have hdn : ∀ s ∈ [s0, ⟨0, true, v⟩], s.dn = 2 ^ 0 - 1 ∧ ensS s = s := fun s hs => by
    simp only [List.mem_cons, List.not_mem_nil, or_false] at hs
    rcases hs with rfl | rfl <;> exact ⟨rfl, rfl⟩
  refine ⟨by simp, by rw [start0]; exact List.mem_cons_self, fun s hs => ?_, fun e he _ s hs => ?_, fun e he _ s hs t ht => ?_⟩
  · simp only [List.mem_cons, List.not_mem_nil, or_false] at hs
    rcases hs with rfl | rfl
    · exact ⟨by decide, by show (0 : Nat) ≤ _; omega⟩
    · exact ⟨by show (0 : Nat) < _; omega, hv⟩
  · obtain rfl := List.mem_singleton.1 he
    refine ⟨s :: (List.range (l.length + 1)).map (fun j => ⟨2 ^ j - 1, true, v⟩), fun t ht => ?_, by rw [List.length_cons, List.length_map, List.length_range]; omega⟩
    rw [show (eN ca cc l).cs = l from rfl, hof] at ht
    obtain ⟨j', h1, h2, h3⟩ := reach_seq h hq ht 0 (Nat.zero_le _) (hdn s hs).1
    rcases h3 with rfl | ⟨h3, h4⟩
    · exact List.mem_cons_self
    · refine List.mem_cons_of_mem _ (List.mem_map.2 ⟨j', List.mem_range.2 (by omega), ?_⟩)
      obtain ⟨x, y, z⟩ := t
      simp only at h2 h3 h4
      rw [h2, h3, h4]
  · obtain rfl := List.mem_singleton.1 he
    rw [show (eN ca cc l).cs = l from rfl, hof] at ht
    obtain ⟨u, hu, _, rfl⟩ := ht
    obtain ⟨j', h1, h2, h3⟩ := reach_seq h hq hu 0 (Nat.zero_le _) (hdn s hs).1
    rcases h3 with rfl | ⟨h3, h4⟩
    · rw [(hdn _ hs).2]; exact hs
    · refine List.mem_cons_of_mem _ (List.mem_singleton.2 ?_)
      unfold ensS
      rw [h3, h4]
theorem keyT_puts {l : List Dn} {v : ByteArray} (key : Int) (ca : Option Addr) (cc : Nat) (h : PutsP l v) (hof : ofP key l = l) : KeyT key [] [eN ca cc l] := by
  obtain ⟨t, ht⟩ := h.ends s0 rfl
  exact ⟨t, s0, rfl, by rw [show (eN ca cc l).cs = l from rfl, hof]; exact ht, fun h => by cases h⟩
/-- where an era has too many calls of a key, nothing is asked of the search -/
theorem keyB_long (key : Int) (ca : Option Addr) (cc : Nat) (l : List Dn) (h : 60 < (ofP key l).length) : KeyB key [] [eN ca cc l] [s0] := by
  refine ⟨by simp, by rw [start0]; exact List.mem_cons_self, fun s hs => ?_, fun e he hl => ?_, fun e he hl => ?_⟩
  · obtain rfl := List.mem_singleton.1 hs
    exact ⟨by decide, by show (0 : Nat) ≤ _; omega⟩
  · obtain rfl := List.mem_singleton.1 he
    exact absurd hl (by show ¬ (ofP key l).length ≤ 60; omega)
  · obtain rfl := List.mem_singleton.1 he
    exact absurd hl (by show ¬ (ofP key l).length ≤ 60; omega)
theorem exp_may {first : List Pr} {l : List Er} (hm : mayP first l = false) {b : Bool} {k er : Int} (h : ExP first l b k er) : b = false ∧ k = 0 ∧ er = 2 := by
  rcases h with ⟨_, h⟩ | ⟨h, _⟩
  · exact h
  · rw [hm] at h; cases h
theorem exp_long {first : List Pr} {l : List Er} {a : Int} (hm : mayP first l = true) (ha : named first l a) (hn : ∀ a', named first l a' → a' = a) (hk : keyE a first l = 10) {b : Bool} {k er : Int} (h : ExP first l b k er) : b = false ∧ k = 0 ∧ er = 10 := by
  rcases h with ⟨h, _⟩ | ⟨_, ⟨a', h1, h2, _, h3, h4, h5⟩ | ⟨a', h1, h2, _⟩ | ⟨h1, _⟩⟩
  · rw [hm] at h; cases h
  · exact ⟨h3, h4, by rw [h5, hn a' h1, hk]⟩
  · rw [hn a' h1, hk] at h2; cases h2
  · have := (h1 a ha).1; rw [hk] at this; cases this
theorem exp_torn {first : List Pr} {l : List Er} (hm : mayP first l = true) (hn : ∀ a, ¬ named first l a) (ht : (l.any fun e => e.cs.any tornP) = true) {b : Bool} {k er : Int} (h : ExP first l b k er) : b = false ∧ k = 0 ∧ er = 0 := by
  rcases h with ⟨h, _⟩ | ⟨_, ⟨a', h1, _⟩ | ⟨a', h1, _⟩ | ⟨_, h1, h2, h3⟩⟩
  · rw [hm] at h; cases h
  · exact absurd h1 (hn _)
  · exact absurd h1 (hn _)
  · rw [ht] at h1; exact ⟨h1, h2, h3⟩
end Go.Proofs.Ytdmcakoaakinnaa
