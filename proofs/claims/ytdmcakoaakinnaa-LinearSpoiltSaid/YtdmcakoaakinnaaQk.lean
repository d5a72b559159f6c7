/-
  PLAIN: which states an era comes to, call by call, and what values a key may have behind it.
-/
import Derived.Test.YtdmcakoaakinnaaQa
namespace Go.Proofs.Ytdmcakoaakinnaa
open Go.RowKit
set_option linter.unusedVariables false
set_option linter.unusedSimpArgs false

/-- the call i may be done next, and is answered as it was -/
structure StepA (l : List Dn) (s : St) (i : Nat) (n : St) : Prop where
  lt : i < l.length
  un : s.dn.testBit i = false
  fr : ∀ k, k < l.length → s.dn.testBit k = false → aheadP (l.getD k dnZ) (l.getD i dnZ) = false
  ok : rightS s (l.getD i dnZ) = true
  eq : n = afterS s i (l.getD i dnZ)
inductive Reach (l : List Dn) : St → St → Prop
  | refl (s : St) : Reach l s s
  | step {s n t : St} {i : Nat} (h : StepA l s i n) (r : Reach l n t) : Reach l s t
def WholeS (l : List Dn) (s : St) : Prop := ∀ i, i < l.length → s.dn.testBit i = false → (l.getD i dnZ).en < 0
def ensS (s : St) : St := ⟨0, s.is, s.v⟩
def Complete (l : List Dn) (t : St) (O : List St) : Prop := ∀ u, Reach l t u → WholeS l u → ensS u ∈ O
theorem Reach.trans {l : List Dn} {a b c : St} (h : Reach l a b) (h' : Reach l b c) : Reach l a c := by
  induction h with
  | refl => exact h'
  | step h _ ih => exact .step h (ih h')
theorem Complete.mono {l : List Dn} {t : St} {O O' : List St} (h : Complete l t O) (hO : ∀ x, x ∈ O → x ∈ O') : Complete l t O' := fun u hu hw => hO _ (h u hu hw)
theorem afterS_dn (s : St) (i : Nat) (d : Dn) : (afterS s i d).dn = s.dn ||| 1 <<< i := by
  unfold afterS
  split
  · rfl
  · split <;> rfl
theorem or_bit_gt {m i : Nat} (h : m.testBit i = false) : m < m ||| 1 <<< i := by
  have h1 : m ≤ m ||| 1 <<< i := Nat.left_le_or
  have h2 : m ≠ m ||| 1 <<< i := fun e => by
    have h3 : (m ||| 1 <<< i).testBit i = true := by
      rw [Nat.testBit_or, Nat.one_shiftLeft, Nat.testBit_two_pow_self]; simp
    rw [← e, h] at h3
    cases h3
  omega
theorem StepA.gt {l : List Dn} {s n : St} {i : Nat} (h : StepA l s i n) : s.dn < n.dn := by
  rw [h.eq, afterS_dn]; exact or_bit_gt h.un
theorem Reach.ge {l : List Dn} {s t : St} (h : Reach l s t) : s.dn ≤ t.dn := by
  induction h with
  | refl => exact Nat.le_refl _
  | step h _ ih => have := h.gt; omega
/-- strings are what Go's may be -/
def DnV (d : Dn) : Prop := d.val.size ≤ maxLen
theorem afterS_ok {l : List Dn} {s n : St} {i : Nat} (h : StepA l s i n) (hl : l.length ≤ 64) (hv : ∀ d ∈ l, DnV d) (h1 : s.dn < 18446744073709551616) (h2 : s.v.size ≤ maxLen) : n.dn < 18446744073709551616 ∧ n.v.size ≤ maxLen := by
  refine ⟨?_, ?_⟩
  · rw [h.eq, afterS_dn, Nat.one_shiftLeft]
    have hi := h.lt
    have : (2 : Nat) ^ i < 2 ^ 64 := Nat.pow_lt_pow_right (by omega) (by omega)
    exact Nat.or_lt_two_pow (n := 64) h1 this
  · rw [h.eq]
    unfold afterS
    split
    · exact hv _ (getD_memL l i dnZ h.lt)
    · split
      · show 0 ≤ _; omega
      · exact h2
theorem Reach.ok {l : List Dn} {s t : St} (h : Reach l s t) (hl : l.length ≤ 64) (hv : ∀ d ∈ l, DnV d) (h1 : s.dn < 18446744073709551616) (h2 : s.v.size ≤ maxLen) : t.dn < 18446744073709551616 ∧ t.v.size ≤ maxLen := by
  induction h with
  | refl => exact ⟨h1, h2⟩
  | step h _ ih =>
    obtain ⟨a, b⟩ := afterS_ok h hl hv h1 h2
    exact ih a b
/-- what is known behind a call of 'from' at s -/
structure DfsP (l : List Dn) (s : St) (V O V' O' : List St) : Prop where
  v : ∀ t ∈ V, t ∈ V'
  m : s ∈ V'
  o : ∀ t ∈ O, t ∈ O'
  c : ∀ t ∈ V', t ∈ V ∨ Complete l t O'
  sv : ∀ t ∈ V', t ∈ V ∨ Reach l s t
  so : ∀ t ∈ O', t ∈ O ∨ ∃ u, Reach l s u ∧ WholeS l u ∧ t = ensS u
/-- .. and within its loop, i calls in -/
structure DfsI (l : List Dn) (s : St) (V O V' O' : List St) (i : Nat) (wh : Bool) : Prop where
  v : ∀ t ∈ V, t ∈ V'
  m : s ∈ V'
  o : ∀ t ∈ O, t ∈ O'
  c : ∀ t ∈ V', t ∈ V ∨ t = s ∨ Complete l t O'
  sv : ∀ t ∈ V', t ∈ V ∨ Reach l s t
  so : ∀ t ∈ O', t ∈ O ∨ ∃ u, Reach l s u ∧ WholeS l u ∧ t = ensS u
  n : ∀ j, j < i → ∀ t, StepA l s j t → t ∈ V'
  w : wh = true ↔ ∀ j, j < i → s.dn.testBit j = false → (l.getD j dnZ).en < 0
/-- what 'from' asks for: whatever was seen, and is not ahead, is through -/
def DfsH (l : List Dn) (s : St) (V O : List St) : Prop := ∀ t ∈ V, s.dn ≤ t.dn → Complete l t O
theorem DfsI.start {l : List Dn} {s : St} {V O : List St} : DfsI l s V O (s :: V) O 0 true :=
  ⟨fun t h => List.mem_cons_of_mem _ h, List.mem_cons_self, fun t h => h, fun t h => by
    rcases List.mem_cons.1 h with rfl | h
    · exact .inr (.inl rfl)
    · exact .inl h, fun t h => by
    rcases List.mem_cons.1 h with rfl | h
    · exact .inr (.refl _)
    · exact .inl h, fun t h => .inl h, fun j hj => by omega, ⟨fun _ j hj => by omega, fun _ => rfl⟩⟩
section
variable {l : List Dn} {s : St} {V O V' O' : List St} {i : Nat} {wh : Bool}
/-- a call that was done -/
theorem DfsI.done (h : DfsI l s V O V' O' i wh) (hb : s.dn.testBit i = true) : DfsI l s V O V' O' (i + 1) wh := by
  refine ⟨h.v, h.m, h.o, h.c, h.sv, h.so, fun j hj t ht => ?_, ?_⟩
  · by_cases e : j = i
    · subst e; have := ht.un; rw [hb] at this; cases this
    · exact h.n j (by omega) t ht
  · rw [h.w]
    refine ⟨fun hw j hj hu => ?_, fun hw j hj hu => hw j (by omega) hu⟩
    by_cases e : j = i
    · subst e; rw [hb] at hu; cases hu
    · exact hw j (by omega) hu
theorem DfsI.wh' (h : DfsI l s V O V' O' i wh) (hb : s.dn.testBit i = false) : (wh && decide ((l.getD i dnZ).en < 0)) = true ↔ ∀ j, j < i + 1 → s.dn.testBit j = false → (l.getD j dnZ).en < 0 := by
  rw [Bool.and_eq_true, decide_eq_true_iff, h.w]
  refine ⟨fun ⟨h1, h2⟩ j hj hu => ?_, fun hw => ⟨fun j hj hu => hw j (by omega) hu, hw i (by omega) hb⟩⟩
  by_cases e : j = i
  · subst e; exact h2
  · exact h1 j (by omega) hu
/-- one that may not be done next -/
theorem DfsI.skip (h : DfsI l s V O V' O' i wh) (hb : s.dn.testBit i = false) (hn : ∀ t, ¬ StepA l s i t) : DfsI l s V O V' O' (i + 1) (wh && decide ((l.getD i dnZ).en < 0)) := by
  refine ⟨h.v, h.m, h.o, h.c, h.sv, h.so, fun j hj t ht => ?_, h.wh' hb⟩
  by_cases e : j = i
  · subst e; exact absurd ht (hn t)
  · exact h.n j (by omega) t ht
/-- what the next one asks for -/
theorem DfsI.ask (h : DfsI l s V O V' O' i wh) (hH : DfsH l s V O) {n : St} (hs : StepA l s i n) : DfsH l n V' O' := fun t ht hle => by
  have hg := hs.gt
  rcases h.c t ht with h1 | rfl | h1
  · exact (hH t h1 (by omega)).mono h.o
  · omega
  · exact h1
/-- one that was gone to -/
theorem DfsI.next (h : DfsI l s V O V' O' i wh) {n : St} (hs : StepA l s i n) {V2 O2 : List St} (hd : DfsP l n V' O' V2 O2) : DfsI l s V O V2 O2 (i + 1) (wh && decide ((l.getD i dnZ).en < 0)) := by
  refine ⟨fun t ht => hd.v t (h.v t ht), hd.v _ h.m, fun t ht => hd.o t (h.o t ht), fun t ht => ?_, fun t ht => ?_, fun t ht => ?_, fun j hj t ht => ?_, h.wh' hs.un⟩
  · rcases hd.c t ht with h1 | h1
    · rcases h.c t h1 with h2 | h2 | h2
      · exact .inl h2
      · exact .inr (.inl h2)
      · exact .inr (.inr (h2.mono hd.o))
    · exact .inr (.inr h1)
  · rcases hd.sv t ht with h1 | h1
    · exact h.sv t h1
    · exact .inr (.step hs h1)
  · rcases hd.so t ht with h1 | ⟨u, h1, h2, h3⟩
    · exact h.so t h1
    · exact .inr ⟨u, .step hs h1, h2, h3⟩
  · by_cases e : j = i
    · subst e
      have : t = n := by rw [ht.eq, hs.eq]
      rw [this]; exact hd.m
    · exact hd.v t (h.n j (by omega) t ht)
/-- the end: where the era may end here, the key's value is put in -/
theorem DfsI.last (h : DfsI l s V O V' O' l.length wh) (hH : DfsH l s V O) (hsV : s ∉ V) {O2 : List St} (hO : ∀ t, t ∈ O2 ↔ (t ∈ O' ∨ (wh = true ∧ t = ensS s))) : DfsP l s V O V' O2 := by
  have hsub : ∀ t, t ∈ O' → t ∈ O2 := fun t ht => (hO t).2 (.inl ht)
  have hcs : Complete l s O2 := fun u hu hw => by
    cases hu with
    | refl => exact (hO _).2 (.inr ⟨h.w.2 (fun j hj hb => hw j hj hb), rfl⟩)
    | @step _ n _ j hs hr =>
      have hn := h.n j hs.lt n hs
      rcases h.c n hn with h1 | h1 | h1
      · have := hH n h1 (by have := hs.gt; omega)
        exact hsub _ (h.o _ (this u hr hw))
      · have := hs.gt; rw [h1] at this; omega
      · exact hsub _ (h1 u hr hw)
  refine ⟨h.v, h.m, fun t ht => hsub t (h.o t ht), fun t ht => ?_, h.sv, fun t ht => ?_⟩
  · rcases h.c t ht with h1 | rfl | h1
    · exact .inl h1
    · exact .inr hcs
    · exact .inr (h1.mono hsub)
  · rcases (hO t).1 ht with h1 | ⟨h1, rfl⟩
    · exact h.so t h1
    · exact .inr ⟨s, .refl _, fun j hj hb => h.w.1 h1 j hj hb, rfl⟩
end
theorem DfsP.seen {l : List Dn} {s : St} {V O : List St} (h : s ∈ V) : DfsP l s V O V O := ⟨fun t h => h, h, fun t h => h, fun t h => .inl h, fun t h => .inl h, fun t h => .inl h⟩
/-- all values that a key may have behind an era -/
def EndsP (l : List Dn) (s t : St) : Prop := ∃ u, Reach l s u ∧ WholeS l u ∧ t = ensS u
theorem DfsP.all {l : List Dn} {s : St} {V' O' : List St} (h : DfsP l s [] [] V' O') : ∀ t, t ∈ O' ↔ EndsP l s t := fun t => by
  constructor
  · intro ht
    rcases h.so t ht with h1 | h1
    · cases h1
    · exact h1
  · rintro ⟨u, h1, h2, rfl⟩
    rcases h.c s h.m with h3 | h3
    · cases h3
    · exact h3 u h1 h2
end Go.Proofs.Ytdmcakoaakinnaa
