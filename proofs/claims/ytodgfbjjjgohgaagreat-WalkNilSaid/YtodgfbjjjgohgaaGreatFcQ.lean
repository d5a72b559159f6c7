/-
  pmem.Mem.Fence: a contract.
-/
import Derived.Test.YtodgfbjjjgohgaaGreatFlQ
import Derived.Shelf.SlMaps.Clone
import Derived.Maps.RangeWalk
namespace Go.Proofs.YtodgfbjjjgohgaaGreat
open Go.RowKit Go.Maps
set_option linter.unusedVariables false

theorem same_u64' (a x : Int) : (Lit.int .u64 a).sameKey (.int .u64 x) = decide (a = x) := by simp [Lit.sameKey]
/-! ### plain: words of the image -/
def lnW (k : Nat) : Int := lineOf (8 * (k : Int))
theorem lastIm_cons (is : List Int) (p : Int × Int) (l : List (Int × Int)) : lastIm is (p :: l) = lastIm (is.set (p.1 / 8).toNat p.2) l := rfl
theorem getD_set_eq (is : List Int) (i k : Nat) (x : Int) : (is.set i x).getD k 0 = if i = k ∧ i < is.length then x else is.getD k 0 := by
  simp only [List.getD_eq_getElem?_getD, List.getElem?_set]
  by_cases h : i = k
  · subst h
    by_cases h2 : i < is.length
    · simp [h2]
    · simp [h2]
  · simp [h]
theorem lastIm_congr (k : Nat) : ∀ (l : List (Int × Int)) (is i2 : List Int), is.length = i2.length → is.getD k 0 = i2.getD k 0 → (lastIm is l).getD k 0 = (lastIm i2 l).getD k 0
  | [], _, _, _, h => h
  | p :: l, is, i2, hl, h => by
    rw [lastIm_cons, lastIm_cons]
    refine lastIm_congr k l _ _ (by simpa using hl) ?_
    rw [getD_set_eq, getD_set_eq, hl, h]
theorem lastIm_other (k : Nat) : ∀ (l : List (Int × Int)) (is : List Int), (∀ p ∈ l, (p.1 / 8).toNat ≠ k) → (lastIm is l).getD k 0 = is.getD k 0
  | [], _, _ => rfl
  | p :: l, is, h => by
    rw [lastIm_cons, lastIm_other k l _ (fun q hq => h q (List.mem_cons_of_mem _ hq)), getD_set_eq, if_neg (fun e => h p (List.mem_cons_self) e.1)]

/-- stores that lie where they should -/
def LnOk (F : Int → List (Int × Int)) (n : Nat) : Prop := ∀ a p, p ∈ F a → lineOf p.1 = a ∧ 0 ≤ p.1 ∧ p.1 / 8 < (n : Int)
theorem LnOk.word {F : Int → List (Int × Int)} {n : Nat} (h : LnOk F n) {a : Int} {p : Int × Int} (hp : p ∈ F a) : lnW (p.1 / 8).toNat = a := by
  obtain ⟨h1, h2, h3⟩ := h a p hp
  unfold lnW
  rw [← h1]
  unfold lineOf
  omega

section
variable {w w' : World} {N0 mb : Nat} {vs is : List Int} {vv vi : Value} {ml n : Nat} {D : DataW Value} {sl : Int → Value} {mk : Int → Nat → Int} {F : Int → List (Int × Int)} {lo st fl fe : Int}
theorem MemC.kept {S : Nat → Prop} (h : MemC w N0 mb vs is vv vi ml n D sl mk F lo st fl fe) (hk : Keeps S w w') (h1 : ∀ i, i < N0 → ¬ S i) (h2 : ∀ a i, (sl a).ownBlock = some i → ¬ S i) : MemC w' N0 mb vs is vv vi ml n D sl mk F lo st fl fe :=
  ⟨h.m.kept hk (fun i hi => h1 i (h.lt i (by rcases hi with h | h | h; exact .inl h; exact .inr (.inr (.inl h)); exact .inr (.inr (.inr h))))),
   ownL_keeps h.o hk (h1 ml (h.lt ml (.inr (.inl rfl)))), h.e, fun a => (h.r a).keeps hk (fun i hi => h2 a i hi), h.d, h.lt, h.x, h.xv⟩
theorem RowC.isCells {s : Value} {l : List (Int × Int)} (h : RowC w N0 s l) {i : Nat} (hi : s.ownBlock = some i) : ∃ C, w.heap[i]? = some (.cells C 56 (0, 0)) := by
  rcases h with h | ⟨g, o, cs, rfl, _, _, hh, _⟩
  · exact own_type h hi
  · cases hi; exact ⟨cs, hh⟩
end
section
variable (w : World) {ops : Array Oper} {rest : List Oper} {o : Oper} {a : Act} {Q : Exit → Act → World → Prop}
end

/-- what is left of a line's stores, its marks, where a client fences -/
def FF (F : Int → List (Int × Int)) (mk : Int → Nat → Int) (c : Nat) (a : Int) : List (Int × Int) := (F a).drop (mk a c).toNat
def mkX (F : Int → List (Int × Int)) (mk : Int → Nat → Int) (c : Nat) (a : Int) (i : Nat) : Int := if FF F mk c a = [] then 0 else max (mk a i - min (mk a c) ((F a).length : Int)) 0
def imX (is : List Int) (F : Int → List (Int × Int)) (mk : Int → Nat → Int) (c : Nat) (k : Nat) : Int := (lastIm is ((F (lnW k)).take (mk (lnW k) c).toNat)).getD k 0
/-- where the loop stands: what is left is as it was, else it is done -/
structure FenI (w6 : World) (N0 mb : Nat) (vs is : List Int) (vv vi : Value) (ml n : Nat) (D : DataW Value) (sl : Int → Value) (mk : Int → Nat → Int) (F : Int → List (Int × Int)) (lo st fl fe : Int) (c : Nat) (left : Lit → Bool) (cnt : Nat) (wr : World)
    (n' : Nat) (D' : DataW Value) (sl' : Int → Value) (mk' : Int → Nat → Int) (F' : Int → List (Int × Int)) (is' : List Int) : Prop where
  m : MemC wr N0 mb vs is' vv vi ml n' D' sl' mk' F' lo st fl fe
  n : n' + cnt ≤ 2 * n
  f : ∀ a, F' a = if left (.int .u64 a) = true then F a else FF F mk c a
  l : ∀ a, left (.int .u64 a) = true → mk' a = mk a
  b : ∀ a i, 0 ≤ mk' a i ∧ mk' a i ≤ mk a i
  k : ∀ a, F a ≠ [] → left (.int .u64 a) = false → ∀ i, mk' a i = mkX F mk c a i
  s : is'.length = is.length
  i : ∀ k, is'.getD k 0 = if left (.int .u64 (lnW k)) = true then is.getD k 0 else imX is F mk c k
  o : ∀ a i, (sl' a).ownBlock = some i → (sl a).ownBlock = some i
  h : ∀ a, Maps.has D' (.int .u64 a) = true → F' a ≠ []
  p : Keeps (fun i => i = ml ∨ vi.ownBlock = some i ∨ w6.heap.size ≤ i) w6 wr
theorem FenI.step {w6 w3 w4 : World} {N0 mb : Nat} {vs is : List Int} {vv vi : Value} {ml n : Nat} {D : DataW Value} {sl : Int → Value} {mk : Int → Nat → Int} {F : Int → List (Int × Int)} {lo st fl fe : Int} {c : Nat} {left : Lit → Bool} {cnt : Nat}
    {n' : Nat} {D' : DataW Value} {sl' : Int → Value} {mk' : Int → Nat → Int} {F' : Int → List (Int × Int)} {is' : List Int} (hI : FenI w6 N0 mb vs is vv vi ml n D sl mk F lo st fl fe c left cnt w3 n' D' sl' mk' F' is')
    (hok : LnOk F is.length) (hmk : ∀ a i, 0 ≤ mk a i) {x : Int} (hlk : left (.int .u64 x) = true) {cnt2 : Nat} (hlt : cnt2 < cnt) {e : Ending} (hK : LastK w3 N0 mb vs is' vv vi ml n' D' sl' mk' F' lo st fl fe x (mk x c) e w4) :
    e = .returned (.int .i64 (min (mk x c) ((F x).length : Int))) ∧ ∃ n'' D'' sl'' mk'' F'' is'', FenI w6 N0 mb vs is vv vi ml n D sl mk F lo st fl fe c (fun z => left z && !z.sameKey (.int .u64 x)) cnt2 w4 n'' D'' sl'' mk'' F'' is'' := by
  obtain ⟨he, s', f', D'', hm, hf, hk, hs, hh⟩ := hK
  have fx : F' x = F x := by rw [hI.f x, if_pos hlk]
  have mx : mk' x = mk x := hI.l x hlk
  rw [fx] at he hm hf hh
  rw [mx] at hf
  have hL : ∀ a, ((left (.int .u64 a) && !(Lit.int .u64 a).sameKey (.int .u64 x)) = true) ↔ (left (.int .u64 a) = true ∧ a ≠ x) := fun a => by
    rw [same_u64']; simp
  have hL2 : ∀ a, ((left (.int .u64 a) && !(Lit.int .u64 a).sameKey (.int .u64 x)) = false) ↔ (left (.int .u64 a) = false ∨ a = x) := fun a => by
    rw [same_u64']; simp; exact ⟨fun h => by cases hl : left (.int .u64 a); exact .inl rfl; exact .inr (h hl), fun h hl => by rcases h with h | h; rw [h] at hl; cases hl; exact h⟩
  refine ⟨he, n' + 1, D'', _, _, _, _, hm, by have := hI.n; omega, fun a => ?_, fun a ha => ?_, fun a i => ?_, fun a hne ha i => ?_, by rw [lastIm_len]; exact hI.s, fun k => ?_, fun a i hi => ?_, fun a ha => ?_, ?_⟩
  · unfold updF
    by_cases e : a = x
    · subst e
      rw [if_pos rfl, if_neg (fun h => ((hL a).1 h).2 rfl)]; rfl
    · rw [if_neg e, hI.f a]
      by_cases h : left (.int .u64 a) = true
      · rw [if_pos h, if_pos ((hL a).2 ⟨h, e⟩)]
      · rw [if_neg h, if_neg (fun h2 => h ((hL a).1 h2).1)]
  · obtain ⟨h1, h2⟩ := (hL a).1 ha
    simp only [if_neg h2]
    exact hI.l a h1
  · by_cases e : a = x
    · subst e
      simp only [if_true]
      rw [hf i]
      have := hmk a i
      have := hmk a c
      split <;> omega
    · simp only [if_neg e]; exact hI.b a i
  · by_cases e : a = x
    · subst e
      simp only [if_true]
      rw [hf i]; rfl
    · simp only [if_neg e]
      rcases (hL2 a).1 ha with h | h
      · exact hI.k a hne h i
      · exact absurd h e
  · have hx : ∀ p ∈ (F x).take (mk x c).toNat, lnW (p.1 / 8).toNat = x := fun p hp => hok.word (List.mem_of_mem_take hp)
    by_cases e : lnW k = x
    · rw [if_neg (fun h => ((hL _).1 h).2 e)]
      unfold imX
      rw [e]
      refine lastIm_congr k _ _ _ hI.s ?_
      rw [hI.i k, e, if_pos hlk]
    · rw [lastIm_other k _ _ (fun p hp h2 => e (by rw [← h2]; exact hx p hp)), hI.i k]
      by_cases h : left (.int .u64 (lnW k)) = true
      · rw [if_pos h, if_pos ((hL _).2 ⟨h, e⟩)]
      · rw [if_neg h, if_neg (fun h2 => h ((hL _).1 h2).1)]
  · unfold updV at hi
    by_cases e : a = x
    · rw [if_pos e] at hi
      rw [e]
      exact hI.o x i (hs i hi)
    · rw [if_neg e] at hi
      exact hI.o a i hi
  · rw [hh a] at ha
    unfold updF
    by_cases e : a = x
    · rw [if_pos e] at ha ⊢
      exact of_decide_eq_true ha
    · rw [if_neg e] at ha ⊢
      exact hI.h a ha
  · exact hI.p.trans (hk.mono (fun i _ h => by
      rcases h with h | h | h
      · exact .inl h
      · exact .inr (.inl h)
      · exact .inr (.inr (Nat.le_trans hI.p.size h))))
end Go.Proofs.YtodgfbjjjgohgaaGreat
