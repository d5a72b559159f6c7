/-
  PLAIN: what a run's steps make of the lines that are its own.
-/
import Derived.Test.YtefgahcadfmmoaaRst
namespace Go.Proofs.Ytefgahcadfmmoaa
set_option linter.unusedVariables false

/-- a memory of noughts, behind the first k stores -/
def vsOf (N : Nat) (l : List (Int × Int)) (k : Nat) : List Int := lastIm (List.replicate N 0) (l.take k)
theorem vsOf_len (N : Nat) (l : List (Int × Int)) (k : Nat) : (vsOf N l k).length = N := by unfold vsOf; rw [lastIm_len, List.length_replicate]
theorem lastIm_app (is : List Int) (a b : List (Int × Int)) : lastIm is (a ++ b) = lastIm (lastIm is a) b := by unfold lastIm; rw [List.foldl_append]
theorem vsOf_add (N : Nat) (l : List (Int × Int)) {j k : Nat} (h : j ≤ k) : vsOf N l k = lastIm (vsOf N l j) ((l.take k).drop j) := by
  unfold vsOf
  rw [← lastIm_app]
  congr 1
  have : l.take j = (l.take k).take j := by rw [List.take_take, Nat.min_eq_left h]
  rw [this, List.take_append_drop]
theorem take_succ_e {l : List (Int × Int)} {k : Nat} (h : k < l.length) : l.take (k + 1) = l.take k ++ [(eK l k, eP l k)] := by
  rw [List.take_succ_eq_append_getElem h]
  congr 2
  unfold eK eP
  simp [List.getD_eq_getElem?_getD, List.getElem?_eq_getElem h]
theorem vsOf_succ (N : Nat) {l : List (Int × Int)} {k : Nat} (h : k < l.length) : vsOf N l (k + 1) = (vsOf N l k).set (eK l k / 8).toNat (eP l k) := by
  unfold vsOf
  rw [take_succ_e h, lastIm_app]
  rfl
/-- stores that may be, in lines that are P's -/
def LOk (P : Int → Prop) (N : Nat) (l : List (Int × Int)) : Prop := ∀ i, i < l.length → P (lineOf (eK l i)) ∧ 0 ≤ eK l i ∧ eK l i % 8 = 0 ∧ eK l i / 8 < (N : Int) ∧ 0 ≤ eP l i ∧ eP l i ≤ 18446744073709551615
theorem LOk.word {P : Int → Prop} {N : Nat} {l : List (Int × Int)} (h : LOk P N l) {i : Nat} (hi : i < l.length) : lnW (eK l i / 8).toNat = lineOf (eK l i) := by
  obtain ⟨_, h0, h8, hN, _⟩ := h i hi
  unfold lnW lineOf
  omega
/-- the same of the first K of them -/
def LOkK (P : Int → Prop) (N : Nat) (l : List (Int × Int)) (K : Nat) : Prop := ∀ i, i < K → P (lineOf (eK l i)) ∧ 0 ≤ eK l i ∧ eK l i % 8 = 0 ∧ eK l i / 8 < (N : Int) ∧ 0 ≤ eP l i ∧ eP l i ≤ 18446744073709551615
theorem LOkK.word {P : Int → Prop} {N K : Nat} {l : List (Int × Int)} (h : LOkK P N l K) {i : Nat} (hi : i < K) : lnW (eK l i / 8).toNat = lineOf (eK l i) := by
  obtain ⟨_, h0, h8, hN, _⟩ := h i hi
  unfold lnW lineOf
  omega
theorem mem_seg {l : List (Int × Int)} {j k : Nat} {p : Int × Int} (hp : p ∈ (l.take k).drop j) : ∃ i, j ≤ i ∧ i < k ∧ i < l.length ∧ p = (eK l i, eP l i) := by
  obtain ⟨n, hn, rfl⟩ := List.getElem_of_mem hp
  rw [List.length_drop, List.length_take] at hn
  refine ⟨j + n, by omega, by omega, by omega, ?_⟩
  rw [List.getElem_drop, List.getElem_take]
  unfold eK eP
  simp [List.getD_eq_getElem?_getD, List.getElem?_eq_getElem (show j + n < l.length by omega)]
def cur (l : List (Int × Int)) (k : Nat) : Int := lineOf (eK l (k - 1))
/-- of the lines that are P's: what is seen is as of k stores, what lasted as of j, and what is pending the rest -/
structure RI (P : Int → Prop) (N : Nat) (l : List (Int × Int)) (c k ph j : Nat) (M : MSt) : Prop where
  jk : j ≤ k
  g : ∀ i, j ≤ i → i < k → lineOf (eK l i) = cur l k
  im : ∀ i, i < N → P (lnW i) → M.is.getD i 0 = (vsOf N l j).getD i 0
  pe : ∀ a, P a → M.F a = if a = cur l k then (l.take k).drop j else []
  p0 : ph = 0 → (gEnd l k ∨ k = 0) → j = k
  p2 : ph = 2 → M.mk (cur l k) c = ((k - j : Nat) : Int)
  v : ∀ i, i < N → P (lnW i) → M.vs.getD i 0 = (vsOf N l k).getD i 0
  p1 : 1 ≤ ph → 1 ≤ k ∧ gEnd l k
  pl : ph ≤ 2
  kl : k ≤ l.length
  m : ∀ a, P a → ∀ d, d ≠ c → M.mk a d = 0
  lv : M.vs.length = N
  li : M.is.length = N
theorem seg_len (l : List (Int × Int)) {j k : Nat} (hj : j ≤ k) (hk : k ≤ l.length) : ((l.take k).drop j).length = k - j := by
  rw [List.length_drop, List.length_take]; omega
theorem lineOf_div {a b : Int} : lineOf a = lineOf b ↔ a / 64 = b / 64 := by unfold lineOf; omega
section
variable {P : Int → Prop} {N : Nat} {l : List (Int × Int)} {c k ph j : Nat} {M : MSt}
theorem RI.start (P : Int → Prop) (N : Nat) (l : List (Int × Int)) (c : Nat) (lo st fl fe : Int) : RI P N l c 0 0 0 ⟨List.replicate N 0, List.replicate N 0, fun _ _ => 0, fun _ => [], lo, st, fl, fe⟩ := by
  refine ⟨Nat.le_refl _, fun i _ h => absurd h (by omega), fun i _ _ => rfl, fun a _ => ?_, fun _ _ => rfl, fun h => absurd h (by omega), fun i _ _ => rfl, fun h => absurd h (by omega), by omega, Nat.zero_le _, fun _ _ _ _ => rfl, by simp, by simp⟩
  simp
theorem RI.stepK {K : Nat} (h : RI P N l c k ph j M) (hl : LOkK P N l K) {dd : Bool} {k' ph' : Nat} {ov ov' : Bool} {M' : MSt} (hs : StepR l c k ph ov M dd k' ph' ov' M') (hK : k' ≤ K) : ∃ j', RI P N l c k' ph' j' M' ∧ j ≤ j' := by
  cases hs with
  | over => exact ⟨j, h, Nat.le_refl _⟩
  | done => exact ⟨j, h, Nat.le_refl _⟩
  | store _ _ hk =>
    obtain ⟨hP, h0, h8, hN, _⟩ := hl k (by omega)
    have hcur : cur l (k + 1) = lineOf (eK l k) := by unfold cur; rw [Nat.add_sub_cancel]
    have hv : ∀ i, i < N → P (lnW i) → (M.vs.set (eK l k / 8).toNat (eP l k)).getD i 0 = (vsOf N l (k + 1)).getD i 0 := by
      intro i hi hp
      rw [vsOf_succ N hk, getD_set_eq, getD_set_eq, h.lv, vsOf_len, h.v i hi hp]
    have hph : ∀ q, (if gEnd l (k + 1) then 1 else 0) = q → q ≤ 1 ∧ (q = 0 → ¬ gEnd l (k + 1)) ∧ (1 ≤ q → gEnd l (k + 1)) := by
      rintro q rfl
      split
      · rename_i h; exact ⟨by omega, fun e => by omega, fun _ => h⟩
      · rename_i h; exact ⟨by omega, fun _ => h, fun e => by omega⟩
    obtain ⟨q, hq⟩ : ∃ q, (if gEnd l (k + 1) then 1 else 0) = q := ⟨_, rfl⟩
    rw [hq]
    obtain ⟨q1, q2, q3⟩ := hph q hq
    by_cases hsame : 0 < k ∧ eK l k / 64 = eK l (k - 1) / 64
    · have hcc : cur l (k + 1) = cur l k := by rw [hcur]; exact lineOf_div.2 hsame.2
      refine ⟨j, ⟨Nat.le_succ_of_le h.jk, fun i h1 h2 => ?_, h.im, fun a ha => ?_, fun e e2 => ?_, fun e => ?_, hv, fun e => ⟨by omega, q3 e⟩, by omega, hk, h.m, by rw [List.length_set]; exact h.lv, h.li⟩, Nat.le_refl _⟩
      · by_cases e : i = k
        · rw [e, hcur]
        · rw [hcc]; exact h.g i h1 (by omega)
      · show updF M.F _ _ a = _
        unfold updF
        rw [hcc, ← hcur, hcc]
        split
        · rename_i e
          rw [h.pe _ (by rw [← hcc, hcur]; exact hP), if_pos rfl, take_succ_e hk, List.drop_append_of_le_length (by rw [List.length_take]; have := h.jk; have := h.kl; omega)]
        · rename_i e
          rw [h.pe a ha, if_neg e]
      · exact absurd (e2.resolve_right (by omega)) (q2 e)
      · omega
    · have hjk : j = k := by
        by_cases h0 : k = 0
        · have := h.jk; omega
        · have hg : gEnd l k := .inr (fun e => hsame ⟨by omega, e⟩)
          exact h.p0 rfl (.inl hg)
      subst hjk
      refine ⟨j, ⟨by omega, fun i h1 h2 => ?_, h.im, fun a ha => ?_, fun e e2 => ?_, fun e => ?_, hv, fun e => ⟨by omega, q3 e⟩, by omega, hk, h.m, by rw [List.length_set]; exact h.lv, h.li⟩, Nat.le_refl _⟩
      · obtain rfl : i = j := by omega
        exact hcur.symm
      · show updF M.F _ _ a = _
        unfold updF
        have hnil : ∀ b, P b → M.F b = [] := fun b hb => by
          rw [h.pe b hb, List.drop_eq_nil_of_le (by rw [List.length_take]; omega)]; simp
        rw [hcur]
        split
        · rename_i e
          rw [hnil _ hP, take_succ_e hk, List.drop_append_of_le_length (by rw [List.length_take]; omega), List.drop_eq_nil_of_le (by rw [List.length_take]; omega)]
        · exact hnil a ha
      · exact absurd (e2.resolve_right (by omega)) (q2 e)
      · omega
  | flush kp _ hk =>
    refine ⟨j, ⟨h.jk, h.g, h.im, h.pe, fun e => absurd e (by omega), fun _ => ?_, h.v, fun _ => h.p1 (by omega), by omega, h.kl, fun a ha d hd => ?_, h.lv, h.li⟩, Nat.le_refl _⟩
    · have hcur : cur l (kp + 1) = lineOf (eK l kp) := by unfold cur; rw [Nat.add_sub_cancel]
      show updM M.mk _ _ (cur l (kp + 1)) c = _
      unfold updM mkS
      rw [hcur, if_pos rfl]
      simp only [if_true]
      rw [h.pe _ (hl kp (by omega)).1, if_pos hcur.symm, seg_len l h.jk h.kl]
    · show updM M.mk _ _ a d = 0
      unfold updM mkS
      split
      · simp only [if_neg hd]; exact h.m _ (hl kp (by omega)).1 d hd
      · exact h.m a ha d hd
  | fence _ _ mk' is' h1 h2 h3 h4 =>
    have hP : P (cur l k) := by
      have := h.p1 (by omega)
      have := h.kl
      exact (hl (k - 1) (by omega)).1
    have hmk := h.p2 rfl
    have hF : ∀ a, P a → FF M.F M.mk c a = [] := by
      intro a ha
      unfold FF
      rw [h.pe a ha]
      split
      · rename_i e
        rw [e, hmk, List.drop_eq_nil_of_le (by rw [seg_len l h.jk h.kl]; omega)]
      · simp
    refine ⟨k, ⟨Nat.le_refl _, fun i a b => absurd a (by omega), fun i hi hp => ?_, fun a ha => ?_, fun _ _ => rfl, fun e => absurd e (by omega), h.v, fun e => absurd e (by omega), by omega, h.kl, fun a ha d hd => ?_, h.lv, by rw [← h.li]; exact h3⟩, h.jk⟩
    · show is'.getD i 0 = _
      rw [h4]
      unfold imX
      rw [h.pe _ hp, vsOf_add N l h.jk]
      split
      · rename_i e
        rw [e, hmk, List.take_of_length_le (by rw [seg_len l h.jk h.kl]; omega)]
        exact lastIm_congr i _ _ _ (by rw [h.li, vsOf_len]) (h.im i hi hp)
      · rename_i e
        rw [List.take_nil, lastIm_other i _ (vsOf N l j) (fun p hp' e' => ?_)]
        · exact h.im i hi hp
        · obtain ⟨n, n1, n2, n3, rfl⟩ := mem_seg hp'
          refine e ?_
          rw [← h.g n n1 n2, ← hl.word (show n < K by omega)]
          exact congrArg lnW e'.symm
    · show FF M.F M.mk c a = _
      rw [hF a ha, List.drop_eq_nil_of_le (by rw [List.length_take]; omega)]
      simp
    · have := h1 a d
      rw [h.m a ha d hd] at this
      show mk' a d = 0
      omega
theorem StepR.le {dd : Bool} {k' ph' : Nat} {ov ov' : Bool} {M' : MSt} (hs : StepR l c k ph ov M dd k' ph' ov' M') (h : k ≤ l.length) : k' ≤ l.length := by
  cases hs <;> omega
theorem RI.step (h : RI P N l c k ph j M) (hl : LOk P N l) {dd : Bool} {k' ph' : Nat} {ov ov' : Bool} {M' : MSt} (hs : StepR l c k ph ov M dd k' ph' ov' M') : ∃ j', RI P N l c k' ph' j' M' ∧ j ≤ j' :=
  h.stepK (K := l.length) hl hs (hs.le h.kl)
/-- an eviction: so many stores of a line last -/
inductive EvR (a : Int) (q : Nat) (M : MSt) : MSt → Prop
  | mk (mk' : Int → Nat → Int) (h : ∀ b i, mk' b i = if b = a then (if (M.F a).drop q = [] then 0 else max (M.mk a i - min (q : Int) ((M.F a).length : Int)) 0) else M.mk b i) :
      EvR a q M { M with mk := mk', is := lastIm M.is ((M.F a).take q), F := updF M.F a ((M.F a).drop q) }
theorem RI.evict (h : RI P N l c k ph j M) (hl : LOk P N l) (hok : LnOk M.F N) {a : Int} {q : Nat} {M' : MSt} (he : EvR a q M M') : ∃ j', RI P N l c k ph j' M' ∧ j ≤ j' := by
  obtain ⟨mk', hmk⟩ := he
  have hoth : ∀ i, i < N → P (lnW i) → lnW i ≠ a → (lastIm M.is ((M.F a).take q)).getD i 0 = M.is.getD i 0 := fun i hi hp hne =>
    lastIm_other i _ _ (fun p hp' e => hne (by rw [← e]; exact hok.word (List.mem_of_mem_take hp')))
  have hm0 : ∀ b, P b → ∀ d, d ≠ c → mk' b d = 0 := by
    intro b hb d hd
    rw [hmk]
    split
    · rename_i e
      rw [← e, h.m b hb d hd]
      split <;> omega
    · exact h.m b hb d hd
  by_cases hc : P a ∧ a = cur l k
  · obtain ⟨hPa, rfl⟩ := hc
    have hF : M.F (cur l k) = (l.take k).drop j := by rw [h.pe _ hPa, if_pos rfl]
    have hlen : (M.F (cur l k)).length = k - j := by rw [hF, seg_len l h.jk h.kl]
    refine ⟨min (j + q) k, ⟨Nat.min_le_right _ _, fun i h1 h2 => h.g i (by have := h.jk; omega) h2, fun i hi hp => ?_, fun b hb => ?_, fun e1 e2 => ?_, fun e => ?_, h.v, h.p1, h.pl, h.kl, hm0, h.lv, by show (lastIm _ _).length = N; rw [lastIm_len]; exact h.li⟩, by have := h.jk; omega⟩
    · show (lastIm M.is ((M.F (cur l k)).take q)).getD i 0 = _
      have e1 : vsOf N l (min (j + q) k) = lastIm (vsOf N l j) (((l.take k).drop j).take q) := by
        have hjk := h.jk
        rw [vsOf_add N l (show j ≤ min (j + q) k by omega)]
        congr 1
        rw [List.take_drop, List.take_take]
      rw [hF, e1]
      exact lastIm_congr i _ _ _ (by rw [h.li, vsOf_len]) (h.im i hi hp)
    · show updF M.F _ _ b = _
      unfold updF
      split
      · rename_i e
        rw [hF, List.drop_drop]
        by_cases hjq : j + q ≤ k
        · rw [Nat.min_eq_left hjq]
        · rw [Nat.min_eq_right (by omega), List.drop_eq_nil_of_le (by rw [List.length_take]; omega), List.drop_eq_nil_of_le (by rw [List.length_take]; omega)]
      · rename_i e
        rw [h.pe b hb, if_neg e]
    · have := h.p0 e1 e2; omega
    · show mk' (cur l k) c = _
      rw [hmk, if_pos rfl, h.p2 e, hlen]
      have hd : ((M.F (cur l k)).drop q = []) ↔ k - j ≤ q := by rw [List.drop_eq_nil_iff, hlen]
      have := h.jk
      split
      · rename_i e2; rw [hd] at e2; omega
      · rename_i e2; rw [hd] at e2; omega
  · refine ⟨j, ⟨h.jk, h.g, fun i hi hp => ?_, fun b hb => ?_, h.p0, fun e => ?_, h.v, h.p1, h.pl, h.kl, hm0, h.lv, by show (lastIm _ _).length = N; rw [lastIm_len]; exact h.li⟩, Nat.le_refl _⟩
    · show (lastIm M.is ((M.F a).take q)).getD i 0 = _
      by_cases e : lnW i = a
      · subst e
        have : M.F (lnW i) = [] := by rw [h.pe _ hp, if_neg (fun e => hc ⟨hp, e⟩)]
        rw [this]
        simpa [lastIm] using h.im i hi hp
      · rw [hoth i hi hp e]; exact h.im i hi hp
    · show updF M.F a _ b = _
      unfold updF
      split
      · rename_i e
        subst e
        have : M.F b = [] := by rw [h.pe _ hb, if_neg (fun e => hc ⟨hb, e⟩)]
        rw [this, if_neg (fun e => hc ⟨hb, e⟩)]
        simp
      · exact h.pe b hb
    · show mk' (cur l k) c = _
      have hP : P (cur l k) := by
        have := h.p1 (by omega)
        have := h.kl
        exact (hl (k - 1) (by omega)).1
      rw [hmk, if_neg (fun e => hc ⟨by rw [← e]; exact hP, e.symm⟩)]
      exact h.p2 e
/-- another run's step, in lines that are not P's -/
theorem RI.other {Q : Int → Prop} {l2 : List (Int × Int)} {d k2 ph2 : Nat} (h : RI P N l c k ph j M) (hl : LOk P N l) (hl2 : LOk Q N l2) (hPQ : ∀ a, P a → ¬ Q a) (hd : d ≠ c) (h2k : k2 ≤ l2.length) {dd : Bool} {k' ph' : Nat} {ov ov' : Bool} {M' : MSt}
    (hs : StepR l2 d k2 ph2 ov M dd k' ph' ov' M') : RI P N l c k ph j M' := by
  cases hs with
  | over => exact h
  | done => exact h
  | store _ _ hk =>
    obtain ⟨hQ, h0, h8, hN, _⟩ := hl2 k2 hk
    refine ⟨h.jk, h.g, h.im, fun a ha => ?_, h.p0, h.p2, fun i hi hp => ?_, h.p1, h.pl, h.kl, h.m, by show (M.vs.set _ _).length = N; rw [List.length_set]; exact h.lv, h.li⟩
    · show updF M.F _ _ a = _
      unfold updF
      rw [if_neg (fun e => hPQ a ha (by rw [e]; exact hQ))]
      exact h.pe a ha
    · show (M.vs.set _ _).getD i 0 = _
      rw [getD_set_eq, if_neg (fun e => hPQ _ hp (by rw [← e.1, hl2.word hk]; exact hQ))]
      exact h.v i hi hp
  | flush kp _ hk =>
    have hQ := (hl2 kp hk).1
    have hne : ∀ a, P a → updM M.mk (lineOf (eK l2 kp)) (mkS (M.mk (lineOf (eK l2 kp))) d (M.F (lineOf (eK l2 kp))).length) a = M.mk a := fun a ha => by
      unfold updM
      rw [if_neg (fun e => hPQ a ha (by rw [e]; exact hQ))]
    refine ⟨h.jk, h.g, h.im, h.pe, h.p0, fun e => ?_, h.v, h.p1, h.pl, h.kl, fun a ha i hi => ?_, h.lv, h.li⟩
    · have hP : P (cur l k) := by
        have := h.p1 (by omega)
        have := h.kl
        exact (hl (k - 1) (by omega)).1
      show updM _ _ _ (cur l k) c = _
      rw [hne _ hP]; exact h.p2 e
    · show updM _ _ _ a i = 0
      rw [hne a ha]; exact h.m a ha i hi
  | fence _ _ mk' is' h1 h2 h3 h4 =>
    have hz : ∀ a, P a → M.mk a d = 0 := fun a ha => h.m a ha d hd
    have hF : ∀ a, P a → FF M.F M.mk d a = M.F a := fun a ha => by unfold FF; rw [hz a ha]; simp
    refine ⟨h.jk, h.g, fun i hi hp => ?_, fun a ha => ?_, h.p0, fun e => ?_, h.v, h.p1, h.pl, h.kl, fun a ha i hi => ?_, h.lv, by rw [← h.li]; exact h3⟩
    · show is'.getD i 0 = _
      rw [h4]
      unfold imX
      rw [hz _ hp]
      exact h.im i hi hp
    · show FF M.F M.mk d a = _
      rw [hF a ha]; exact h.pe a ha
    · have hP : P (cur l k) := by
        have := h.p1 (by omega)
        have := h.kl
        exact (hl (k - 1) (by omega)).1
      show mk' (cur l k) c = _
      have hp2 := h.p2 e
      by_cases hnil : M.F (cur l k) = []
      · have hb := h1 (cur l k) c
        have hjk : k - j = 0 := by rw [h.pe _ hP, if_pos rfl] at hnil; rw [← seg_len l h.jk h.kl, hnil]; rfl
        omega
      · rw [h2 _ hnil]
        unfold mkX
        rw [hF _ hP, if_neg hnil, hz _ hP]
        omega
    · have := h1 a i
      rw [h.m a ha i hi] at this
      show mk' a i = 0
      omega
end
end Go.Proofs.Ytefgahcadfmmoaa
