/-
  ONE RUN, and what others keep: its state through steps, above a world W where the memory's blocks were S0.
-/
import Derived.Test.YtefgahcadfmmoaaRim
namespace Go.Proofs.Ytefgahcadfmmoaa
open Go.RowKit
set_option linter.unusedVariables false

structure OneK (S0 : Nat → Prop) (W w : World) (rb mb N : Nat) (l : List (Int × Int)) (c k ph : Nat) (ov : Bool) (lo st fl fe : Int) : Prop where
  o : ∃ S j M, RnO w rb mb S l c k ph ov ∧ MemD w mb S M ∧ RI AllL N l c k ph j M ∧ M.lo = lo ∧ M.st = st ∧ M.fl = fl ∧ M.fe = fe ∧ ∀ i, S i → S0 i ∨ W.heap.size ≤ i
  b : Keeps (fun i => i = rb ∨ S0 i) W w
section
variable {S0 : Nat → Prop} {W w : World} {rb mb N : Nat} {l : List (Int × Int)} {c k ph : Nat} {ov : Bool} {lo st fl fe : Int}
theorem OneK.mono {w' : World} (h : OneK S0 W w rb mb N l c k ph ov lo st fl fe) (hB : Below w.heap.size w w') : OneK S0 W w' rb mb N l c k ph ov lo st fl fe := by
  obtain ⟨⟨S, j, M, hR, hM, hI, e1, e2, e3, e4, hS⟩, hB0⟩ := h
  have hM' : MemP w mb S M.vs M.is M.mk M.F M.lo M.st M.fl M.fe := hM
  exact ⟨⟨S, j, M, hR.kept (Keeps.of_below' hB) (fun _ _ _ h => h.elim) (fun h => h) (fun _ _ h => h), hM'.below hB, hI, e1, e2, e3, e4, hS⟩, hB0.trans ((Keeps.of_below' hB).mono (fun _ _ h => h.elim))⟩
theorem OneK.drew (h : OneK S0 W w rb mb N l c k ph ov lo st fl fe) : OneK S0 W w.drew rb mb N l c k ph ov lo st fl fe := h.mono (Below.refl _ w).drew
theorem OneK.stats (h : OneK S0 W w rb mb N l c k ph ov lo st fl fe) : (0 ≤ st ∧ 0 ≤ fl ∧ 0 ≤ fe) ∧ Calls Try.prog 14 #[.pointer (some ⟨mb, 0, none⟩)] w fun e w' => e = .returned (.agg (statCells lo st fl fe)) ∧ Below w.heap.size w w' := by
  obtain ⟨⟨S, j, M, hR, hM, hI, rfl, rfl, rfl, rfl, hS⟩, hB⟩ := h
  refine ⟨?_, stats_m hM⟩
  obtain ⟨N0, vv, vi, ml, D, sl, hm, hN, hS, hp, hl, hi, hok, hF, hmk, hh, hs0, hf0, hfe⟩ := hM
  exact ⟨hs0, hf0, hfe⟩
theorem OneK.left (h : OneK S0 W w rb mb N l c k ph ov lo st fl fe) (hl : l.length ≤ 1000000) : Calls Try.prog 15 #[.pointer (some ⟨rb, 0, none⟩)] w fun e w' => e = .returned (.int .i64 ((l.length : Int) - (k : Int))) ∧ w.drew = w' := by
  obtain ⟨⟨S, j, M, hR, hM, hI, e1, e2, e3, e4, hS⟩, hB⟩ := h
  obtain ⟨r, ga, cap, hb, h1, h2, h3, h4, _⟩ := hR.o
  exact rleft_v w rb cap l.length k ga r hb h3 h4 hI.kl hl
/-- what a step of it leaves -/
def OneKP (S0 : Nat → Prop) (W : World) (rb mb N : Nat) (l : List (Int × Int)) (c k ph : Nat) (ov : Bool) (lo st fl fe : Int) (e : Ending) (w' : World) : Prop :=
  ∃ k' ph' ov' st' fl' fe', e = .returned (.tuple #[.bool ov', .int .i64 0]) ∧ StepT l k ph ov st fl fe k' ph' ov' st' fl' fe' ∧ OneK S0 W w' rb mb N l c k' ph' ov' lo st' fl' fe'
theorem OneK.stepK {K : Nat} (h : OneK S0 W w rb mb N l c k ph ov lo st fl fe) (hl : LOkK AllL N l K) (hkK : k ≤ K) (hKl : K ≤ l.length) (hne : ¬ (ov = false ∧ ph = 0 ∧ k = K ∧ K < l.length)) (hbd : ∀ i, i < l.length → 0 ≤ eK l i ∧ eK l i ≤ 18446744073709551615)
    (hc : c ≤ 64) (hl1 : l.length ≤ 1000000) (hst : st ≤ 1000000) (hfl : fl ≤ 1000000) (hfe : fe ≤ 1000000) :
    ∃ S : Nat → Prop, (∀ i, S i → i < w.heap.size) ∧ rb < w.heap.size ∧ ∀ W1, Below w.heap.size w W1 → Calls Try.prog 12 #[.pointer (some ⟨rb, 0, none⟩)] W1 fun e w' => OneKP S0 W rb mb N l c k ph ov lo st fl fe e w' ∧ Keeps (fun i => i = rb ∨ S i) W1 w' := by
  obtain ⟨⟨S, j, M, hR, hM, hI, e1, e2, e3, e4, hS⟩, hB⟩ := h
  have hlen := hM.len
  have hM' : MemP w mb S M.vs M.is M.mk M.F M.lo M.st M.fl M.fe := hM
  have hat : ∀ i, i < K → atE M.vs.length (eK l i) = 0 := fun i hi => by
    obtain ⟨_, h0, h8, hN, _⟩ := hl i hi
    rw [hI.lv]
    unfold atE
    rw [if_neg (by omega)]
  refine ⟨S, fun i hi => hM'.lt hi, ?_, fun W1 hB1 => ?_⟩
  · obtain ⟨r, ga, cap, hb, _⟩ := hR.o
    exact hb.lt
  · have hR1 : RnO W1 rb mb S l c k ph ov := hR.kept (Keeps.of_below' hB1) (fun _ _ _ h => h.elim) (fun h => h) (fun _ _ h => h)
    have hM1 : MemD W1 mb S M := hM'.below hB1
    have hBW : Keeps (fun i => i = rb ∨ S0 i) W W1 := hB.trans ((Keeps.of_below' hB1).mono (fun _ _ h => h.elim))
    refine (step_v W1 rb mb S l c k ph ov M hR1 hM1 hc hl1 hbd hI.kl (fun ho hp hk => hat k (by
      by_cases e : k = K
      · exact absurd ⟨ho, hp, e, by omega⟩ hne
      · omega)) hI.pl (fun hp => ⟨(hI.p1 hp).1, hat _ (by have := (hI.p1 hp).1; omega)⟩) (by omega) (by omega) (by omega)).mono ?_
    rintro e w' ⟨dd, k', ph', ov', M', S', rfl, hs, hR', hM', hsub, hk⟩
    obtain ⟨t1, t2, t3⟩ := hs.t
    have hk'K : k' ≤ K := by
      rcases t3.inv with ⟨_, rfl, _⟩ | ⟨_, _, _, rfl, _⟩ | ⟨ho, hp, hk, rfl, _⟩ | ⟨_, _, _, rfl, _⟩ | ⟨_, _, rfl, _⟩
      · exact hkK
      · exact hkK
      · have : k ≠ K := fun e => hne ⟨ho, hp, e, by omega⟩
        omega
      · exact hkK
      · exact hkK
    obtain ⟨j', hI', _⟩ := hI.stepK hl hs hk'K
    rw [e2, e3, e4] at t3
    refine ⟨⟨k', ph', ov', _, _, _, by rw [t1], t3, ⟨⟨S', j', M', hR', hM', hI', by rw [t2, e1], rfl, rfl, rfl, fun i hi => ?_⟩, hBW.trans' hk (fun i hi h => ?_)⟩⟩, hk⟩
    · rcases hsub i hi with h | h
      · exact hS i h
      · exact .inr (Nat.le_trans hBW.size h)
    · rcases h with h | h
      · exact .inl h
      · rcases hS i h with h | h
        · exact .inr h
        · omega
theorem OneK.step (h : OneK S0 W w rb mb N l c k ph ov lo st fl fe) (hl : LOk AllL N l) (hc : c ≤ 64) (hl1 : l.length ≤ 1000000) (hst : st ≤ 1000000) (hfl : fl ≤ 1000000) (hfe : fe ≤ 1000000) :
    ∃ S : Nat → Prop, (∀ i, S i → i < w.heap.size) ∧ rb < w.heap.size ∧ ∀ W1, Below w.heap.size w W1 → Calls Try.prog 12 #[.pointer (some ⟨rb, 0, none⟩)] W1 fun e w' => OneKP S0 W rb mb N l c k ph ov lo st fl fe e w' ∧ Keeps (fun i => i = rb ∨ S i) W1 w' := by
  obtain ⟨⟨S, j, M, hR, hM, hI, e1, e2, e3, e4, hS⟩, hB⟩ := id h
  have hlen := hM.len
  exact h.stepK (K := l.length) hl hI.kl (Nat.le_refl _) (fun h => by omega) (hl.bd (by rw [← hI.lv]; exact hlen)) hc hl1 hst hfl hfe
/-- the step that stores where there is nothing -/
theorem OneK.stop (h : OneK S0 W w rb mb N l c k 0 false lo st fl fe) (hk : k < l.length) (hbd : ∀ i, i < l.length → 0 ≤ eK l i ∧ eK l i ≤ 18446744073709551615) (he : atE N (eK l k) = 3) (hc : c ≤ 64) (hl1 : l.length ≤ 1000000) :
    Calls Try.prog 12 #[.pointer (some ⟨rb, 0, none⟩)] w fun e w' => e = .returned (.tuple #[.bool true, .int .i64 3]) ∧ ∃ r S M, Blk w' rb (rnCells r) 41 ∧ r.next = rphV rb 30 ∧ r.over = true ∧ r.e = 3 ∧ r.at_ = (k : Int) ∧ (∃ ga cap, r.sl = .slice ga l.length cap) ∧ ¬ S rb ∧
      MemD w' mb S M ∧ M.vs = vsOf N l k ∧ Keeps (fun i => i = rb ∨ S0 i) W w' := by
  obtain ⟨⟨S, j, M, hR, hM, hI, e1, e2, e3, e4, hS⟩, hB⟩ := h
  obtain ⟨r, ga, cap, hb, h1, h2, h3, h4, h5, h6, h7, h8, h9⟩ := hR.o
  obtain ⟨g, rfl, hg, he1, hs, hn⟩ := h9 (by omega)
  have hRS : RnS w rb mb g cap S r l c := ⟨hb, h1, h2, h3, hg, he1, h8, hs, hn⟩
  have hM' : MemP w mb S M.vs M.is M.mk M.F M.lo M.st M.fl M.fe := hM
  have hcall := rstore_no w rb mb g cap S r l c k M.vs M.is M.mk M.F M.lo M.st M.fl M.fe hRS hM' h4 hk hl1 hbd (by rw [hI.lv]; exact he)
  refine (rstep_store w rb mb S r r c M.vs M.is M.mk M.F M.lo M.st M.fl M.fe true 3 (fun w' => Keeps NoB w w') hb h1 h2 hM' hc h5 h6 (hcall.mono ?_)).mono ?_
  · rintro e w' ⟨rfl, hk1⟩
    exact ⟨rfl, hb.kept hk1 (fun h => h), hk1⟩
  · rintro e w' ⟨rfl, W2, hk1, hk2, hb2⟩
    have hkp : Keeps (fun i => i = rb) w w' := (hk1.mono (fun _ _ h => h.elim)).trans hk2
    refine ⟨rfl, _, S, M, hb2, h5, rfl, rfl, h4, ⟨_, _, h3⟩, h8, hM'.kept hkp (fun i hi e => h8 (e ▸ hi)), ?_, hB.trans (hkp.mono (fun i _ e => .inl e))⟩
    refine List.ext_getElem (by rw [hI.lv, vsOf_len]) (fun i a b => ?_)
    have := hI.v i (by rw [← hI.lv]; exact a) trivial
    rw [List.getD_eq_getElem?_getD, List.getD_eq_getElem?_getD, List.getElem?_eq_getElem a, List.getElem?_eq_getElem b] at this
    exact this
/-- at the end: what is seen and what lasted is as of all stores, and nothing is pending -/
theorem OneK.all (h : OneK S0 W w rb mb N l c l.length 0 ov lo st fl fe) (hl : LOk AllL N l) : ∃ (S : Nat → Prop) (M : MSt), MemP w mb S M.vs M.is M.mk M.F lo st fl fe ∧ M.vs = vsOf N l l.length ∧ M.is = vsOf N l l.length ∧ ∀ a, M.F a = [] := by
  obtain ⟨⟨S, j, M, hR, hM, hI, rfl, rfl, rfl, rfl, hS⟩, hB⟩ := h
  have hj := hI.p0 rfl (.inl (.inl rfl))
  refine ⟨S, M, hM, ?_, ?_, fun a => ?_⟩
  · refine List.ext_getElem (by rw [hI.lv, vsOf_len]) (fun i h1 h2 => ?_)
    have := hI.v i (by rw [← hI.lv]; exact h1) trivial
    rw [List.getD_eq_getElem?_getD, List.getD_eq_getElem?_getD, List.getElem?_eq_getElem h1, List.getElem?_eq_getElem h2] at this
    exact this
  · refine List.ext_getElem (by rw [hI.li, vsOf_len]) (fun i h1 h2 => ?_)
    have := hI.im i (by rw [← hI.li]; exact h1) trivial
    rw [hj, List.getD_eq_getElem?_getD, List.getD_eq_getElem?_getD, List.getElem?_eq_getElem h1, List.getElem?_eq_getElem h2] at this
    exact this
  · rw [hI.pe a trivial]
    split
    · rw [List.drop_eq_nil_of_le (by rw [List.length_take, hj]; omega)]
    · rfl
/-- a run over a new memory -/
theorem OneK.new {w1 : World} {S : Nat → Prop} {v : Value} (hN : 0 < N) (hm : MemP w1 mb S (List.replicate N 0) (List.replicate N 0) (fun _ _ => 0) (fun _ => []) lo st fl fe)
    (c : Nat) (hl1 : l.length ≤ 1000000) (ho : w1.ownsRow 0 25 2 v l.length (ecells l)) :
    Calls Try.prog 11 #[.pointer (some ⟨mb, 0, none⟩), .int .i64 c, v] w1 fun e w' => ∃ rb, e = .returned (.pointer (some ⟨rb, 0, none⟩)) ∧ w1.heap.size ≤ rb ∧ Below w1.heap.size w1 w' ∧
      ∀ T w2, Keeps T w' w2 → (∀ i, T i → i < w1.heap.size ∧ ¬ S i) → OneK S w2 w2 rb mb N l c 0 0 false lo st fl fe := by
  refine (rnew_v (some ⟨mb, 0, none⟩) c v l w1 ho hl1).mono ?_
  rintro e w' ⟨rb, sl, rfl, hb, hown, hrb, hne, hB1⟩
  have hSl : ∀ i, S i → i < w1.heap.size := fun i hi => hm.lt hi
  obtain ⟨a, n, cp, rfl⟩ := own_slice hown
  obtain rfl : n = l.length := own_len hown
  refine ⟨rb, rfl, hrb, hB1, fun T w2 hk hT => ⟨⟨S, 0, ⟨List.replicate N 0, List.replicate N 0, fun _ _ => 0, fun _ => [], lo, st, fl, fe⟩, ⟨⟨_, a, cp, hb.kept hk (fun h => by have := (hT rb h).1; omega), rfl, rfl, rfl, rfl, rfl, rfl, rfl, fun h => by have := hSl rb h; omega, fun hp => ?_⟩⟩, (hm.below hB1).kept hk (fun i hi h => (hT i h).2 hi), RI.start AllL N l c lo st fl fe, rfl, rfl, rfl, rfl, fun i hi => .inl hi⟩, Keeps.refl _ _⟩⟩
  obtain ⟨g, cap, e1, hg0, hg, _, _, hE⟩ := own_ents hown rfl hp
  cases e1
  exact ⟨g, rfl, Nat.lt_of_lt_of_le hg hk.size, hE.kept hk hg (fun h => by have := (hT g h).1; omega), fun h => by have := hSl g h; omega, fun e => hne (by rw [e]; rfl)⟩
end
end Go.Proofs.Ytefgahcadfmmoaa
