/-
  A STEP OF A RUN, of any phase: what it answers and what it leaves.
-/
import Derived.Test.YtefgahcadfmmoaaRnf
import Derived.Test.YtefgahcadfmmoaaRlm
namespace Go.Proofs.Ytefgahcadfmmoaa
open Go.RowKit
set_option linter.unusedVariables false

/-- a memory's data -/
structure MSt where
  mkMSt ::
  vs : List Int
  is : List Int
  mk : Int → Nat → Int
  F : Int → List (Int × Int)
  lo : Int
  st : Int
  fl : Int
  fe : Int
def MemD (w : World) (mb : Nat) (S : Nat → Prop) (M : MSt) : Prop := MemP w mb S M.vs M.is M.mk M.F M.lo M.st M.fl M.fe
def fph : Nat → Nat
  | 0 => 30
  | 1 => 45
  | _ => 51
/-- a run in memory: of stores l, a client; k are done, the phase, is it over -/
structure RnO (w : World) (rb mb : Nat) (S : Nat → Prop) (l : List (Int × Int)) (c : Int) (k ph : Nat) (ov : Bool) : Prop where
  o : ∃ r ga cap, Blk w rb (rnCells r) 41 ∧ r.mv = some ⟨mb, 0, none⟩ ∧ r.c = c ∧ r.sl = .slice ga l.length cap ∧ r.at_ = (k : Int) ∧ r.next = rphV rb (fph ph) ∧ r.over = ov ∧ r.e = 0 ∧ ¬ S rb ∧
    (0 < l.length → ∃ g, ga = some ⟨g, 0, none⟩ ∧ g < w.heap.size ∧ EntsAt w g 0 l ∧ ¬ S g ∧ rb ≠ g)
theorem EntsAt.kept {w w' : World} {S : Nat → Prop} {g o : Nat} {l : List (Int × Int)} (h : EntsAt w g o l) (hk : Keeps S w w') (hg : g < w.heap.size) (hs : ¬ S g) : EntsAt w' g o l := by
  intro i hi
  obtain ⟨h1, h2⟩ := h i hi
  exact ⟨(hk.cell (p := ⟨g, o + i * 2, none⟩) hg hs).trans h1, (hk.cell (p := ⟨g, o + i * 2 + 1, none⟩) hg hs).trans h2⟩
theorem RnO.kept {w w' : World} {rb mb : Nat} {S S' T : Nat → Prop} {l : List (Int × Int)} {c : Int} {k ph : Nat} {ov : Bool} (h : RnO w rb mb S l c k ph ov) (hk : Keeps T w w')
    (hT : ∀ i, (i = rb ∨ ¬ S i) → i < w.heap.size → T i → i ≠ rb → False) (hr : ¬ T rb) (hS : ∀ i, i < w.heap.size → S' i → S i) : RnO w' rb mb S' l c k ph ov := by
  obtain ⟨r, ga, cap, hb, h1, h2, h3, h4, h5, h6, h7, h8, h9⟩ := h.o
  refine ⟨r, ga, cap, hb.kept hk hr, h1, h2, h3, h4, h5, h6, h7, fun e => h8 (hS _ hb.lt e), fun hp => ?_⟩
  obtain ⟨g, e, hg, he, hs, hn⟩ := h9 hp
  exact ⟨g, e, Nat.lt_of_lt_of_le hg hk.size, he.kept hk hg (fun ht => hT g (.inr hs) hg ht hn.symm), fun e => hs (hS _ hg e), hn⟩
def gEnd (l : List (Int × Int)) (k : Nat) : Prop := k = l.length ∨ eK l k / 64 ≠ eK l (k - 1) / 64
instance (l : List (Int × Int)) (k : Nat) : Decidable (gEnd l k) := by unfold gEnd; infer_instance
/-- what a step makes of a run's state and the memory's, and is it through -/
inductive StepR (l : List (Int × Int)) (c : Nat) : Nat → Nat → Bool → MSt → Bool → Nat → Nat → Bool → MSt → Prop
  | over (k ph : Nat) (M : MSt) : StepR l c k ph true M true k ph true M
  | done (M : MSt) : StepR l c l.length 0 false M true l.length 0 true M
  | store (k : Nat) (M : MSt) (h : k < l.length) : StepR l c k 0 false M false (k + 1) (if gEnd l (k + 1) then 1 else 0) false
      { M with vs := M.vs.set (eK l k / 8).toNat (eP l k), F := updF M.F (lineOf (eK l k)) (M.F (lineOf (eK l k)) ++ [(eK l k, eP l k)]), st := M.st + 1 }
  | flush (k : Nat) (M : MSt) (h : k < l.length) : StepR l c (k + 1) 1 false M false (k + 1) 2 false
      { M with mk := updM M.mk (lineOf (eK l k)) (mkS (M.mk (lineOf (eK l k))) c (M.F (lineOf (eK l k))).length), fl := M.fl + 1 }
  | fence (k : Nat) (M : MSt) (mk' : Int → Nat → Int) (is' : List Int) (h1 : ∀ a i, 0 ≤ mk' a i ∧ mk' a i ≤ M.mk a i) (h2 : ∀ a, M.F a ≠ [] → ∀ i, mk' a i = mkX M.F M.mk c a i) (h3 : is'.length = M.is.length) (h4 : ∀ k, is'.getD k 0 = imX M.is M.F M.mk c k) :
      StepR l c k 2 false M (decide (k = l.length)) k 0 (decide (k = l.length)) { M with mk := mk', is := is', F := FF M.F M.mk c, fe := M.fe + 1 }
/-- what a step leaves in memory -/
def StepP (w : World) (rb mb : Nat) (S : Nat → Prop) (l : List (Int × Int)) (c : Nat) (k ph : Nat) (ov : Bool) (M : MSt) (e : Ending) (w' : World) : Prop :=
  ∃ dd k' ph' ov' M' S', e = .returned (.tuple #[.bool dd, .int .i64 0]) ∧ StepR l c k ph ov M dd k' ph' ov' M' ∧ RnO w' rb mb S' l c k' ph' ov' ∧ MemD w' mb S' M' ∧ (∀ i, S' i → S i ∨ w.heap.size ≤ i) ∧ Keeps (fun i => i = rb ∨ S i) w w'
theorem step_v (w : World) (rb mb : Nat) (S : Nat → Prop) (l : List (Int × Int)) (c k ph : Nat) (ov : Bool) (M : MSt) (h : RnO w rb mb S l c k ph ov) (hm : MemD w mb S M) (hc : c ≤ 64) (hl : l.length ≤ 1000000)
    (hb : ∀ i, i < l.length → 0 ≤ eK l i ∧ eK l i ≤ 18446744073709551615) (hk : k ≤ l.length) (he : ov = false → ph = 0 → k < l.length → atE M.vs.length (eK l k) = 0) (hp : ph ≤ 2) (hp1 : 1 ≤ ph → 1 ≤ k ∧ atE M.vs.length (eK l (k - 1)) = 0)
    (hst : M.st ≤ 1000000) (hfl : M.fl ≤ 1000000) (hfe : M.fe ≤ 1000000) :
    Calls Try.prog 12 #[.pointer (some ⟨rb, 0, none⟩)] w (StepP w rb mb S l c k ph ov M) := by
  obtain ⟨r, ga, cap, hbk, h1, h2, h3, h4, h5, h6, h7, h8, h9⟩ := h.o
  cases ov with
  | true =>
    refine (rstep_over w rb r (fph ph) hbk h5 h6).mono ?_
    rintro e w' ⟨rfl, hk1, hb1⟩
    refine ⟨true, k, ph, true, M, S, by rw [h7], .over k ph M, ⟨{ r with over := true, e := r.e }, ga, cap, hb1, h1, h2, h3, h4, h5, rfl, h7, h8, fun hp => ?_⟩, hm.kept hk1 (fun i hi e => h8 (e ▸ hi)), fun i hi => .inl hi, hk1.mono (fun i _ e => .inl e)⟩
    obtain ⟨g, e1, hg, he1, hs, hn⟩ := h9 hp
    exact ⟨g, e1, Nat.lt_of_lt_of_le hg hk1.size, he1.kept hk1 hg (fun e => hn e.symm), hs, hn⟩
  | false =>
    have hph : ph = 0 ∨ ph = 1 ∨ ph = 2 := by omega
    rcases hph with rfl | rfl | rfl
    · by_cases hkl : k < l.length
      · obtain ⟨g, rfl, hg, he1, hs, hn⟩ := h9 (by omega)
        have hR : RnS w rb mb g cap S r l c := ⟨hbk, h1, h2, h3, hg, he1, h8, hs, hn⟩
        have hcall := rstore_v w rb mb g cap S r l c k M.vs M.is M.mk M.F M.lo M.st M.fl M.fe hR hm h4 hkl hl hb (he rfl rfl hkl) hst
        refine (rstep_store w rb mb S r { r with at_ := ((k : Int) + 1), next := rNext rb l k r.next } c M.vs M.is M.mk M.F M.lo M.st M.fl M.fe false 0
          (fun w' => ∃ S', MemP w' mb S' (M.vs.set (eK l k / 8).toNat (eP l k)) M.is M.mk (updF M.F (lineOf (eK l k)) (M.F (lineOf (eK l k)) ++ [(eK l k, eP l k)])) M.lo (M.st + 1) M.fl M.fe ∧ (∀ i, S' i → S i ∨ w.heap.size ≤ i) ∧ Keeps (fun i => i = rb ∨ S i) w w' ∧ rb < w'.heap.size)
          hbk h1 h2 hm hc h5 h6 (hcall.mono ?_)).mono ?_
        · rintro e w' ⟨rfl, S', hm', hsub, hkp, hb'⟩
          exact ⟨rfl, hb', S', hm', hsub, hkp, hb'.lt⟩
        · rintro e w' ⟨rfl, W2, ⟨S', hm', hsub, hkp, hrl⟩, hk2, hb2⟩
          have hnS : ¬ S' rb := fun h => by
            rcases hsub rb h with h | h
            · exact h8 h
            · have := hbk.lt; omega
          have hkp' : Keeps (fun i => i = rb ∨ S i) w w' := hkp.trans (hk2.mono (fun i _ e => .inl e))
          refine ⟨false, k + 1, if gEnd l (k + 1) then 1 else 0, false, _, S', rfl, .store k M hkl, ⟨_, _, cap, hb2, h1, h2, h3, rfl, ?_, rfl, rfl, hnS, fun hp => ⟨g, rfl, Nat.lt_of_lt_of_le hg hkp'.size, he1.kept hkp' hg (fun e => by rcases e with e | e; exact hn e.symm; exact hs e), fun h => ?_, hn⟩⟩, hm'.kept hk2 (fun i hi e => hnS (e ▸ hi)), hsub, hkp'⟩
          · show rNext rb l k r.next = _
            unfold rNext gEnd
            rw [h5]
            simp only [Nat.add_sub_cancel]
            split <;> rfl
          · rcases hsub g h with h | h
            · exact hs h
            · omega
      · obtain rfl : k = l.length := by omega
        have hcall := rstore_end0 w rb mb cap l.length ga r c hbk h1 h2 h3 h4
        refine (rstep_store w rb mb S r r c M.vs M.is M.mk M.F M.lo M.st M.fl M.fe true 0 (fun w' => Below w.heap.size w w') hbk h1 h2 hm hc h5 h6 (hcall.mono ?_)).mono ?_
        · rintro e w' ⟨rfl, hB⟩
          exact ⟨rfl, hbk.kept (Keeps.of_below' hB) (fun h => h), hB⟩
        · rintro e w' ⟨rfl, W2, hB, hk2, hb2⟩
          have hkp' : Keeps (fun i => i = rb) w w' := (keeps_belowS hB).trans hk2
          refine ⟨true, l.length, 0, true, M, S, rfl, .done M, ⟨_, ga, cap, hb2, h1, h2, h3, h4, h5, rfl, rfl, h8, fun hp => ?_⟩, hm.kept hkp' (fun i hi e => h8 (e ▸ hi)), fun i hi => .inl hi, hkp'.mono (fun i _ e => .inl e)⟩
          obtain ⟨g, e1, hg, he1, hs, hn⟩ := h9 hp
          exact ⟨g, e1, Nat.lt_of_lt_of_le hg hkp'.size, he1.kept hkp' hg (fun e => hn e.symm), hs, hn⟩
    · obtain ⟨hk1, heA⟩ := hp1 (by omega)
      obtain ⟨kp, rfl⟩ : ∃ kp, k = kp + 1 := ⟨k - 1, by omega⟩
      rw [Nat.add_sub_cancel] at heA
      obtain ⟨g, rfl, hg, he1, hs, hn⟩ := h9 (by omega)
      have hR : RnS w rb mb g cap S r l c := ⟨hbk, h1, h2, h3, hg, he1, h8, hs, hn⟩
      have hcall := rflush_v w rb mb g cap S r l c kp M.vs M.is M.mk M.F M.lo M.st M.fl M.fe hR hm h4 (by omega) hl hc (hb kp (by omega)).1 (hb kp (by omega)).2 heA hst hfl
      refine (rstep_flush w rb mb S r { r with next := rphV rb 51 } c M.vs M.is M.mk M.F M.lo M.st M.fl M.fe false 0
        (fun w' => ∃ W2, Keeps (fun i => i = rb) w W2 ∧ FlP W2 mb S M.vs M.is M.mk M.F M.lo M.st M.fl M.fe c (eK l kp) w') hbk h1 h2 hm hc h5 h6 (hcall.mono ?_)).mono ?_
      · rintro e w' ⟨rfl, W2, hk2, hfp, hb'⟩
        exact ⟨rfl, hb', W2, hk2, hfp⟩
      · rintro e w' ⟨rfl, W2, ⟨W1, hk1, S', hm', hsub, hkS⟩, hk2, hb2⟩
        have hsub' : ∀ i, S' i → S i ∨ w.heap.size ≤ i := fun i hi => (hsub i hi).imp id (Nat.le_trans hk1.size)
        have hnS : ¬ S' rb := fun h => by
          rcases hsub' rb h with h | h
          · exact h8 h
          · have := hbk.lt; omega
        have hkp' : Keeps (fun i => i = rb ∨ S i) w w' := ((hk1.mono (fun i _ e => .inl e)).trans (hkS.mono (fun i _ e => .inr e))).trans (hk2.mono (fun i _ e => .inl e))
        refine ⟨false, kp + 1, 2, false, _, S', rfl, .flush kp M (by omega), ⟨_, _, cap, hb2, h1, h2, h3, h4, rfl, rfl, rfl, hnS, fun hp => ⟨g, rfl, Nat.lt_of_lt_of_le hg hkp'.size, he1.kept hkp' hg (fun e => by rcases e with e | e; exact hn e.symm; exact hs e), fun h => ?_, hn⟩⟩, hm'.kept hk2 (fun i hi e => hnS (e ▸ hi)), hsub', hkp'⟩
        rcases hsub' g h with h | h
        · exact hs h
        · omega
    · obtain ⟨hk1, heA⟩ := hp1 (by omega)
      obtain ⟨g, rfl, hg, he1, hs, hn⟩ := h9 (by omega)
      have hR : RnS w rb mb g cap S r l c := ⟨hbk, h1, h2, h3, hg, he1, h8, hs, hn⟩
      have hcall := rfence_v w rb mb g cap S r l c k M.vs M.is M.mk M.F M.lo M.st M.fl M.fe hR hm h4 hc hst hfe
      refine (rstep_fence w rb mb S r { r with next := rphV rb 30 } c M.vs M.is M.mk M.F M.lo M.st M.fl M.fe (decide (k = l.length)) 0
        (fun w' => ∃ W2, Keeps (fun i => i = rb) w W2 ∧ FeP W2 mb S M.vs M.is M.mk M.F M.lo M.st M.fl M.fe c w') hbk h1 h2 hm hc h5 h6 (hcall.mono ?_)).mono ?_
      · rintro e w' ⟨rfl, W2, hk2, hfp, hb'⟩
        exact ⟨rfl, hb', W2, hk2, hfp⟩
      · rintro e w' ⟨rfl, W2, ⟨W1, hk1, mk', is', q1, q2, q3, q4, S', hm', hsub, hkS⟩, hk2, hb2⟩
        have hsub' : ∀ i, S' i → S i ∨ w.heap.size ≤ i := fun i hi => (hsub i hi).imp id (Nat.le_trans hk1.size)
        have hnS : ¬ S' rb := fun h => by
          rcases hsub' rb h with h | h
          · exact h8 h
          · have := hbk.lt; omega
        have hkp' : Keeps (fun i => i = rb ∨ S i) w w' := ((hk1.mono (fun i _ e => .inl e)).trans (hkS.mono (fun i _ e => .inr e))).trans (hk2.mono (fun i _ e => .inl e))
        refine ⟨_, k, 0, _, _, S', rfl, .fence k M mk' is' q1 q2 q3 q4, ⟨_, _, cap, hb2, h1, h2, h3, h4, rfl, rfl, rfl, hnS, fun hp => ⟨g, rfl, Nat.lt_of_lt_of_le hg hkp'.size, he1.kept hkp' hg (fun e => by rcases e with e | e; exact hn e.symm; exact hs e), fun h => ?_, hn⟩⟩, hm'.kept hk2 (fun i hi e => hnS (e ▸ hi)), hsub', hkp'⟩
        rcases hsub' g h with h | h
        · exact hs h
        · omega
end Go.Proofs.Ytefgahcadfmmoaa
