/-
  ONE RUN over a memory of noughts: its state through steps.
-/
import Derived.Test.YtefgahcadfmmoaaRpl
namespace Go.Proofs.Ytefgahcadfmmoaa
open Go.RowKit
set_option linter.unusedVariables false

inductive StepT (l : List (Int × Int)) : Nat → Nat → Bool → Int → Int → Int → Nat → Nat → Bool → Int → Int → Int → Prop
  | over (k ph : Nat) (st fl fe : Int) : StepT l k ph true st fl fe k ph true st fl fe
  | done (st fl fe : Int) : StepT l l.length 0 false st fl fe l.length 0 true st fl fe
  | store (k : Nat) (st fl fe : Int) (h : k < l.length) : StepT l k 0 false st fl fe (k + 1) (if gEnd l (k + 1) then 1 else 0) false (st + 1) fl fe
  | flush (k : Nat) (st fl fe : Int) (h : k < l.length) : StepT l (k + 1) 1 false st fl fe (k + 1) 2 false st (fl + 1) fe
  | fence (k : Nat) (st fl fe : Int) : StepT l k 2 false st fl fe k 0 (decide (k = l.length)) st fl (fe + 1)
theorem StepT.inv {l : List (Int × Int)} {k ph : Nat} {ov : Bool} {st fl fe : Int} {k' ph' : Nat} {ov' : Bool} {st' fl' fe' : Int} (h : StepT l k ph ov st fl fe k' ph' ov' st' fl' fe') :
    (ov = true ∧ k' = k ∧ ph' = ph ∧ ov' = true ∧ st' = st ∧ fl' = fl ∧ fe' = fe) ∨ (ov = false ∧ ph = 0 ∧ k = l.length ∧ k' = k ∧ ph' = 0 ∧ ov' = true ∧ st' = st ∧ fl' = fl ∧ fe' = fe) ∨
    (ov = false ∧ ph = 0 ∧ k < l.length ∧ k' = k + 1 ∧ ph' = (if gEnd l (k + 1) then 1 else 0) ∧ ov' = false ∧ st' = st + 1 ∧ fl' = fl ∧ fe' = fe) ∨
    (ov = false ∧ ph = 1 ∧ 0 < k ∧ k' = k ∧ ph' = 2 ∧ ov' = false ∧ st' = st ∧ fl' = fl + 1 ∧ fe' = fe) ∨ (ov = false ∧ ph = 2 ∧ k' = k ∧ ph' = 0 ∧ ov' = decide (k = l.length) ∧ st' = st ∧ fl' = fl ∧ fe' = fe + 1) := by
  cases h with
  | over => exact .inl ⟨rfl, rfl, rfl, rfl, rfl, rfl, rfl⟩
  | done => exact .inr (.inl ⟨rfl, rfl, rfl, rfl, rfl, rfl, rfl, rfl, rfl⟩)
  | store _ _ _ _ h => exact .inr (.inr (.inl ⟨rfl, rfl, h, rfl, rfl, rfl, rfl, rfl, rfl⟩))
  | flush _ _ _ _ h => exact .inr (.inr (.inr (.inl ⟨rfl, rfl, Nat.succ_pos _, rfl, rfl, rfl, rfl, rfl, rfl⟩)))
  | fence => exact .inr (.inr (.inr (.inr ⟨rfl, rfl, rfl, rfl, rfl, rfl, rfl, rfl⟩)))
theorem StepR.t {l : List (Int × Int)} {c k ph : Nat} {ov dd : Bool} {M M' : MSt} {k' ph' : Nat} {ov' : Bool} (h : StepR l c k ph ov M dd k' ph' ov' M') : dd = ov' ∧ M'.lo = M.lo ∧ StepT l k ph ov M.st M.fl M.fe k' ph' ov' M'.st M'.fl M'.fe := by
  cases h with
  | over => exact ⟨rfl, rfl, .over ..⟩
  | done => exact ⟨rfl, rfl, .done ..⟩
  | store _ _ h => exact ⟨rfl, rfl, .store _ _ _ _ h⟩
  | flush _ _ h => exact ⟨rfl, rfl, .flush _ _ _ _ h⟩
  | fence => exact ⟨rfl, rfl, .fence ..⟩
def AllL : Int → Prop := fun _ => True
structure OneI (W w : World) (rb mb N : Nat) (l : List (Int × Int)) (c k ph : Nat) (ov : Bool) (lo st fl fe : Int) : Prop where
  o : ∃ S j M, RnO w rb mb S l c k ph ov ∧ MemD w mb S M ∧ RI AllL N l c k ph j M ∧ M.lo = lo ∧ M.st = st ∧ M.fl = fl ∧ M.fe = fe ∧ ∀ i, S i → W.heap.size ≤ i
  rb : W.heap.size ≤ rb
  b : Below W.heap.size W w
theorem LOk.at {P : Int → Prop} {N : Nat} {l : List (Int × Int)} (h : LOk P N l) {n i : Nat} (hn : n = N) (hi : i < l.length) : atE n (eK l i) = 0 := by
  obtain ⟨_, h0, h8, hN, _⟩ := h i hi
  subst hn
  unfold atE
  rw [if_neg (by omega)]
theorem LOk.bd {P : Int → Prop} {N : Nat} {l : List (Int × Int)} (h : LOk P N l) (hN : N ≤ 400000) : ∀ i, i < l.length → 0 ≤ eK l i ∧ eK l i ≤ 18446744073709551615 := by
  intro i hi
  obtain ⟨_, h0, h8, hN, _⟩ := h i hi
  omega
theorem MemD.len {w : World} {mb : Nat} {S : Nat → Prop} {M : MSt} (h : MemD w mb S M) : M.vs.length ≤ 400000 := by
  obtain ⟨N0, vv, vi, ml, D, sl, hm, hN, hS, hp, hl, r⟩ := h
  exact hl
theorem vsOf_u64 {P : Int → Prop} {N : Nat} {l : List (Int × Int)} (h : LOk P N l) : ∀ k, k ≤ l.length → U64s (vsOf N l k)
  | 0, _ => fun x hx => by
    unfold vsOf lastIm at hx
    simp at hx
    omega
  | k + 1, hk => fun x hx => by
    rw [vsOf_succ N (show k < l.length by omega)] at hx
    rcases List.mem_or_eq_of_mem_set hx with h1 | h1
    · exact vsOf_u64 h k (by omega) x h1
    · obtain ⟨_, _, _, _, h4, h5⟩ := h k (by omega)
      omega
section
variable {W w : World} {rb mb N : Nat} {l : List (Int × Int)} {c k ph : Nat} {ov : Bool} {lo st fl fe : Int}
/-- what a step of it leaves -/
def OneP (W : World) (rb mb N : Nat) (l : List (Int × Int)) (c k ph : Nat) (ov : Bool) (lo st fl fe : Int) (e : Ending) (w' : World) : Prop :=
  ∃ k' ph' ov' st' fl' fe', e = .returned (.tuple #[.bool ov', .int .i64 0]) ∧ StepT l k ph ov st fl fe k' ph' ov' st' fl' fe' ∧ OneI W w' rb mb N l c k' ph' ov' lo st' fl' fe'
theorem one_v (h : OneI W w rb mb N l c k ph ov lo st fl fe) (hl : LOk AllL N l) (hc : c ≤ 64) (hl1 : l.length ≤ 1000000) (hst : st ≤ 1000000) (hfl : fl ≤ 1000000) (hfe : fe ≤ 1000000) :
    Calls Try.prog 12 #[.pointer (some ⟨rb, 0, none⟩)] w (OneP W rb mb N l c k ph ov lo st fl fe) := by
  obtain ⟨⟨S, j, M, hR, hM, hI, e1, e2, e3, e4, hS⟩, hrb, hB⟩ := h
  have hlen := hM.len
  refine (step_v w rb mb S l c k ph ov M hR hM hc hl1 (hl.bd (by rw [← hI.lv]; exact hlen)) hI.kl (fun _ _ hk => hl.at hI.lv hk) hI.pl (fun hp => ⟨(hI.p1 hp).1, hl.at hI.lv (by have := hI.kl; have := (hI.p1 hp).1; omega)⟩) (by omega) (by omega) (by omega)).mono ?_
  rintro e w' ⟨dd, k', ph', ov', M', S', rfl, hs, hR', hM', hsub, hk⟩
  obtain ⟨t1, t2, t3⟩ := hs.t
  obtain ⟨j', hI', _⟩ := hI.step hl hs
  rw [e2, e3, e4] at t3
  refine ⟨k', ph', ov', _, _, _, by rw [t1], t3, ⟨⟨S', j', M', hR', hM', hI', by rw [t2, e1], rfl, rfl, rfl, fun i hi => ?_⟩, hrb, ?_⟩⟩
  · rcases hsub i hi with h | h
    · exact hS i h
    · exact Nat.le_trans hB.size h
  · refine hB.keeps (Nat.le_refl _) hk ?_
    rintro i (rfl | h)
    · exact hrb
    · exact hS i h
/-- a run over a new memory -/
theorem OneI.new {w1 : World} {S : Nat → Prop} {v : Value} (hN : 0 < N) (hm : MemP w1 mb S (List.replicate N 0) (List.replicate N 0) (fun _ _ => 0) (fun _ => []) lo st fl fe) (hS : ∀ i, S i → W.heap.size ≤ i) (hB : Below W.heap.size W w1)
    (c : Nat) (hl1 : l.length ≤ 1000000) (ho : w1.ownsRow 0 25 2 v l.length (ecells l)) :
    Calls Try.prog 11 #[.pointer (some ⟨mb, 0, none⟩), .int .i64 c, v] w1 fun e w' => ∃ rb, e = .returned (.pointer (some ⟨rb, 0, none⟩)) ∧ OneI W w' rb mb N l c 0 0 false lo st fl fe ∧ Below w1.heap.size w1 w' := by
  refine (rnew_v (some ⟨mb, 0, none⟩) c v l w1 ho hl1).mono ?_
  rintro e w' ⟨rb, sl, rfl, hb, hown, hrb, hne, hB1⟩
  have hSl : ∀ i, S i → i < w1.heap.size := fun i hi => hm.lt hi
  obtain ⟨a, n, cp, rfl⟩ := own_slice hown
  obtain rfl : n = l.length := own_len hown
  refine ⟨rb, rfl, ⟨⟨S, 0, ⟨List.replicate N 0, List.replicate N 0, fun _ _ => 0, fun _ => [], lo, st, fl, fe⟩, ⟨⟨_, a, cp, hb, rfl, rfl, rfl, rfl, rfl, rfl, rfl, fun h => by have := hSl rb h; omega, fun hp => ?_⟩⟩, hm.below hB1, RI.start AllL N l c lo st fl fe, rfl, rfl, rfl, rfl, hS⟩, Nat.le_trans hB.size hrb, hB.trans (hB1.mono hB.size)⟩, hB1⟩
  obtain ⟨g, cap, e1, hg0, hg, _, _, hE⟩ := own_ents hown rfl hp
  cases e1
  exact ⟨g, rfl, hg, hE, fun h => by have := hSl g h; omega, fun e => hne (by rw [e]; rfl)⟩
theorem OneI.mono {w' : World} (h : OneI W w rb mb N l c k ph ov lo st fl fe) (hB : Below w.heap.size w w') : OneI W w' rb mb N l c k ph ov lo st fl fe := by
  obtain ⟨⟨S, j, M, hR, hM, hI, e1, e2, e3, e4, hS⟩, hrb, hB0⟩ := h
  have hM' : MemP w mb S M.vs M.is M.mk M.F M.lo M.st M.fl M.fe := hM
  exact ⟨⟨S, j, M, hR.kept (Keeps.of_below' hB) (fun _ _ _ h => h.elim) (fun h => h) (fun _ _ h => h), hM'.below hB, hI, e1, e2, e3, e4, hS⟩, hrb, hB0.trans (hB.mono hB0.size)⟩
end
end Go.Proofs.Ytefgahcadfmmoaa
