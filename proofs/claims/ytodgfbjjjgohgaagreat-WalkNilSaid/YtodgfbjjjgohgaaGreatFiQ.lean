/-
  A REGION THAT DRAWS ITS ORDER, as in Fa, INSIDE A ROUND OF A RANGE OVER A FUNCTION: the steps as outside of it.
-/
import Derived.Test.YtodgfbjjjgohgaaGreatFrQ
import Derived.Test.YtodgfbjjjgohgaaGreatInvGQ
namespace Go.Proofs.YtodgfbjjjgohgaaGreat
open Go.RowKit

/-- what is so on the way: L is done -/
structure RegSA (l : List Oper) (a0 : Act) (ps : List (Value → World → Prop)) (G : (Nat → Bool) → Act → World → Prop) (L : Nat → Bool) (vs : List Value) (a : Act) (w : World) : Prop where
  dst : dstsB l = true
  len : vs.length = l.length
  frame : a = fill l L vs 0 a0
  vals : ∀ (j : Nat) (p : Value → World → Prop), ps[j]? = some p → L j = true → ∃ v, vs[j]? = some v ∧ p v w
  closed : ∀ (j : Nat) (o : Oper), l[j]? = some o → L j = true → ∀ e ∈ o.after, Region.binds .any e = true → L e.on = true
  glob : G L a w
section
variable {l : List Oper} {a0 : Act} {ps : List (Value → World → Prop)} {G : (Nat → Bool) → Act → World → Prop} {L : Nat → Bool} {vs : List Value} {a : Act} {w : World}
/-- what an operation that is done has left -/
theorem RegSA.val (h : RegSA l a0 ps G L vs a w) (j s : Nat) {o : Oper} {p : Value → World → Prop} (ho : l[j]? = some o) (hs : o.dst = some s) (hp : ps[j]? = some p) (hL : L j = true) (hz : decide (s < a0.tmps.size) = true) : ∃ v, a.tmps[s]?.getD undef = v ∧ p v w := by
  obtain ⟨v, hv, hpv⟩ := h.vals j p hp hL
  refine ⟨v, ?_, hpv⟩
  rw [h.frame]
  have := fill_new l L vs 0 a0 j s o v h.dst ho hs hv (by simpa using hL) (of_decide_eq_true hz)
  simpa using this
theorem RegSA.is (h : RegSA l a0 ps G L vs a w) (j s : Nat) {o : Oper} {c : Value} (ho : l[j]? = some o) (hs : o.dst = some s) (hp : ps[j]? = some (Is c)) (hL : L j = true) (hz : decide (s < a0.tmps.size) = true) : a.tmps[s]?.getD undef = c := by
  obtain ⟨v, h1, h2⟩ := h.val j s ho hs hp hL hz
  rw [h1]; exact h2
theorem RegSA.old (h : RegSA l a0 ps G L vs a w) (s : Nat) (hn : noDst l s = true) : a.tmps[s]?.getD undef = a0.tmps[s]?.getD undef := by
  rw [h.frame]
  have := fill_old l L vs 0 a0 s (fun j o ho hs => by
    have := List.all_eq_true.1 hn o (List.mem_of_getElem? ho)
    simp [hs] at this)
  simpa using this
theorem RegSA.later (h : RegSA l a0 ps G L vs a w) (s i : Nat) (hi : L i = false) (hn : laterB l s i = true) : a.tmps[s]?.getD undef = a0.tmps[s]?.getD undef := by
  rw [h.frame]
  have := fill_old l L vs 0 a0 s (fun j o ho hs => by
    have h1 := List.all_eq_true.1 hn o (List.mem_of_getElem? ho)
    simp [hs] at h1
    cases hj : L j with
    | false => simpa using hj
    | true =>
      obtain ⟨k, hk, e1, e2⟩ := h1
      have := h.closed j o ho hj o.after[k] (Array.getElem_mem hk) e1
      rw [e2, hi] at this
      cases this)
  simpa using this
/-- one that waits for it is not done either -/
theorem RegSA.notYet (h : RegSA l a0 ps G L vs a w) (j i : Nat) {o : Oper} (ho : l[j]? = some o) (hi : L i = false) (hn : (o.after.any (fun e => Region.binds .any e && e.on == i)) = true) : L j = false := by
  cases hj : L j with
  | false => rfl
  | true =>
    obtain ⟨e, he, h2⟩ := Array.any_eq_true'.1 hn
    simp only [Bool.and_eq_true, beq_iff_eq] at h2
    have := h.closed j o ho hj e he h2.1
    rw [h2.2, hi] at this
    cases this
end
/-- an operation's step -/
def StepVA (P : Program) (l : List Oper) (Q : Exit → Act → World → Prop) (a0 : Act) (ps : List (Value → World → Prop)) (R : Nat → World → World → Prop) (G : (Nat → Bool) → Act → World → Prop) (i : Nat) (o : Oper) (p : Value → World → Prop) : Prop :=
  ∀ L vs a w, RegSA l a0 ps G L vs a w → L i = false → (∀ e ∈ o.after, Region.binds .any e = true → L e.on = true) →
    ∀ K : Act → World → Prop, (∀ v w', R i w w' → p v w' → G (lset L i) (a.put o.dst v) w' → K (a.put o.dst v) w') → if Region.wanted o (yielded l.toArray a.tmps) = true then Oper.wp P o a w K Q else K (a.put o.dst undef) w
def StepsVA (P : Program) (l : List Oper) (Q : Exit → Act → World → Prop) (a0 : Act) (ps : List (Value → World → Prop)) (R : Nat → World → World → Prop) (G : (Nat → Bool) → Act → World → Prop) : Nat → List Oper → List (Value → World → Prop) → Prop
  | i, o :: r, p :: q => StepVA P l Q a0 ps R G i o p ∧ StepsVA P l Q a0 ps R G (i + 1) r q
  | _, [], [] => True
  | _, _, _ => False
theorem stepsVA_at {P : Program} {l : List Oper} {Q : Exit → Act → World → Prop} {a0 : Act} {ps : List (Value → World → Prop)} {R : Nat → World → World → Prop} {G : (Nat → Bool) → Act → World → Prop} :
    ∀ (r : List Oper) (q : List (Value → World → Prop)) (i : Nat), StepsVA P l Q a0 ps R G i r q → ∀ j o, r[j]? = some o → ∃ p, q[j]? = some p ∧ StepVA P l Q a0 ps R G (i + j) o p
  | [], _, _, _, _, _, h => by simp at h
  | _ :: _, [], _, h, _, _, _ => h.elim
  | o :: r, p :: q, i, h, 0, o', ho => by
    simp at ho; subst ho
    exact ⟨p, rfl, h.1⟩
  | o :: r, p :: q, i, h, j + 1, o', ho => by
    obtain ⟨p', h1, h2⟩ := stepsVA_at r q (i + 1) h.2 j o' (by simpa using ho)
    exact ⟨p', by simpa using h1, by rw [show i + (j + 1) = i + 1 + j by omega]; exact h2⟩

theorem wp_region_valsA {P : Program} {id : Nat} {l : List Oper} {a0 : Act} {w0 : World} {Q : Exit → Act → World → Prop} (ps : List (Value → World → Prop)) (R : Nat → World → World → Prop) (G : (Nat → Bool) → Act → World → Prop)
    (hm : P.follows .mixedOrders = true) (hb : (l.zipIdx.all fun oi => oi.1.after.all (fun e => !Region.binds .any e || decide (e.on < oi.2))) = true) (hd : dstsB l = true)
    (hst : StaysL l R 0 ps) (h0 : G (fun _ => false) a0 w0.drew)
    (hs : StepsVA P l Q a0 ps R G 0 l ps)
    (he : ∀ vs w, vs.length = l.length → (∀ (j : Nat) (p : Value → World → Prop), ps[j]? = some p → ∃ v, vs[j]? = some v ∧ p v w) → (∀ L, (∀ i, i < l.length → L i = true) → G L (fill l (fun _ => true) vs 0 a0) w → Q .normal (fill l (fun _ => true) vs 0 a0) w)) :
    (Code.region id l.toArray true).wp P Q a0 w0 := by
  refine wp_region_invG (fun L a w => ∃ vs, RegSA l a0 ps G L vs a w) hm hb ?_ ?_ ?_
  · have hf : ∀ (l : List Oper) (vs : List Value) (k : Nat) (a : Act), fill l (fun _ => false) vs k a = a := by
      intro l
      induction l with
      | nil => intro vs k a; cases vs <;> rfl
      | cons o l ih => intro vs k a; cases vs with
        | nil => rfl
        | cons v vs => simp only [fill]; rw [if_neg (by simp)]; exact ih vs (k + 1) a
    exact ⟨List.replicate l.length undef, hd, by simp, (hf _ _ _ _).symm, (fun j p _ h => by cases h), (fun j o _ h => by cases h), h0⟩
  · have key : ∀ (r : List Oper) (k : Nat), (∀ j o, r[j]? = some o → l[k + j]? = some o) → StepsOKG P l.toArray Q (fun L a w => ∃ vs, RegSA l a0 ps G L vs a w) k r := by
      intro r
      induction r with
      | nil => intro k _; trivial
      | cons o r ih =>
        intro k hk
        refine ⟨?_, ih (k + 1) (fun j o' ho => by rw [show k + 1 + j = k + (j + 1) by omega]; exact hk (j + 1) o' (by simpa using ho))⟩
        rintro L a w ⟨vs, hR⟩ hf hdp K hK
        have hlk : l[k]? = some o := by simpa using hk 0 o (by simp)
        obtain ⟨p, hp, hS⟩ := stepsVA_at l ps 0 hs k o hlk
        rw [Nat.zero_add] at hS
        refine hS L vs a w hR hf hdp K (fun v w' hRw hpv hG => hK _ _ ⟨vs.set k v, hd, by simpa using hR.len, ?_, ?_, ?_, hG⟩)
        · have := fill_set l L vs 0 a0 k o v hd hlk hR.len (by simpa using hf)
          rw [hR.frame, this, Nat.zero_add]
        · intro j p' hp' hL'
          by_cases hjk : j = k
          · subst hjk
            rw [hp] at hp'; cases hp'
            have hjl : j < vs.length := by rw [hR.len]; exact (List.getElem?_eq_some_iff.1 hlk).1
            exact ⟨v, by simp [hjl], hpv⟩
          · have hLj : L j = true := by simpa [lset, hjk] using hL'
            obtain ⟨v', h1, h2⟩ := hR.vals j p' hp' hLj
            exact ⟨v', by rw [List.getElem?_set_ne (fun e => hjk e.symm)]; exact h1, staysL_at ps 0 hst j p' hp' k (by omega) (by
              rw [Nat.zero_add]
              cases hw : waitsB l j k with
              | false => rfl
              | true =>
                unfold waitsB at hw
                cases ho : l[j]? with
                | none => rw [ho] at hw; cases hw
                | some oj =>
                  rw [ho] at hw
                  have := hR.notYet j k ho (by simpa using hf) hw
                  rw [this] at hLj; cases hLj) v' w w' h2 hRw⟩
        · intro j o' ho' hL' e hee hbd
          by_cases hjk : j = k
          · subst hjk
            rw [hlk] at ho'; cases ho'
            have := hdp e hee hbd
            unfold lset; split
            · rfl
            · exact this
          · have hLj : L j = true := by simpa [lset, hjk] using hL'
            have := hR.closed j o' ho' hLj e hee hbd
            unfold lset; split
            · rfl
            · exact this
    exact key l 0 (fun j o h => by simpa using h)
  · rintro L a w ⟨vs, hR⟩ hall
    have hfa : ∀ (l : List Oper) (L : Nat → Bool) (vs : List Value) (k : Nat) (a : Act), (∀ i, k ≤ i → i < k + l.length → L i = true) → fill l L vs k a = fill l (fun _ => true) vs k a := by
      intro l
      induction l with
      | nil => intro L vs k a _; cases vs <;> rfl
      | cons o l ih =>
        intro L vs k a h
        cases vs with
        | nil => rfl
        | cons v vs =>
          simp only [fill]
          rw [h k (Nat.le_refl _) (by simp), if_pos rfl, if_pos trivial]
          exact ih L vs (k + 1) _ (fun i h1 h2 => h i (by omega) (by simp; omega))
    have := he vs w hR.len (fun j p hp => hR.vals j p hp (hall j (by
      by_cases hjl : j < l.length
      · exact hjl
      · exfalso
        have hz : ∀ (r : List Oper) (q : List (Value → World → Prop)) (i : Nat), StepsVA P l Q a0 ps R G i r q → q.length = r.length := by
          intro r
          induction r with
          | nil => intro q i h; cases q with
            | nil => rfl
            | cons _ _ => exact h.elim
          | cons o r ih => intro q i h; cases q with
            | nil => exact h.elim
            | cons p q => simp [ih q (i + 1) h.2]
        have h1 := hz l ps 0 hs
        have h2 := (List.getElem?_eq_some_iff.1 hp).1
        omega))) L hall (by have hg := hR.glob; rw [hR.frame, hfa l L vs 0 a0 (fun i _ h2 => hall i (by omega))] at hg; exact hg)
    rw [hR.frame, hfa l L vs 0 a0 (fun i _ h2 => hall i (by omega))]
    exact this
end Go.Proofs.YtodgfbjjjgohgaaGreat
namespace Go.Proofs.YtodgfbjjjgohgaaGreat
open Go.RowKit

/-- an operation that is no defer goes within a round as without -/
theorem wpIn_of_wp {P : Program} {o : Oper} {a : Act} {w : World} {K : Act → World → Prop} {Q : Exit → Act → World → Prop} (l n : Nat) (hnd : ∀ c, o.op ≠ .defer c) (h : Oper.wp P o a w K Q) : Oper.wpIn (Fence.wide.inRound l) n P o a w K Q := by
  refine ⟨fun _ _ => trivial, ?_⟩
  rw [Oper.semAt_plain (Fence.wide.inRound l) a.eval o hnd]
  unfold Oper.wp at h
  generalize (execOp a.eval o).run P w = r at h ⊢
  match r, h with
  | .ok (.value v) w', h => exact h
  | .ok .skip w', h => exact h
  | .ok (.defer d) w', h => exact h
  | .ok (.enter f args) w', h => exact ⟨(fun e => by cases e), callsIn_wide.2 h⟩
  | .ok (.row row args) w', h => exact ⟨(fun e => by cases e), fun c cs _ => let ⟨v, w'', q, s⟩ := h c cs; ⟨v, w'', q, stepsIn_wide.2 s⟩⟩
  | .halt (.panic v) w', h => exact h
def noDefer (l : List Oper) : Bool := l.all fun o => match o.op with
  | .defer _ => false
  | _ => true
theorem wpIn_region_valsA {P : Program} {id : Nat} {l : List Oper} {a0 : Act} {w0 : World} {Q : Exit → Act → World → Prop} {lr n : Nat} (ps : List (Value → World → Prop)) (R : Nat → World → World → Prop) (G : (Nat → Bool) → Act → World → Prop)
    (hm : P.follows .mixedOrders = true) (hb : (l.zipIdx.all fun oi => oi.1.after.all (fun e => !Region.binds .any e || decide (e.on < oi.2))) = true) (hgd : (l.all fun o => o.guard.isNone) = true) (hnd : noDefer l = true) (hd : dstsB l = true)
    (hst : StaysL l R 0 ps) (h0 : G (fun _ => false) a0 w0.drew)
    (hs : StepsVA P l Q a0 ps R G 0 l ps)
    (he : ∀ vs w, vs.length = l.length → (∀ (j : Nat) (p : Value → World → Prop), ps[j]? = some p → ∃ v, vs[j]? = some v ∧ p v w) → (∀ L, (∀ i, i < l.length → L i = true) → G L (fill l (fun _ => true) vs 0 a0) w → Q .normal (fill l (fun _ => true) vs 0 a0) w)) :
    (Code.region id l.toArray true).wpIn (Fence.wide.inRound lr) n P Q a0 w0 := by
  refine wpIn_region_inv (fun L a w => ∃ vs, RegSA l a0 ps G L vs a w) hm hb hgd ?_ ?_ ?_
  · have hf : ∀ (l : List Oper) (vs : List Value) (k : Nat) (a : Act), fill l (fun _ => false) vs k a = a := by
      intro l
      induction l with
      | nil => intro vs k a; cases vs <;> rfl
      | cons o l ih => intro vs k a; cases vs with
        | nil => rfl
        | cons v vs => simp only [fill]; rw [if_neg (by simp)]; exact ih vs (k + 1) a
    exact ⟨List.replicate l.length undef, hd, by simp, (hf _ _ _ _).symm, (fun j p _ h => by cases h), (fun j o _ h => by cases h), h0⟩
  · have key : ∀ (r : List Oper) (k : Nat), (∀ j o, r[j]? = some o → l[k + j]? = some o) → StepsOKIn (Fence.wide.inRound lr) n P l.toArray Q (fun L a w => ∃ vs, RegSA l a0 ps G L vs a w) k r := by
      intro r
      induction r with
      | nil => intro k _; trivial
      | cons o r ih =>
        intro k hk
        refine ⟨?_, ih (k + 1) (fun j o' ho => by rw [show k + 1 + j = k + (j + 1) by omega]; exact hk (j + 1) o' (by simpa using ho))⟩
        rintro L a w ⟨vs, hR⟩ hf hdp K hK
        have hlk : l[k]? = some o := by simpa using hk 0 o (by simp)
        have hmem := List.mem_of_getElem? hlk
        have hno : ∀ c, o.op ≠ .defer c := fun c e => by
          have := List.all_eq_true.1 hnd o hmem
          rw [e] at this; cases this
        have hgn : o.guard = none := by simpa using List.all_eq_true.1 hgd o hmem
        obtain ⟨p, hp, hS⟩ := stepsVA_at l ps 0 hs k o hlk
        rw [Nat.zero_add] at hS
        refine wpIn_of_wp lr n hno ?_
        have key2 := hS L vs a w hR hf hdp K (fun v w' hRw hpv hG => hK _ _ ⟨vs.set k v, hd, by simpa using hR.len, ?_, ?_, ?_, hG⟩)
        · have hw : Region.wanted o (yielded l.toArray a.tmps) = true := by simp [Region.wanted, hgn]
          rwa [if_pos hw] at key2
        · have := fill_set l L vs 0 a0 k o v hd hlk hR.len (by simpa using hf)
          rw [hR.frame, this, Nat.zero_add]
        · intro j p' hp' hL'
          by_cases hjk : j = k
          · subst hjk
            rw [hp] at hp'; cases hp'
            have hjl : j < vs.length := by rw [hR.len]; exact (List.getElem?_eq_some_iff.1 hlk).1
            exact ⟨v, by simp [hjl], hpv⟩
          · have hLj : L j = true := by simpa [lset, hjk] using hL'
            obtain ⟨v', h1, h2⟩ := hR.vals j p' hp' hLj
            exact ⟨v', by rw [List.getElem?_set_ne (fun e => hjk e.symm)]; exact h1, staysL_at ps 0 hst j p' hp' k (by omega) (by
              rw [Nat.zero_add]
              cases hw : waitsB l j k with
              | false => rfl
              | true =>
                unfold waitsB at hw
                cases ho : l[j]? with
                | none => rw [ho] at hw; cases hw
                | some oj =>
                  rw [ho] at hw
                  have := hR.notYet j k ho (by simpa using hf) hw
                  rw [this] at hLj; cases hLj) v' w w' h2 hRw⟩
        · intro j o' ho' hL' e hee hbd
          by_cases hjk : j = k
          · subst hjk
            rw [hlk] at ho'; cases ho'
            have := hdp e hee hbd
            unfold lset; split
            · rfl
            · exact this
          · have hLj : L j = true := by simpa [lset, hjk] using hL'
            have := hR.closed j o' ho' hLj e hee hbd
            unfold lset; split
            · rfl
            · exact this
    exact key l 0 (fun j o h => by simpa using h)
  · rintro L a w ⟨vs, hR⟩ hall
    have hfa : ∀ (l : List Oper) (L : Nat → Bool) (vs : List Value) (k : Nat) (a : Act), (∀ i, k ≤ i → i < k + l.length → L i = true) → fill l L vs k a = fill l (fun _ => true) vs k a := by
      intro l
      induction l with
      | nil => intro L vs k a _; cases vs <;> rfl
      | cons o l ih =>
        intro L vs k a h
        cases vs with
        | nil => rfl
        | cons v vs =>
          simp only [fill]
          rw [h k (Nat.le_refl _) (by simp), if_pos rfl, if_pos trivial]
          exact ih L vs (k + 1) _ (fun i h1 h2 => h i (by omega) (by simp; omega))
    have := he vs w hR.len (fun j p hp => hR.vals j p hp (hall j (by
      by_cases hjl : j < l.length
      · exact hjl
      · exfalso
        have hz : ∀ (r : List Oper) (q : List (Value → World → Prop)) (i : Nat), StepsVA P l Q a0 ps R G i r q → q.length = r.length := by
          intro r
          induction r with
          | nil => intro q i h; cases q with
            | nil => rfl
            | cons _ _ => exact h.elim
          | cons o r ih => intro q i h; cases q with
            | nil => exact h.elim
            | cons p q => simp [ih q (i + 1) h.2]
        have h1 := hz l ps 0 hs
        have h2 := (List.getElem?_eq_some_iff.1 hp).1
        omega))) L hall (by have hg := hR.glob; rw [hR.frame, hfa l L vs 0 a0 (fun i _ h2 => hall i (by omega))] at hg; exact hg)
    rw [hR.frame, hfa l L vs 0 a0 (fun i _ h2 => hall i (by omega))]
    exact this
end Go.Proofs.YtodgfbjjjgohgaaGreat
