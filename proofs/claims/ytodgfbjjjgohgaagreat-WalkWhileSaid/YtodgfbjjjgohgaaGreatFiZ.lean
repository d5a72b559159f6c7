/-
 A REGION THAT DRAWS ITS ORDER,as in Fa,INSIDE A ROUND OF A RANGE OVER A FUNCTION: the steps as outside of it.
-/
import Derived.Test.YtodgfbjjjgohgaaGreatInvGZ
namespace Go.Proofs.YtodgfbjjjgohgaaGreat
open Go.RowKit

def fill : List Oper -> (Nat -> Bool) -> List Value -> Nat -> Act -> Act
 | o :: l,L,v :: vs,k,a => fill l L vs (k + 1) (if L k = true then a.put o.dst v else a)
 | _,_,_,_,a => a
def dstsB : List Oper -> Bool
 | [] => true
 | o :: l => (match o.dst with | none => true | some d => l.all (fun o' => o'.dst != some d)) && dstsB l
theorem fill_congr : ∀ (l : List Oper) (L L' : Nat -> Bool) (vs : List Value) (k : Nat) (a : Act),(∀ i,k <= i -> L i = L' i) -> fill l L vs k a = fill l L' vs k a
 | [],_,_,vs,_,_,_ => by cases vs <;> rfl
 | _ :: _,_,_,[],_,_,_ => rfl
 | o :: l,L,L',v :: vs,k,a,h => by
  simp only [fill]
  rw [h k (Nat.le_refl _)]
  exact fill_congr l L L' vs (k + 1) _ (fun i hi => h i (by omega))
theorem fill_put : ∀ (l : List Oper) (L : Nat -> Bool) (vs : List Value) (k : Nat) (a : Act) (d : Option Tmp) (v : Value),(∀ x,d = some x -> ∀ o ∈ l,o.dst ≠ some x) -> fill l L vs k (a.put d v) = (fill l L vs k a).put d v
 | [],_,vs,_,_,_,_,_ => by cases vs <;> rfl
 | _ :: _,_,[],_,_,_,_,_ => rfl
 | o :: l,L,u :: vs,k,a,d,v,h => by
  simp only [fill]
  have hd : ∀ x,d = some x -> o.dst ≠ some x := fun x hx => h x hx o (by simp)
  have ht : ∀ x,d = some x -> ∀ o ∈ l,o.dst ≠ some x := fun x hx o' ho => h x hx o' (by simp [ho])
  by_cases hk : L k = true
  ·rw [if_pos hk,if_pos hk,Act.put_comm a v u hd]
   exact fill_put l L vs (k + 1) _ d v ht
  ·rw [if_neg hk,if_neg hk]
   exact fill_put l L vs (k + 1) _ d v ht
theorem dstsB_cons {o : Oper} {l : List Oper} (h : dstsB (o :: l) = true) : (∀ x,o.dst = some x -> ∀ o' ∈ l,o'.dst ≠ some x) /\ dstsB l = true := by
 simp only [dstsB,Bool.and_eq_true] at h
 refine ⟨fun x hx o' ho => ?_,h.2⟩
 have h1 := h.1
 rw [hx] at h1
 have := List.all_eq_true.1 h1 o' ho
 simpa using this
theorem fill_set : ∀ (l : List Oper) (L : Nat -> Bool) (vs : List Value) (k : Nat) (a : Act) (j : Nat) (o : Oper) (v : Value),dstsB l = true -> l[j]? = some o -> vs.length = l.length -> L (k + j) = false →
  (fill l L vs k a).put o.dst v = fill l (lset L (k + j)) (vs.set j v) k a
 | [],_,_,_,_,j,_,_,_,h,_,_ => by simp at h
 | o' :: l,L,[],_,_,_,_,_,_,_,h,_ => by simp at h
 | o' :: l,L,u :: vs,k,a,0,o,v,hd,h,hl,hf => by
  simp at h hf
  subst h
  obtain ⟨h1,h2⟩ := dstsB_cons hd
  simp only [fill,List.set_cons_zero]
  rw [if_neg (by simp [hf]),if_pos (by simp [lset]),<- fill_put l L vs (k + 1) a o'.dst v h1]
  exact fill_congr l _ _ vs (k + 1) _ (fun i hi => by unfold lset;rw [if_neg (by omega)])
 | o' :: l,L,u :: vs,k,a,j + 1,o,v,hd,h,hl,hf => by
  obtain ⟨h1,h2⟩ := dstsB_cons hd
  simp only [fill,List.set_cons_succ]
  have e : lset L (k + (j + 1)) k = L k := by unfold lset;rw [if_neg (by omega)]
  rw [e,show k + (j + 1) = k + 1 + j by omega]
  exact fill_set l L vs (k + 1) _ j o v h2 (by simpa using h) (by simpa using hl) (by rw [show k + 1 + j = k + (j + 1) by omega];exact hf)
theorem getD_put_ne {a : Act} {d : Option Tmp} {v : Value} {s : Nat} (h : d ≠ some s) : (a.put d v).tmps.getD s undef = a.tmps.getD s undef := by
 cases d with
 | none => rfl
 | some x =>
  have hne : x ≠ s := fun e => h (by rw [e])
  simp [Act.put,Array.getElem?_setIfInBounds_ne hne]
theorem fill_size : ∀ (l : List Oper) (L : Nat -> Bool) (vs : List Value) (k : Nat) (a : Act),(fill l L vs k a).tmps.size = a.tmps.size
 | [],_,vs,_,_ => by cases vs <;> rfl
 | _ :: _,_,[],_,_ => rfl
 | o :: l,L,v :: vs,k,a => by
  simp only [fill]
  rw [fill_size l L vs (k + 1)]
  by_cases hk : L k = true
  ·rw [if_pos hk];cases hd : o.dst <;> simp [Act.put]
  ·rw [if_neg hk]
theorem fill_old : ∀ (l : List Oper) (L : Nat -> Bool) (vs : List Value) (k : Nat) (a : Act) (s : Nat),(∀ (j : Nat) (o : Oper),l[j]? = some o -> o.dst = some s -> L (k + j) = false) -> (fill l L vs k a).tmps.getD s undef = a.tmps.getD s undef
 | [],_,vs,_,_,_,_ => by cases vs <;> rfl
 | _ :: _,_,[],_,_,_,_ => rfl
 | o :: l,L,v :: vs,k,a,s,h => by
  simp only [fill]
  rw [fill_old l L vs (k + 1) _ s (fun j o' ho hs => by rw [show k + 1 + j = k + (j + 1) by omega];exact h (j + 1) o' (by simpa using ho) hs)]
  by_cases hk : L k = true
  ·rw [if_pos hk]
   refine getD_put_ne (fun e => ?_)
   have := h 0 o (by simp) e
   simp [hk] at this
  ·rw [if_neg hk]
theorem fill_new : ∀ (l : List Oper) (L : Nat -> Bool) (vs : List Value) (k : Nat) (a : Act) (j s : Nat) (o : Oper) (v : Value),dstsB l = true -> l[j]? = some o -> o.dst = some s -> vs[j]? = some v -> L (k + j) = true -> s < a.tmps.size -> (fill l L vs k a).tmps.getD s undef = v
 | [],_,_,_,_,_,_,_,_,_,h,_,_,_,_ => by simp at h
 | _ :: _,_,[],_,_,_,_,_,_,_,_,_,h,_,_ => by simp at h
 | o' :: l,L,u :: vs,k,a,0,s,o,v,hd,h,hs,hv,hL,hz => by
  simp at h hv hL
  subst h hv
  obtain ⟨h1,_⟩ := dstsB_cons hd
  simp only [fill]
  rw [fill_old l L vs (k + 1) _ s (fun j o2 ho hs2 => absurd hs2 (h1 s hs o2 (List.mem_of_getElem? ho))),if_pos hL,hs]
  simp [Act.put,hz]
 | o' :: l,L,u :: vs,k,a,j + 1,s,o,v,hd,h,hs,hv,hL,hz => by
  simp only [fill]
  refine fill_new l L vs (k + 1) _ j s o v (dstsB_cons hd).2 (by simpa using h) hs (by simpa using hv) (by rw [show k + 1 + j = k + (j + 1) by omega];exact hL) ?_
  by_cases hk : L k = true
  ·rw [if_pos hk];cases hd : o'.dst <;> simp [Act.put,hz]
  ·rw [if_neg hk];exact hz

structure RegSt (l : List Oper) (a0 : Act) (ps : List (Value -> World -> Prop)) (G : (Nat -> Bool) -> World -> Prop) (L : Nat -> Bool) (vs : List Value) (a : Act) (w : World) : Prop where
 dst : dstsB l = true
 len : vs.length = l.length
 frame : a = fill l L vs 0 a0
 vals : ∀ (j : Nat) (p : Value -> World -> Prop),ps[j]? = some p -> L j = true -> ∃ v,vs[j]? = some v /\ p v w
 closed : ∀ (j : Nat) (o : Oper),l[j]? = some o -> L j = true -> ∀ e ∈ o.after,Region.binds .any e = true -> L e.on = true
 glob : G L w
section
variable {l : List Oper} {a0 : Act} {ps : List (Value -> World -> Prop)} {G : (Nat -> Bool) -> World -> Prop} {L : Nat -> Bool} {vs : List Value} {a : Act} {w : World}
theorem RegSt.val (h : RegSt l a0 ps G L vs a w) (j s : Nat) {o : Oper} {p : Value -> World -> Prop} (ho : l[j]? = some o) (hs : o.dst = some s) (hp : ps[j]? = some p) (hL : L j = true) (hz : decide (s < a0.tmps.size) = true) : ∃ v,a.tmps[s]?.getD undef = v /\ p v w := by
 obtain ⟨v,hv,hpv⟩ := h.vals j p hp hL
 refine ⟨v,?_,hpv⟩
 rw [h.frame]
 have := fill_new l L vs 0 a0 j s o v h.dst ho hs hv (by simpa using hL) (of_decide_eq_true hz)
 simpa using this
theorem RegSt.is (h : RegSt l a0 ps G L vs a w) (j s : Nat) {o : Oper} {c : Value} (ho : l[j]? = some o) (hs : o.dst = some s) (hp : ps[j]? = some (Is c)) (hL : L j = true) (hz : decide (s < a0.tmps.size) = true) : a.tmps[s]?.getD undef = c := by
 obtain ⟨v,h1,h2⟩ := h.val j s ho hs hp hL hz
 rw [h1];exact h2
theorem RegSt.iz (h : RegSt l a0 ps G L vs a w) {o' : Oper} (hd : ∀ e ∈ o'.after,Region.binds .any e = true -> L e.on = true) (j s : Nat) {o : Oper} {c : Value} (ho : l[j]? = some o) (hs : o.dst = some s) (hp : ps[j]? = some (Is c)) (hb : ((o'.after.any fun e => Region.binds .any e && e.on == j) && decide (s < a0.tmps.size)) = true) : a.tmps[s]?.getD undef = c := by
 rw [Bool.and_eq_true] at hb
 exact h.is j s ho hs hp (deps_of' hd j hb.1) hb.2
theorem isv {ps : List (Value -> World -> Prop)} {xs : List Value} {W : World} (hv : ∀ (j : Nat) (p : Value -> World -> Prop),ps[j]? = some p -> ∃ v,xs[j]? = some v /\ p v W) (j : Nat) {c x : Value} (h1 : ps[j]? = some (Is c)) (h2 : xs[j]? = some x) : c = x := by
 obtain ⟨v,h3,h4⟩ := hv j _ h1
 rw [h2] at h3
 cases h3
 exact h4.symm
def noDst (l : List Oper) (s : Nat) : Bool := l.all (fun o => o.dst != some s)
theorem RegSt.old (h : RegSt l a0 ps G L vs a w) (s : Nat) (hn : noDst l s = true) : a.tmps[s]?.getD undef = a0.tmps[s]?.getD undef := by
 rw [h.frame]
 have := fill_old l L vs 0 a0 s (fun j o ho hs => by
  have := List.all_eq_true.1 hn o (List.mem_of_getElem? ho)
  simp [hs] at this)
 simpa using this
def laterB (l : List Oper) (s i : Nat) : Bool := l.all (fun o => o.dst != some s || o.after.any (fun e => Region.binds .any e && e.on == i))
theorem RegSt.later (h : RegSt l a0 ps G L vs a w) (s i : Nat) (hi : L i = false) (hn : laterB l s i = true) : a.tmps[s]?.getD undef = a0.tmps[s]?.getD undef := by
 rw [h.frame]
 have := fill_old l L vs 0 a0 s (fun j o ho hs => by
  have h1 := List.all_eq_true.1 hn o (List.mem_of_getElem? ho)
  simp [hs] at h1
  cases hj : L j with
  | false => simpa using hj
  | true =>
   obtain ⟨k,hk,e1,e2⟩ := h1
   have := h.closed j o ho hj o.after[k] (Array.getElem_mem hk) e1
   rw [e2,hi] at this
   cases this)
 simpa using this
theorem RegSt.notYet (h : RegSt l a0 ps G L vs a w) (j i : Nat) {o : Oper} (ho : l[j]? = some o) (hi : L i = false) (hn : (o.after.any (fun e => Region.binds .any e && e.on == i)) = true) : L j = false := by
 cases hj : L j with
 | false => rfl
 | true =>
  obtain ⟨e,he,h2⟩ := Array.any_eq_true'.1 hn
  simp only [Bool.and_eq_true,beq_iff_eq] at h2
  have := h.closed j o ho hj e he h2.1
  rw [h2.2,hi] at this
  cases this
end
def StepV (P : Program) (l : List Oper) (Q : Exit -> Act -> World -> Prop) (a0 : Act) (ps : List (Value -> World -> Prop)) (R : Nat -> World -> World -> Prop) (G : (Nat -> Bool) -> World -> Prop) (i : Nat) (o : Oper) (p : Value -> World -> Prop) : Prop :=
 ∀ L vs a w,RegSt l a0 ps G L vs a w -> L i = false -> (∀ e ∈ o.after,Region.binds .any e = true -> L e.on = true) →
  ∀ K : Act -> World -> Prop,(∀ v w',R i w w' -> p v w' -> G (lset L i) w' -> K (a.put o.dst v) w') -> if Region.wanted o (yielded l.toArray a.tmps) = true then Oper.wp P o a w K Q else K (a.put o.dst undef) w
def StepsV (P : Program) (l : List Oper) (Q : Exit -> Act -> World -> Prop) (a0 : Act) (ps : List (Value -> World -> Prop)) (R : Nat -> World -> World -> Prop) (G : (Nat -> Bool) -> World -> Prop) : Nat -> List Oper -> List (Value -> World -> Prop) -> Prop
 | i,o :: r,p :: q => StepV P l Q a0 ps R G i o p /\ StepsV P l Q a0 ps R G (i + 1) r q
 | _,[],[] => True
 | _,_,_ => False
theorem stepsV_at {P : Program} {l : List Oper} {Q : Exit -> Act -> World -> Prop} {a0 : Act} {ps : List (Value -> World -> Prop)} {R : Nat -> World -> World -> Prop} {G : (Nat -> Bool) -> World -> Prop} :
  ∀ (r : List Oper) (q : List (Value -> World -> Prop)) (i : Nat),StepsV P l Q a0 ps R G i r q -> ∀ j o,r[j]? = some o -> ∃ p,q[j]? = some p /\ StepV P l Q a0 ps R G (i + j) o p
 | [],_,_,_,_,_,h => by simp at h
 | _ :: _,[],_,h,_,_,_ => h.elim
 | o :: r,p :: q,i,h,0,o',ho => by
  simp at ho;subst ho
  exact ⟨p,rfl,h.1⟩
 | o :: r,p :: q,i,h,j + 1,o',ho => by
  obtain ⟨p',h1,h2⟩ := stepsV_at r q (i + 1) h.2 j o' (by simpa using ho)
  exact ⟨p',by simpa using h1,by rw [show i + (j + 1) = i + 1 + j by omega];exact h2⟩

def waitsB (l : List Oper) (j i : Nat) : Bool := match l[j]? with | some o => o.after.any (fun e => Region.binds .any e && e.on == i) | none => false
theorem wanted_eq {l : List Oper} {a : Act} {o oj : Oper} {j s : Nat} {b c : Bool} (hg : o.guard = some (j,b)) (hj : l[j]? = some oj) (hs : oj.dst = some s) (h : a.tmps[s]?.getD undef = .bool c) : Region.wanted o (yielded l.toArray a.tmps) = (c == b) := by
 have h2 : a.tmps[s]? = some (.bool c) := by
  cases hq : a.tmps[s]? with
  | none => rw [hq] at h;cases h
  | some v => rw [hq] at h;exact congrArg some h
 unfold Region.wanted yielded
 rw [hg]
 simp [hj,hs,h2]
theorem if_wanted {l : List Oper} {a : Act} {o oj : Oper} {j s : Nat} {b c : Bool} {X Y : Prop} (hg : o.guard = some (j,b)) (hj : l[j]? = some oj) (hs : oj.dst = some s) (h : a.tmps[s]?.getD undef = .bool c) (hcb : (c == b) = true) (hx : X) :
  if Region.wanted o (yielded l.toArray a.tmps) = true then X else Y := by
 rw [if_pos (by rw [wanted_eq hg hj hs h];exact hcb)];exact hx
theorem if_unwanted {l : List Oper} {a : Act} {o oj : Oper} {j s : Nat} {b c : Bool} {X Y : Prop} (hg : o.guard = some (j,b)) (hj : l[j]? = some oj) (hs : oj.dst = some s) (h : a.tmps[s]?.getD undef = .bool c) (hcb : (c == b) = false) (hy : Y) :
  if Region.wanted o (yielded l.toArray a.tmps) = true then X else Y := by
 rw [if_neg (by rw [wanted_eq hg hj hs h,hcb];simp)];exact hy
def StaysL (l : List Oper) (R : Nat -> World -> World -> Prop) : Nat -> List (Value -> World -> Prop) -> Prop
 | _,[] => True
 | j,p :: q => (∀ i,i ≠ j -> waitsB l j i = false -> ∀ v w w',p v w -> R i w w' -> p v w') /\ StaysL l R (j + 1) q
theorem staysL_at {l : List Oper} {R : Nat -> World -> World -> Prop} : ∀ (q : List (Value -> World -> Prop)) (k : Nat),StaysL l R k q -> ∀ j p,q[j]? = some p -> ∀ i,i ≠ k + j -> waitsB l (k + j) i = false -> ∀ v w w',p v w -> R i w w' -> p v w'
 | [],_,_,_,_,h => by simp at h
 | p :: q,k,h,0,p',hp => by
  simp at hp;subst hp
  exact h.1
 | p :: q,k,h,j + 1,p',hp => by
  rw [show k + (j + 1) = k + 1 + j by omega]
  exact staysL_at q (k + 1) h.2 j p' (by simpa using hp)

theorem wp_region_vals {P : Program} {id : Nat} {l : List Oper} {a0 : Act} {w0 : World} {Q : Exit -> Act -> World -> Prop} (ps : List (Value -> World -> Prop)) (R : Nat -> World -> World -> Prop) (G : (Nat -> Bool) -> World -> Prop)
  (hm : P.follows .mixedOrders = true) (hb : (l.zipIdx.all fun oi => oi.1.after.all (fun e => !Region.binds .any e || decide (e.on < oi.2))) = true) (hd : dstsB l = true)
  (hst : StaysL l R 0 ps) (h0 : G (fun _ => false) w0.drew)
  (hs : StepsV P l Q a0 ps R G 0 l ps)
  (he : ∀ vs w,vs.length = l.length -> (∀ (j : Nat) (p : Value -> World -> Prop),ps[j]? = some p -> ∃ v,vs[j]? = some v /\ p v w) -> (∀ L,(∀ i,i < l.length -> L i = true) -> G L w -> Q .normal (fill l (fun _ => true) vs 0 a0) w)) :
  (Code.region id l.toArray true).wp P Q a0 w0 := by
 refine wp_region_invG (fun L a w => ∃ vs,RegSt l a0 ps G L vs a w) hm hb ?_ ?_ ?_
 ·have hf : ∀ (l : List Oper) (vs : List Value) (k : Nat) (a : Act),fill l (fun _ => false) vs k a = a := by
   intro l
   induction l with
   | nil => intro vs k a;cases vs <;> rfl
   | cons o l ih => intro vs k a;cases vs with
    | nil => rfl
    | cons v vs => simp only [fill];rw [if_neg (by simp)];exact ih vs (k + 1) a
  exact ⟨List.replicate l.length undef,hd,by simp,(hf _ _ _ _).symm,(fun j p _ h => by cases h),(fun j o _ h => by cases h),h0⟩
 ·have key : ∀ (r : List Oper) (k : Nat),(∀ j o,r[j]? = some o -> l[k + j]? = some o) -> StepsOKG P l.toArray Q (fun L a w => ∃ vs,RegSt l a0 ps G L vs a w) k r := by
   intro r
   induction r with
   | nil => intro k _;trivial
   | cons o r ih =>
    intro k hk
    refine ⟨?_,ih (k + 1) (fun j o' ho => by rw [show k + 1 + j = k + (j + 1) by omega];exact hk (j + 1) o' (by simpa using ho))⟩
    rintro L a w ⟨vs,hR⟩ hf hdp K hK
    have hlk : l[k]? = some o := by simpa using hk 0 o (by simp)
    obtain ⟨p,hp,hS⟩ := stepsV_at l ps 0 hs k o hlk
    rw [Nat.zero_add] at hS
    refine hS L vs a w hR hf hdp K (fun v w' hRw hpv hG => hK _ _ ⟨vs.set k v,hd,by simpa using hR.len,?_,?_,?_,hG⟩)
    ·have := fill_set l L vs 0 a0 k o v hd hlk hR.len (by simpa using hf)
     rw [hR.frame,this,Nat.zero_add]
    ·intro j p' hp' hL'
     by_cases hjk : j = k
     ·subst hjk
      rw [hp] at hp';cases hp'
      have hjl : j < vs.length := by rw [hR.len];exact (List.getElem?_eq_some_iff.1 hlk).1
      exact ⟨v,by simp [hjl],hpv⟩
     ·have hLj : L j = true := by simpa [lset,hjk] using hL'
      obtain ⟨v',h1,h2⟩ := hR.vals j p' hp' hLj
      exact ⟨v',by rw [List.getElem?_set_ne (fun e => hjk e.symm)];exact h1,staysL_at ps 0 hst j p' hp' k (by omega) (by
       rw [Nat.zero_add]
       cases hw : waitsB l j k with
       | false => rfl
       | true =>
        unfold waitsB at hw
        cases ho : l[j]? with
        | none => rw [ho] at hw;cases hw
        | some oj =>
         rw [ho] at hw
         have := hR.notYet j k ho (by simpa using hf) hw
         rw [this] at hLj;cases hLj) v' w w' h2 hRw⟩
    ·intro j o' ho' hL' e hee hbd
     by_cases hjk : j = k
     ·subst hjk
      rw [hlk] at ho';cases ho'
      have := hdp e hee hbd
      unfold lset;split
      ·rfl
      ·exact this
     ·have hLj : L j = true := by simpa [lset,hjk] using hL'
      have := hR.closed j o' ho' hLj e hee hbd
      unfold lset;split
      ·rfl
      ·exact this
  exact key l 0 (fun j o h => by simpa using h)
 ·rintro L a w ⟨vs,hR⟩ hall
  have hfa : ∀ (l : List Oper) (L : Nat -> Bool) (vs : List Value) (k : Nat) (a : Act),(∀ i,k <= i -> i < k + l.length -> L i = true) -> fill l L vs k a = fill l (fun _ => true) vs k a := by
   intro l
   induction l with
   | nil => intro L vs k a _;cases vs <;> rfl
   | cons o l ih =>
    intro L vs k a h
    cases vs with
    | nil => rfl
    | cons v vs =>
     simp only [fill]
     rw [h k (Nat.le_refl _) (by simp),if_pos rfl,if_pos trivial]
     exact ih L vs (k + 1) _ (fun i h1 h2 => h i (by omega) (by simp;omega))
  have := he vs w hR.len (fun j p hp => hR.vals j p hp (hall j (by
   by_cases hjl : j < l.length
   ·exact hjl
   ·exfalso
    have hz : ∀ (r : List Oper) (q : List (Value -> World -> Prop)) (i : Nat),StepsV P l Q a0 ps R G i r q -> q.length = r.length := by
     intro r
     induction r with
     | nil => intro q i h;cases q with
      | nil => rfl
      | cons _ _ => exact h.elim
     | cons o r ih => intro q i h;cases q with
      | nil => exact h.elim
      | cons p q => simp [ih q (i + 1) h.2]
    have h1 := hz l ps 0 hs
    have h2 := (List.getElem?_eq_some_iff.1 hp).1
    omega))) L hall hR.glob
  rw [hR.frame,hfa l L vs 0 a0 (fun i _ h2 => hall i (by omega))]
  exact this
end Go.Proofs.YtodgfbjjjgohgaaGreat
namespace Go.Proofs.YtodgfbjjjgohgaaGreat
open Go.RowKit

structure RegSA (l : List Oper) (a0 : Act) (ps : List (Value -> World -> Prop)) (G : (Nat -> Bool) -> Act -> World -> Prop) (L : Nat -> Bool) (vs : List Value) (a : Act) (w : World) : Prop where
 dst : dstsB l = true
 len : vs.length = l.length
 frame : a = fill l L vs 0 a0
 vals : ∀ (j : Nat) (p : Value -> World -> Prop),ps[j]? = some p -> L j = true -> ∃ v,vs[j]? = some v /\ p v w
 closed : ∀ (j : Nat) (o : Oper),l[j]? = some o -> L j = true -> ∀ e ∈ o.after,Region.binds .any e = true -> L e.on = true
 glob : G L a w
section
variable {l : List Oper} {a0 : Act} {ps : List (Value -> World -> Prop)} {G : (Nat -> Bool) -> Act -> World -> Prop} {L : Nat -> Bool} {vs : List Value} {a : Act} {w : World}
theorem RegSA.val (h : RegSA l a0 ps G L vs a w) (j s : Nat) {o : Oper} {p : Value -> World -> Prop} (ho : l[j]? = some o) (hs : o.dst = some s) (hp : ps[j]? = some p) (hL : L j = true) (hz : decide (s < a0.tmps.size) = true) : ∃ v,a.tmps[s]?.getD undef = v /\ p v w := by
 obtain ⟨v,hv,hpv⟩ := h.vals j p hp hL
 refine ⟨v,?_,hpv⟩
 rw [h.frame]
 have := fill_new l L vs 0 a0 j s o v h.dst ho hs hv (by simpa using hL) (of_decide_eq_true hz)
 simpa using this
theorem RegSA.is (h : RegSA l a0 ps G L vs a w) (j s : Nat) {o : Oper} {c : Value} (ho : l[j]? = some o) (hs : o.dst = some s) (hp : ps[j]? = some (Is c)) (hL : L j = true) (hz : decide (s < a0.tmps.size) = true) : a.tmps[s]?.getD undef = c := by
 obtain ⟨v,h1,h2⟩ := h.val j s ho hs hp hL hz
 rw [h1];exact h2
theorem RegSA.old (h : RegSA l a0 ps G L vs a w) (s : Nat) (hn : noDst l s = true) : a.tmps[s]?.getD undef = a0.tmps[s]?.getD undef := by
 rw [h.frame]
 have := fill_old l L vs 0 a0 s (fun j o ho hs => by
  have := List.all_eq_true.1 hn o (List.mem_of_getElem? ho)
  simp [hs] at this)
 simpa using this
theorem RegSA.later (h : RegSA l a0 ps G L vs a w) (s i : Nat) (hi : L i = false) (hn : laterB l s i = true) : a.tmps[s]?.getD undef = a0.tmps[s]?.getD undef := by
 rw [h.frame]
 have := fill_old l L vs 0 a0 s (fun j o ho hs => by
  have h1 := List.all_eq_true.1 hn o (List.mem_of_getElem? ho)
  simp [hs] at h1
  cases hj : L j with
  | false => simpa using hj
  | true =>
   obtain ⟨k,hk,e1,e2⟩ := h1
   have := h.closed j o ho hj o.after[k] (Array.getElem_mem hk) e1
   rw [e2,hi] at this
   cases this)
 simpa using this
theorem RegSA.notYet (h : RegSA l a0 ps G L vs a w) (j i : Nat) {o : Oper} (ho : l[j]? = some o) (hi : L i = false) (hn : (o.after.any (fun e => Region.binds .any e && e.on == i)) = true) : L j = false := by
 cases hj : L j with
 | false => rfl
 | true =>
  obtain ⟨e,he,h2⟩ := Array.any_eq_true'.1 hn
  simp only [Bool.and_eq_true,beq_iff_eq] at h2
  have := h.closed j o ho hj e he h2.1
  rw [h2.2,hi] at this
  cases this
end
def StepVA (P : Program) (l : List Oper) (Q : Exit -> Act -> World -> Prop) (a0 : Act) (ps : List (Value -> World -> Prop)) (R : Nat -> World -> World -> Prop) (G : (Nat -> Bool) -> Act -> World -> Prop) (i : Nat) (o : Oper) (p : Value -> World -> Prop) : Prop :=
 ∀ L vs a w,RegSA l a0 ps G L vs a w -> L i = false -> (∀ e ∈ o.after,Region.binds .any e = true -> L e.on = true) →
  ∀ K : Act -> World -> Prop,(∀ v w',R i w w' -> p v w' -> G (lset L i) (a.put o.dst v) w' -> K (a.put o.dst v) w') -> if Region.wanted o (yielded l.toArray a.tmps) = true then Oper.wp P o a w K Q else K (a.put o.dst undef) w
def StepsVA (P : Program) (l : List Oper) (Q : Exit -> Act -> World -> Prop) (a0 : Act) (ps : List (Value -> World -> Prop)) (R : Nat -> World -> World -> Prop) (G : (Nat -> Bool) -> Act -> World -> Prop) : Nat -> List Oper -> List (Value -> World -> Prop) -> Prop
 | i,o :: r,p :: q => StepVA P l Q a0 ps R G i o p /\ StepsVA P l Q a0 ps R G (i + 1) r q
 | _,[],[] => True
 | _,_,_ => False
theorem stepsVA_at {P : Program} {l : List Oper} {Q : Exit -> Act -> World -> Prop} {a0 : Act} {ps : List (Value -> World -> Prop)} {R : Nat -> World -> World -> Prop} {G : (Nat -> Bool) -> Act -> World -> Prop} :
  ∀ (r : List Oper) (q : List (Value -> World -> Prop)) (i : Nat),StepsVA P l Q a0 ps R G i r q -> ∀ j o,r[j]? = some o -> ∃ p,q[j]? = some p /\ StepVA P l Q a0 ps R G (i + j) o p
 | [],_,_,_,_,_,h => by simp at h
 | _ :: _,[],_,h,_,_,_ => h.elim
 | o :: r,p :: q,i,h,0,o',ho => by
  simp at ho;subst ho
  exact ⟨p,rfl,h.1⟩
 | o :: r,p :: q,i,h,j + 1,o',ho => by
  obtain ⟨p',h1,h2⟩ := stepsVA_at r q (i + 1) h.2 j o' (by simpa using ho)
  exact ⟨p',by simpa using h1,by rw [show i + (j + 1) = i + 1 + j by omega];exact h2⟩

theorem wp_region_valsA {P : Program} {id : Nat} {l : List Oper} {a0 : Act} {w0 : World} {Q : Exit -> Act -> World -> Prop} (ps : List (Value -> World -> Prop)) (R : Nat -> World -> World -> Prop) (G : (Nat -> Bool) -> Act -> World -> Prop)
  (hm : P.follows .mixedOrders = true) (hb : (l.zipIdx.all fun oi => oi.1.after.all (fun e => !Region.binds .any e || decide (e.on < oi.2))) = true) (hd : dstsB l = true)
  (hst : StaysL l R 0 ps) (h0 : G (fun _ => false) a0 w0.drew)
  (hs : StepsVA P l Q a0 ps R G 0 l ps)
  (he : ∀ vs w,vs.length = l.length -> (∀ (j : Nat) (p : Value -> World -> Prop),ps[j]? = some p -> ∃ v,vs[j]? = some v /\ p v w) -> (∀ L,(∀ i,i < l.length -> L i = true) -> G L (fill l (fun _ => true) vs 0 a0) w -> Q .normal (fill l (fun _ => true) vs 0 a0) w)) :
  (Code.region id l.toArray true).wp P Q a0 w0 := by
 refine wp_region_invG (fun L a w => ∃ vs,RegSA l a0 ps G L vs a w) hm hb ?_ ?_ ?_
 ·have hf : ∀ (l : List Oper) (vs : List Value) (k : Nat) (a : Act),fill l (fun _ => false) vs k a = a := by
   intro l
   induction l with
   | nil => intro vs k a;cases vs <;> rfl
   | cons o l ih => intro vs k a;cases vs with
    | nil => rfl
    | cons v vs => simp only [fill];rw [if_neg (by simp)];exact ih vs (k + 1) a
  exact ⟨List.replicate l.length undef,hd,by simp,(hf _ _ _ _).symm,(fun j p _ h => by cases h),(fun j o _ h => by cases h),h0⟩
 ·have key : ∀ (r : List Oper) (k : Nat),(∀ j o,r[j]? = some o -> l[k + j]? = some o) -> StepsOKG P l.toArray Q (fun L a w => ∃ vs,RegSA l a0 ps G L vs a w) k r := by
   intro r
   induction r with
   | nil => intro k _;trivial
   | cons o r ih =>
    intro k hk
    refine ⟨?_,ih (k + 1) (fun j o' ho => by rw [show k + 1 + j = k + (j + 1) by omega];exact hk (j + 1) o' (by simpa using ho))⟩
    rintro L a w ⟨vs,hR⟩ hf hdp K hK
    have hlk : l[k]? = some o := by simpa using hk 0 o (by simp)
    obtain ⟨p,hp,hS⟩ := stepsVA_at l ps 0 hs k o hlk
    rw [Nat.zero_add] at hS
    refine hS L vs a w hR hf hdp K (fun v w' hRw hpv hG => hK _ _ ⟨vs.set k v,hd,by simpa using hR.len,?_,?_,?_,hG⟩)
    ·have := fill_set l L vs 0 a0 k o v hd hlk hR.len (by simpa using hf)
     rw [hR.frame,this,Nat.zero_add]
    ·intro j p' hp' hL'
     by_cases hjk : j = k
     ·subst hjk
      rw [hp] at hp';cases hp'
      have hjl : j < vs.length := by rw [hR.len];exact (List.getElem?_eq_some_iff.1 hlk).1
      exact ⟨v,by simp [hjl],hpv⟩
     ·have hLj : L j = true := by simpa [lset,hjk] using hL'
      obtain ⟨v',h1,h2⟩ := hR.vals j p' hp' hLj
      exact ⟨v',by rw [List.getElem?_set_ne (fun e => hjk e.symm)];exact h1,staysL_at ps 0 hst j p' hp' k (by omega) (by
       rw [Nat.zero_add]
       cases hw : waitsB l j k with
       | false => rfl
       | true =>
        unfold waitsB at hw
        cases ho : l[j]? with
        | none => rw [ho] at hw;cases hw
        | some oj =>
         rw [ho] at hw
         have := hR.notYet j k ho (by simpa using hf) hw
         rw [this] at hLj;cases hLj) v' w w' h2 hRw⟩
    ·intro j o' ho' hL' e hee hbd
     by_cases hjk : j = k
     ·subst hjk
      rw [hlk] at ho';cases ho'
      have := hdp e hee hbd
      unfold lset;split
      ·rfl
      ·exact this
     ·have hLj : L j = true := by simpa [lset,hjk] using hL'
      have := hR.closed j o' ho' hLj e hee hbd
      unfold lset;split
      ·rfl
      ·exact this
  exact key l 0 (fun j o h => by simpa using h)
 ·rintro L a w ⟨vs,hR⟩ hall
  have hfa : ∀ (l : List Oper) (L : Nat -> Bool) (vs : List Value) (k : Nat) (a : Act),(∀ i,k <= i -> i < k + l.length -> L i = true) -> fill l L vs k a = fill l (fun _ => true) vs k a := by
   intro l
   induction l with
   | nil => intro L vs k a _;cases vs <;> rfl
   | cons o l ih =>
    intro L vs k a h
    cases vs with
    | nil => rfl
    | cons v vs =>
     simp only [fill]
     rw [h k (Nat.le_refl _) (by simp),if_pos rfl,if_pos trivial]
     exact ih L vs (k + 1) _ (fun i h1 h2 => h i (by omega) (by simp;omega))
  have := he vs w hR.len (fun j p hp => hR.vals j p hp (hall j (by
   by_cases hjl : j < l.length
   ·exact hjl
   ·exfalso
    have hz : ∀ (r : List Oper) (q : List (Value -> World -> Prop)) (i : Nat),StepsVA P l Q a0 ps R G i r q -> q.length = r.length := by
     intro r
     induction r with
     | nil => intro q i h;cases q with
      | nil => rfl
      | cons _ _ => exact h.elim
     | cons o r ih => intro q i h;cases q with
      | nil => exact h.elim
      | cons p q => simp [ih q (i + 1) h.2]
    have h1 := hz l ps 0 hs
    have h2 := (List.getElem?_eq_some_iff.1 hp).1
    omega))) L hall (by have hg := hR.glob;rw [hR.frame,hfa l L vs 0 a0 (fun i _ h2 => hall i (by omega))] at hg;exact hg)
  rw [hR.frame,hfa l L vs 0 a0 (fun i _ h2 => hall i (by omega))]
  exact this
end Go.Proofs.YtodgfbjjjgohgaaGreat
namespace Go.Proofs.YtodgfbjjjgohgaaGreat
open Go.RowKit

theorem wpIn_of_wp {P : Program} {o : Oper} {a : Act} {w : World} {K : Act -> World -> Prop} {Q : Exit -> Act -> World -> Prop} (l n : Nat) (hnd : ∀ c,o.op ≠ .defer c) (h : Oper.wp P o a w K Q) : Oper.wpIn (Fence.wide.inRound l) n P o a w K Q := by
 refine ⟨fun _ _ => trivial,?_⟩
 rw [Oper.semAt_plain (Fence.wide.inRound l) a.eval o hnd]
 unfold Oper.wp at h
 generalize (execOp a.eval o).run P w = r at h ⊢
 match r,h with
 | .ok (.value v) w',h => exact h
 | .ok .skip w',h => exact h
 | .ok (.defer d) w',h => exact h
 | .ok (.enter f args) w',h => exact ⟨(fun e => by cases e),callsIn_wide.2 h⟩
 | .ok (.row row args) w',h => exact ⟨(fun e => by cases e),fun c cs _ => let ⟨v,w'',q,s⟩ := h c cs;⟨v,w'',q,stepsIn_wide.2 s⟩⟩
 | .halt (.panic v) w',h => exact h
def noDefer (l : List Oper) : Bool := l.all fun o => match o.op with
 | .defer _ => false
 | _ => true
theorem wpIn_region_valsA {P : Program} {id : Nat} {l : List Oper} {a0 : Act} {w0 : World} {Q : Exit -> Act -> World -> Prop} {lr n : Nat} (ps : List (Value -> World -> Prop)) (R : Nat -> World -> World -> Prop) (G : (Nat -> Bool) -> Act -> World -> Prop)
  (hm : P.follows .mixedOrders = true) (hb : (l.zipIdx.all fun oi => oi.1.after.all (fun e => !Region.binds .any e || decide (e.on < oi.2))) = true) (hgd : (l.all fun o => o.guard.isNone) = true) (hnd : noDefer l = true) (hd : dstsB l = true)
  (hst : StaysL l R 0 ps) (h0 : G (fun _ => false) a0 w0.drew)
  (hs : StepsVA P l Q a0 ps R G 0 l ps)
  (he : ∀ vs w,vs.length = l.length -> (∀ (j : Nat) (p : Value -> World -> Prop),ps[j]? = some p -> ∃ v,vs[j]? = some v /\ p v w) -> (∀ L,(∀ i,i < l.length -> L i = true) -> G L (fill l (fun _ => true) vs 0 a0) w -> Q .normal (fill l (fun _ => true) vs 0 a0) w)) :
  (Code.region id l.toArray true).wpIn (Fence.wide.inRound lr) n P Q a0 w0 := by
 refine wpIn_region_inv (fun L a w => ∃ vs,RegSA l a0 ps G L vs a w) hm hb hgd ?_ ?_ ?_
 ·have hf : ∀ (l : List Oper) (vs : List Value) (k : Nat) (a : Act),fill l (fun _ => false) vs k a = a := by
   intro l
   induction l with
   | nil => intro vs k a;cases vs <;> rfl
   | cons o l ih => intro vs k a;cases vs with
    | nil => rfl
    | cons v vs => simp only [fill];rw [if_neg (by simp)];exact ih vs (k + 1) a
  exact ⟨List.replicate l.length undef,hd,by simp,(hf _ _ _ _).symm,(fun j p _ h => by cases h),(fun j o _ h => by cases h),h0⟩
 ·have key : ∀ (r : List Oper) (k : Nat),(∀ j o,r[j]? = some o -> l[k + j]? = some o) -> StepsOKIn (Fence.wide.inRound lr) n P l.toArray Q (fun L a w => ∃ vs,RegSA l a0 ps G L vs a w) k r := by
   intro r
   induction r with
   | nil => intro k _;trivial
   | cons o r ih =>
    intro k hk
    refine ⟨?_,ih (k + 1) (fun j o' ho => by rw [show k + 1 + j = k + (j + 1) by omega];exact hk (j + 1) o' (by simpa using ho))⟩
    rintro L a w ⟨vs,hR⟩ hf hdp K hK
    have hlk : l[k]? = some o := by simpa using hk 0 o (by simp)
    have hmem := List.mem_of_getElem? hlk
    have hno : ∀ c,o.op ≠ .defer c := fun c e => by
     have := List.all_eq_true.1 hnd o hmem
     rw [e] at this;cases this
    have hgn : o.guard = none := by simpa using List.all_eq_true.1 hgd o hmem
    obtain ⟨p,hp,hS⟩ := stepsVA_at l ps 0 hs k o hlk
    rw [Nat.zero_add] at hS
    refine wpIn_of_wp lr n hno ?_
    have key2 := hS L vs a w hR hf hdp K (fun v w' hRw hpv hG => hK _ _ ⟨vs.set k v,hd,by simpa using hR.len,?_,?_,?_,hG⟩)
    ·have hw : Region.wanted o (yielded l.toArray a.tmps) = true := by simp [Region.wanted,hgn]
     rwa [if_pos hw] at key2
    ·have := fill_set l L vs 0 a0 k o v hd hlk hR.len (by simpa using hf)
     rw [hR.frame,this,Nat.zero_add]
    ·intro j p' hp' hL'
     by_cases hjk : j = k
     ·subst hjk
      rw [hp] at hp';cases hp'
      have hjl : j < vs.length := by rw [hR.len];exact (List.getElem?_eq_some_iff.1 hlk).1
      exact ⟨v,by simp [hjl],hpv⟩
     ·have hLj : L j = true := by simpa [lset,hjk] using hL'
      obtain ⟨v',h1,h2⟩ := hR.vals j p' hp' hLj
      exact ⟨v',by rw [List.getElem?_set_ne (fun e => hjk e.symm)];exact h1,staysL_at ps 0 hst j p' hp' k (by omega) (by
       rw [Nat.zero_add]
       cases hw : waitsB l j k with
       | false => rfl
       | true =>
        unfold waitsB at hw
        cases ho : l[j]? with
        | none => rw [ho] at hw;cases hw
        | some oj =>
         rw [ho] at hw
         have := hR.notYet j k ho (by simpa using hf) hw
         rw [this] at hLj;cases hLj) v' w w' h2 hRw⟩
    ·intro j o' ho' hL' e hee hbd
     by_cases hjk : j = k
     ·subst hjk
      rw [hlk] at ho';cases ho'
      have := hdp e hee hbd
      unfold lset;split
      ·rfl
      ·exact this
     ·have hLj : L j = true := by simpa [lset,hjk] using hL'
      have := hR.closed j o' ho' hLj e hee hbd
      unfold lset;split
      ·rfl
      ·exact this
  exact key l 0 (fun j o h => by simpa using h)
 ·rintro L a w ⟨vs,hR⟩ hall
  have hfa : ∀ (l : List Oper) (L : Nat -> Bool) (vs : List Value) (k : Nat) (a : Act),(∀ i,k <= i -> i < k + l.length -> L i = true) -> fill l L vs k a = fill l (fun _ => true) vs k a := by
   intro l
   induction l with
   | nil => intro L vs k a _;cases vs <;> rfl
   | cons o l ih =>
    intro L vs k a h
    cases vs with
    | nil => rfl
    | cons v vs =>
     simp only [fill]
     rw [h k (Nat.le_refl _) (by simp),if_pos rfl,if_pos trivial]
     exact ih L vs (k + 1) _ (fun i h1 h2 => h i (by omega) (by simp;omega))
  have := he vs w hR.len (fun j p hp => hR.vals j p hp (hall j (by
   by_cases hjl : j < l.length
   ·exact hjl
   ·exfalso
    have hz : ∀ (r : List Oper) (q : List (Value -> World -> Prop)) (i : Nat),StepsVA P l Q a0 ps R G i r q -> q.length = r.length := by
     intro r
     induction r with
     | nil => intro q i h;cases q with
      | nil => rfl
      | cons _ _ => exact h.elim
     | cons o r ih => intro q i h;cases q with
      | nil => exact h.elim
      | cons p q => simp [ih q (i + 1) h.2]
    have h1 := hz l ps 0 hs
    have h2 := (List.getElem?_eq_some_iff.1 hp).1
    omega))) L hall (by have hg := hR.glob;rw [hR.frame,hfa l L vs 0 a0 (fun i _ h2 => hall i (by omega))] at hg;exact hg)
  rw [hR.frame,hfa l L vs 0 a0 (fun i _ h2 => hall i (by omega))]
  exact this
end Go.Proofs.YtodgfbjjjgohgaaGreat
