/-
 A REGION THAT DRAWS ITS ORDER,BY AN INVARIANT,GUARDS LET IN;and the invariant that says of each slot what it holds.
-/
import Derived.RegionTactic
import Derived.WalkKit
import Derived.Lib.Hide
import Derived.RegionIn
import Derived.OwnWalkIn
import Derived.Below
namespace Go.Proofs.YtodgfbjjjgohgaaGreat
open Go.RowKit

def lst (L : Array Bool) : Nat -> Bool := fun i => L.getD i false
def lset (L : Nat -> Bool) (i : Nat) : Nat -> Bool := fun j => if j = i then true else L j

theorem lst_set (L : Array Bool) (i : Nat) (h : i < L.size) : lst (L.setIfInBounds i true) = lset (lst L) i := by
 funext j
 unfold lst lset
 by_cases e : j = i
 ·subst e;simp [h]
 ·rw [if_neg e]
  simp only [Array.getD_eq_getD_getElem?]
  rw [Array.getElem?_setIfInBounds_ne (fun h => e h.symm)]

theorem all_listed {md : Region.Mode} {ops : Array Oper} (L : Array Bool) (hs : L.size = ops.size)
  (hb : ∀ (i : Nat) (o : Oper),ops[i]? = some o -> ∀ e ∈ o.after,Region.binds md e = true -> e.on < i) (hr : Region.ready md ops L = []) : ∀ i,i < ops.size -> lst L i = true := by
 intro i
 induction i using Nat.strongRecOn with
 | _ i ih =>
  intro hi
  cases hL : lst L i with
  | true => rfl
  | false =>
   have ho : ops[i]? = some ops[i] := Array.getElem?_eq_getElem hi
   have : i ∈ Region.ready md ops L := mem_ready.2 ⟨by
    unfold lst at hL
    have hi' : i < L.size := by omega
    simp [hi'] at hL ⊢
    exact hL,_,ho,fun e he hbd => by
    have := hb i _ ho e he hbd
    exact ih e.on this (by omega)⟩
   rw [hr] at this;cases this

theorem count_set (L : Array Bool) (i : Nat) (h : i < L.size) (hf : lst L i = false) : (L.setIfInBounds i true).toList.count false + 1 = L.toList.count false := by
 have e : L.toList[i]'(by simpa using h) = false := by
  unfold lst at hf;simp [h] at hf;simpa using hf
 have := List.count_set (a := true) (b := false) (l := L.toList) (i := i) (by simpa using h)
 rw [Array.toList_setIfInBounds,this,e]
 have hp : 0 < L.toList.count false := List.count_pos_iff.2 (by rw [<- e];exact List.getElem_mem _)
 rw [if_pos (by rfl),if_neg (by simp)]
 omega

section
variable {P : Program} {ops : Array Oper} {Q : Exit -> Act -> World -> Prop} (I : (Nat -> Bool) -> Act -> World -> Prop)

end
end Go.Proofs.YtodgfbjjjgohgaaGreat
namespace Go.Proofs.YtodgfbjjjgohgaaGreat
open Go.RowKit
section
variable {F : Fence} {n : Nat} {P : Program} {ops : Array Oper} {Q : Exit -> Act -> World -> Prop} (I : (Nat -> Bool) -> Act -> World -> Prop)

def StepsOKIn (F : Fence) (n : Nat) (P : Program) (ops : Array Oper) (Q : Exit -> Act -> World -> Prop) (I : (Nat -> Bool) -> Act -> World -> Prop) : Nat -> List Oper -> Prop
 | _,[] => True
 | k,o :: l => (∀ L a w,I L a w -> L k = false -> (∀ e ∈ o.after,Region.binds .any e = true -> L e.on = true) -> ∀ K : Act -> World -> Prop,(∀ a w,I (lset L k) a w -> K a w) -> Oper.wpIn F n P o a w K Q) /\ StepsOKIn F n P ops Q I (k + 1) l

theorem stepsOKIn_at : ∀ (l : List Oper) (k : Nat),StepsOKIn F n P ops Q I k l -> ∀ j o,l[j]? = some o -> ∀ L a w,I L a w -> L (k + j) = false -> (∀ e ∈ o.after,Region.binds .any e = true -> L e.on = true) -> ∀ K : Act -> World -> Prop,(∀ a w,I (lset L (k + j)) a w -> K a w) -> Oper.wpIn F n P o a w K Q
 | [],_,_,j,o,h => by simp at h
 | o :: l,k,hs,0,o',h => by
  simp at h;subst h
  exact hs.1
 | o :: l,k,hs,j + 1,o',h => by
  rw [show k + (j + 1) = k + 1 + j by omega]
  exact stepsOKIn_at l (k + 1) hs.2 j o' (by simpa using h)

theorem wpAnyIn_inv (hb : ∀ (i : Nat) (o : Oper),ops[i]? = some o -> ∀ e ∈ o.after,Region.binds .any e = true -> e.on < i) (hg : ∀ (i : Nat) (o : Oper),ops[i]? = some o -> o.guard = none)
  (hs : StepsOKIn F n P ops Q I 0 ops.toList) (he : ∀ L a w,I L a w -> (∀ i,i < ops.size -> L i = true) -> Q .normal a w) :
  ∀ (f : Nat) (L : Array Bool) (a : Act) (w : World),L.size = ops.size -> L.toList.count false = f -> I (lst L) a w -> wpAnyIn F n P .any ops Q f L a w
 | 0,L,a,w,hz,hc,hI => by
  have hall : ∀ i,i < ops.size -> lst L i = true := fun i hi => by
   cases h : lst L i with
   | true => rfl
   | false => have := count_set L i (by omega) h;omega
  refine ⟨?_,he _ _ _ hI hall⟩
  rw [List.eq_nil_iff_forall_not_mem]
  intro i hi
  obtain ⟨h1,o,ho,_⟩ := mem_ready.1 hi
  have hlt : i < ops.size := (Array.getElem?_eq_some_iff.1 ho).1
  have := hall i hlt
  unfold lst at this
  have hi' : i < L.size := by omega
  simp [hi'] at this h1
  rw [this] at h1;cases h1
 | f + 1,L,a,w,hz,hc,hI => by
  refine ⟨fun hr => he _ _ _ hI (all_listed L hz hb hr),fun i hi => ?_⟩
  obtain ⟨h1,o,ho,hd⟩ := mem_ready.1 hi
  have hlt : i < ops.size := (Array.getElem?_eq_some_iff.1 ho).1
  have hi' : i < L.size := by omega
  have hf : lst L i = false := by unfold lst;simp [hi'] at h1 ⊢;exact h1
  have hw : Region.wanted o (yielded ops a.tmps) = true := by simp [Region.wanted,hg i o ho]
  refine wpOpIn_step ho fun K' hK => ?_
  rw [if_pos hw]
  refine stepsOKIn_at I ops.toList 0 hs i o (by simpa using ho) (lst L) a w hI (by simpa using hf) (fun e hem hbd => hd e hem hbd) K' (fun a' w' h' => hK a' w' ?_)
  refine wpAnyIn_inv hb hg hs he f _ a' w' (by simpa using hz) (by have := count_set L i hi' hf;omega) ?_
  rw [lst_set L i hi']
  simpa using h'

theorem wpIn_region_inv {id : Nat} {l : List Oper} {a : Act} {w : World} (hm : P.follows .mixedOrders = true)
  (hb : (l.zipIdx.all fun oi => oi.1.after.all (fun e => !Region.binds .any e || decide (e.on < oi.2))) = true) (hg : (l.all fun o => o.guard.isNone) = true)
  (h0 : I (fun _ => false) a w.drew) (hs : StepsOKIn F n P l.toArray Q I 0 l) (he : ∀ L a w,I L a w -> (∀ i,i < l.length -> L i = true) -> Q .normal a w) : (Code.region id l.toArray true).wpIn F n P Q a w := by
 refine wpIn_region_any hm ?_
 refine wpAnyIn_inv I ?_ ?_ (by simpa using hs) (fun L a w hI h => he L a w hI (fun i hi => h i (by simpa using hi))) _ _ a _ (by simp) ?_ ?_
 ·intro i o ho e hem hbd
  have h1 := List.all_eq_true.1 hb (o,i) (by rw [List.mem_zipIdx_iff_getElem?];simpa using ho)
  have h2 := Array.all_eq_true'.1 h1 e hem
  simpa [hbd] using h2
 ·intro i o ho
  have h1 := List.all_eq_true.1 hg o (List.mem_of_getElem? (by simpa using ho))
  simpa using h1
 ·simp
 ·have : lst (Array.replicate l.toArray.size false) = fun _ => false := by
   funext j;unfold lst;simp [Array.getElem?_replicate]
   split <;> rfl
  rw [this];exact h0
end

end Go.Proofs.YtodgfbjjjgohgaaGreat
namespace Go.Proofs.YtodgfbjjjgohgaaGreat
open Go.RowKit

section
variable {P : Program} {ops : Array Oper} {Q : Exit -> Act -> World -> Prop} (I : (Nat -> Bool) -> Act -> World -> Prop)

def StepsOKG (P : Program) (ops : Array Oper) (Q : Exit -> Act -> World -> Prop) (I : (Nat -> Bool) -> Act -> World -> Prop) : Nat -> List Oper -> Prop
 | _,[] => True
 | k,o :: l => (∀ L a w,I L a w -> L k = false -> (∀ e ∈ o.after,Region.binds .any e = true -> L e.on = true) -> ∀ K : Act -> World -> Prop,(∀ a w,I (lset L k) a w -> K a w) -> if Region.wanted o (yielded ops a.tmps) = true then Oper.wp P o a w K Q else K (a.put o.dst undef) w) /\ StepsOKG P ops Q I (k + 1) l

theorem stepsOKG_at : ∀ (l : List Oper) (k : Nat),StepsOKG P ops Q I k l -> ∀ j o,l[j]? = some o -> ∀ L a w,I L a w -> L (k + j) = false -> (∀ e ∈ o.after,Region.binds .any e = true -> L e.on = true) -> ∀ K : Act -> World -> Prop,(∀ a w,I (lset L (k + j)) a w -> K a w) -> if Region.wanted o (yielded ops a.tmps) = true then Oper.wp P o a w K Q else K (a.put o.dst undef) w
 | [],_,_,j,o,h => by simp at h
 | o :: l,k,hs,0,o',h => by
  simp at h;subst h
  exact hs.1
 | o :: l,k,hs,j + 1,o',h => by
  rw [show k + (j + 1) = k + 1 + j by omega]
  exact stepsOKG_at l (k + 1) hs.2 j o' (by simpa using h)

theorem wpAny_invG (hb : ∀ (i : Nat) (o : Oper),ops[i]? = some o -> ∀ e ∈ o.after,Region.binds .any e = true -> e.on < i)
  (hs : StepsOKG P ops Q I 0 ops.toList) (he : ∀ L a w,I L a w -> (∀ i,i < ops.size -> L i = true) -> Q .normal a w) :
  ∀ (f : Nat) (L : Array Bool) (a : Act) (w : World),L.size = ops.size -> L.toList.count false = f -> I (lst L) a w -> wpAny P .any ops Q f L a w
 | 0,L,a,w,hz,hc,hI => by
  have hall : ∀ i,i < ops.size -> lst L i = true := fun i hi => by
   cases h : lst L i with
   | true => rfl
   | false => have := count_set L i (by omega) h;omega
  refine ⟨?_,he _ _ _ hI hall⟩
  rw [List.eq_nil_iff_forall_not_mem]
  intro i hi
  obtain ⟨h1,o,ho,_⟩ := mem_ready.1 hi
  have hlt : i < ops.size := (Array.getElem?_eq_some_iff.1 ho).1
  have := hall i hlt
  unfold lst at this
  have hi' : i < L.size := by omega
  simp [hi'] at this h1
  rw [this] at h1;cases h1
 | f + 1,L,a,w,hz,hc,hI => by
  refine ⟨fun hr => he _ _ _ hI (all_listed L hz hb hr),fun i hi => ?_⟩
  obtain ⟨h1,o,ho,hd⟩ := mem_ready.1 hi
  have hlt : i < ops.size := (Array.getElem?_eq_some_iff.1 ho).1
  have hi' : i < L.size := by omega
  have hf : lst L i = false := by unfold lst;simp [hi'] at h1 ⊢;exact h1
  refine wpOp_step ho fun K' hK => ?_
  refine stepsOKG_at I ops.toList 0 hs i o (by simpa using ho) (lst L) a w hI (by simpa using hf) (fun e hem hbd => hd e hem hbd) K' (fun a' w' h' => hK a' w' ?_)
  refine wpAny_invG hb hs he f _ a' w' (by simpa using hz) (by have := count_set L i hi' hf;omega) ?_
  rw [lst_set L i hi']
  simpa using h'

theorem wp_region_invG {id : Nat} {l : List Oper} {a : Act} {w : World} (hm : P.follows .mixedOrders = true)
  (hb : (l.zipIdx.all fun oi => oi.1.after.all (fun e => !Region.binds .any e || decide (e.on < oi.2))) = true)
  (h0 : I (fun _ => false) a w.drew) (hs : StepsOKG P l.toArray Q I 0 l) (he : ∀ L a w,I L a w -> (∀ i,i < l.length -> L i = true) -> Q .normal a w) : (Code.region id l.toArray true).wp P Q a w := by
 refine wp_region_any hm ?_
 refine wpAny_invG I ?_ (by simpa using hs) (fun L a w hI h => he L a w hI (fun i hi => h i (by simpa using hi))) _ _ a _ (by simp) ?_ ?_
 ·intro i o ho e hem hbd
  have h1 := List.all_eq_true.1 hb (o,i) (by rw [List.mem_zipIdx_iff_getElem?];simpa using ho)
  have h2 := Array.all_eq_true'.1 h1 e hem
  simpa [hbd] using h2
 ·simp
 ·have : lst (Array.replicate l.toArray.size false) = fun _ => false := by
   funext j;unfold lst;simp [Array.getElem?_replicate]
   split <;> rfl
  rw [this];exact h0
end

def Vals (L : Nat -> Bool) (W : World) : Nat -> List (Value -> World -> Prop) -> List Value -> Prop
 | _,[],[] => True
 | k,p :: ps,v :: vs => (L k = true -> p v W) /\ Vals L W (k + 1) ps vs
 | _,_,_ => False
def Stays (p : Value -> World -> Prop) : Prop := ∀ v w w',p v w -> Below w.heap.size w w' -> p v w'
def Is (c : Value) : Value -> World -> Prop := fun v _ => v = c
def Any : Value -> World -> Prop := fun _ _ => True
theorem deps_of' {o : Oper} {L : Nat -> Bool} (h : ∀ e ∈ o.after,Region.binds .any e = true -> L e.on = true) (j : Nat) (hj : (o.after.any fun e => Region.binds .any e && e.on == j) = true) : L j = true := by
 obtain ⟨e,he,h2⟩ := Array.any_eq_true'.1 hj
 simp only [Bool.and_eq_true,beq_iff_eq] at h2
 rw [<- h2.2];exact h e he h2.1
end Go.Proofs.YtodgfbjjjgohgaaGreat
